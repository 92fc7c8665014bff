/- Contracts and plain laws, put together: Base, Num1, Num2, Num3, Mem, App, MapI, Keep, Dev0, Dev1, Dev2, Dev3, Dev4, Dev5, Dev6, Dev7, Open, Open2, Dev8, RowSet, Num4, Str1, Str2, Str3, Stamp1, Stamp2, RefS, NumLow1, NumBack1, StampRow1. -/
import Derived.WalkKit
import Derived.WalkSpells
import Derived.Deep.QuietTactic
import Derived.BigQuiet
import Derived.Deep.Draws
import Derived.Test.YtbnobjlphmkgeaaGreatDoorChecked
import Derived.Laws.CopyOwn
import Derived.Laws.MakeOwn
import Derived.Maps.AppendAt
import Derived.Deep.AppendLies
import Derived.OwnWalk
import Derived.Maps.Own
import Derived.Maps.OwnSet
import Derived.Maps.RangeWalk
import Derived.Deep.RegionHeld3
import Derived.Deep.LoopGhost
import Derived.Deep.RegionLaw
import Derived.ProofKit
import Derived.OpenShut
import Derived.ShutString
import Derived.ChangeOld
import Derived.SizedLaws
import Derived.Lib.SmallJoins
import Derived.Deep.Slices
import Derived.Deep.Fields
import Derived.Lib.ConvBytes
/- Words for memory that the other texts use: slices of bytes as lists; no program in sight. -/
namespace Go.Proofs.YtbnobjlphmkgeaaGreatDoor
open Go.RowKit

/-- a fact that the walk does not see -/
structure Hidden (p : Prop) : Prop where
  out : p
abbrev Bytes := List UInt8
/-- a byte as a cell -/
abbrev bv (c : UInt8) : Value := .int .u8 (c.toNat : Int)

/-- a text as a value -/
abbrev sv (l : Bytes) : Value := .string ⟨l.toArray⟩

/-- the slice that begins at A reads as the bytes l -/
def Rd (w : World) (A : Option Addr) (l : Bytes) : Prop :=
  ∀ j (h : j < l.length), ∃ b off, A = some ⟨b, off, none⟩ ∧ w.cell? ⟨b, off + j, none⟩ = some (bv l[j])

section
variable {w w' : World} {A : Option Addr} {l : Bytes}
theorem Rd.nil_ : Rd w A [] := fun j h => absurd h (by simp)
theorem Rd.below (h : Rd w A l) (hb : Below w.heap.size w w') : Rd w' A l := fun j hj => by
  obtain ⟨b, off, hA, hc⟩ := h j hj
  exact ⟨b, off, hA, (hb.cell (block_lt_of_cell hc)).trans hc⟩
theorem Rd.drewN (h : Rd w A l) (n : Nat) : Rd (w.drewN n) A l := h
theorem Rd.lt (h : Rd w A l) (hl : 0 < l.length) : ∃ b off, A = some ⟨b, off, none⟩ ∧ b < w.heap.size := by
  obtain ⟨b, off, hA, hc⟩ := h 0 hl
  exact ⟨b, off, hA, block_lt_of_cell hc⟩
theorem Rd.cut (h : Rd w A l) (a s : Nat) (hs : a + s ≤ l.length) : Rd w (A.map (·.add a)) ((l.drop a).take s) := fun j hj => by
  have hj' : j < s := by simp at hj; omega
  obtain ⟨b, off, rfl, hc⟩ := h (a + j) (by omega)
  refine ⟨b, off + a, by simp [Addr.add_lit], ?_⟩
  rw [Nat.add_assoc, hc]
  simp
theorem Rd.cutIf (h : Rd w A l) (a s c : Nat) (hs : a + s ≤ l.length) (hc : l.length ≤ c) : Rd w (if c = a then A else A.map (·.add a)) ((l.drop a).take s) := by
  by_cases hca : c = a
  · have : s = 0 := by omega
    subst this
    simpa using Rd.nil_
  · rw [if_neg hca]; exact h.cut a s hs
theorem Rd.take (h : Rd w A l) (s : Nat) (hs : s ≤ l.length) : Rd w A (l.take s) := fun j hj => by
  obtain ⟨b, off, rfl, hc⟩ := h j (by simp at hj; omega)
  refine ⟨b, off, rfl, ?_⟩
  rw [hc]; simp
theorem Rd.at_ {b off : Nat} (h : Rd w (some ⟨b, off, none⟩) l) (j : Nat) (hj : j < l.length) : w.cell? ⟨b, off + j, none⟩ = some (bv l[j]) := by
  obtain ⟨b', off', hA, hc⟩ := h j hj
  injection hA with hA
  injection hA with h1 h2
  subst h1 h2
  exact hc
theorem Rd.cells {ad : Addr} (h : Rd w (some ad) l) (j : Nat) (u : Value) (hu : (l.map bv)[j]? = some u) : w.cell? (ad.add j) = some u := by
  have hj : j < l.length := by
    have := (List.getElem?_eq_some_iff.1 hu).1
    simpa using this
  obtain ⟨b, off, hA, hc⟩ := h j hj
  injection hA with hA
  subst hA
  rw [Addr.add_lit, hc, ← hu]
  simp [hj]
end
theorem Rd.tail {w : World} {A : Option Addr} {l : Bytes} (h : Rd w A l) (k c : Nat) (hk : k ≤ l.length) (hc : l.length ≤ c) : Rd w (if c = k then A else A.map (·.add k)) (l.drop k) := by
  have := h.cutIf k (l.length - k) c (by omega) hc
  rwa [List.take_of_length_le (by simp)] at this
theorem one_bv {l : Bytes} : ∀ u ∈ l.map bv, u.oneCell' = true := by
  intro u hu
  obtain ⟨c, _, rfl⟩ := List.mem_map.1 hu
  rfl

/-- the slice v is the call's own (blocks from base on), and reads as l; e: the number of the type byte -/
def Own (w : World) (base e : Nat) (v : Value) (l : Bytes) : Prop := w.ownsRow base e 1 v l.length (l.map bv)

theorem Own.slice {w : World} {base e : Nat} {v : Value} {l : Bytes} (h : Own w base e v l) : ∃ A c, v = .slice A l.length c ∧ l.length ≤ c ∧ c ≤ maxLen ∧ Rd w A l := by
  rcases h.2 with ⟨rfl, h0⟩ | ⟨g, cap, cur, rfl, _, hh, hc, hm, hz, ht⟩
  · rw [h0]
    have : l = [] := List.eq_nil_of_length_eq_zero h0
    subst this
    exact ⟨none, 0, rfl, by simp, by simp, Rd.nil_⟩
  · refine ⟨_, cap, rfl, hc, hm, fun j hj => ⟨g, 0, rfl, ?_⟩⟩
    rw [Nat.zero_add, cell_of_row w g j cur e (0, 0) hh]
    have h1 : (l.map bv)[j]? = some (bv l[j]) := by simp [hj]
    rw [← ht, List.getElem?_take, if_pos (by omega)] at h1
    simpa using h1
theorem below_drewN {B : Nat} {a w : World} (h : Below B a w) (n : Nat) : Below B a (w.drewN n) := ⟨h.os, h.tape, h.output, h.size, h.block⟩
theorem grown_below {a w : World} (h : Below a.heap.size a w) (row : Option Nat) : a.grownBy w row := ⟨h.os, h.tape, h.output, h.size, fun i hi _ => h.block i hi⟩
theorem own_below {w w' : World} {base : Nat} {e : TypeId} {size : Nat} {v : Value} {n : Nat} {xs : List Value} (h : w.ownsRow base e size v n xs) (hb : Below w.heap.size w w') : w'.ownsRow base e size v n xs :=
  h.kept (grown_below hb none) (by cases hv : v.ownBlock <;> simp)
theorem grown_trans' {a b c : World} {row : Option Nat} (h : Below a.heap.size a b) (k : b.grownBy c row) : a.grownBy c row :=
  ⟨k.os.trans h.os, k.tape.trans h.tape, k.output.trans h.output, Nat.le_trans h.size k.size, fun i hi hne => (k.block i (Nat.lt_of_lt_of_le hi h.size) hne).trans (h.block i hi)⟩
end Go.Proofs.YtbnobjlphmkgeaaGreatDoor
/- The contracts of package num and of what it calls in package slices, over bytes. -/
namespace Go.Proofs.YtbnobjlphmkgeaaGreatDoor
open Go.RowKit

/-- what so many bytes have at most -/
def mostN (n : Int) : Int := 2 ^ (8 * n.toNat) - 1

/-- slices.Index: the first place, or -1 -/
def idxB (l : Bytes) (x : UInt8) : Int := if x ∈ l then (l.idxOf x : Int) else -1
theorem idxB_at (l : Bytes) (x : UInt8) (k : Nat) (hk : k < l.length) (hn : x ∉ l.take k) (he : l[k] = x) : idxB l x = k := by
  have hm : x ∈ l := by rw [← he]; exact List.getElem_mem hk
  unfold idxB
  rw [if_pos hm]
  have : l.idxOf x = k := by
    conv => lhs; rw [← List.take_append_drop k l]
    rw [List.idxOf_append, if_neg hn]
    have hd : l.drop k = x :: l.drop (k + 1) := by rw [List.drop_eq_getElem_cons hk, he]
    rw [hd]
    simp; omega
  rw [this]
theorem idxB_none (l : Bytes) (x : UInt8) (hn : x ∉ l) : idxB l x = -1 := if_neg hn
theorem bv_beq (x y : UInt8) : ((x.toNat : Int) == (y.toNat : Int)) = (x == y) := by
  rw [Bool.eq_iff_iff]
  simp only [beq_iff_eq]
  rw [← UInt8.toNat_inj]
  omega
theorem not_take_succ {l : Bytes} {x : UInt8} {k : Nat} (hk : k < l.length) (hn : x ∉ l.take k) (he : ¬ l[k] = x) : x ∉ l.take (k + 1) := by
  rw [List.take_succ_eq_append_getElem hk]
  simp only [List.mem_append, List.mem_singleton, not_or]
  exact ⟨hn, fun h => he h.symm⟩

theorem index_any (A : Option Addr) (n c : Nat) (l : Bytes) (x : UInt8) (w : World) (hn : l.length = n) (hl : n ≤ maxLen) (hr : Rd w A l) :
    Calls Tryz.prog 194 #[.slice A n c, bv x] w fun e w' => e = .returned (.int .i64 (idxB l x)) ∧ w = w' := by
  subst hn
  unfold maxLen at hl
  go_enter Tryz.func194, Tryz.ntmps194
  go_wp2
  go_loop [8] (fun i => ∃ k : Nat, k ≤ l.length ∧ i = .int .i64 k ∧ x ∉ l.take k) (fun i => l.length - (intOf i).toNat)
  case atStart => exact ⟨0, Nat.zero_le _, rfl, by simp⟩
  case round =>
    obtain ⟨k, hk, rfl, hnot⟩ := hrel
    by_cases hlt : k < l.length
    · obtain ⟨b, off, rfl, hc⟩ := hr k hlt
      by_cases he : l[k] = x
      · have hi := idxB_at l x k hlt hnot he
        have hb : ((x.toNat : Int) == (l[k].toNat : Int)) = true := by rw [bv_beq, he]; simp
        clear he
        go_wp2
        go_ret
        exact ⟨rfl, rfl⟩
      · have hb : ((x.toNat : Int) == (l[k].toNat : Int)) = false := by rw [bv_beq]; simpa using fun h => he h.symm
        have hnk := not_take_succ hlt hnot he
        clear he hnot
        go_wp2
        go_round
        case rel => exact ⟨k + 1, by omega, by go_num, hnk⟩
        case measure => simp [intOf]; omega
    · have hnn : x ∉ l := by rw [List.take_of_length_le (by omega)] at hnot; exact hnot
      have hi := idxB_none l x hnn
      go_wp2
      go_ret
      exact ⟨rfl, rfl⟩

/-- the number that bytes have, the low one first -/
def ofB : Bytes → Nat
  | [] => 0
  | c :: l => c.toNat + 256 * ofB l
theorem ofB_snoc (l : Bytes) (c : UInt8) : ofB (l ++ [c]) = ofB l + 2 ^ (8 * l.length) * c.toNat := by
  induction l with
  | nil => simp [ofB]
  | cons d l ih =>
    simp only [List.cons_append, ofB, ih, List.length_cons]
    rw [show 8 * (l.length + 1) = 8 * l.length + 8 from by omega, Nat.pow_add]
    rw [Nat.mul_add, Nat.add_assoc]
    congr 2
    rw [← Nat.mul_assoc, Nat.mul_comm 256, show 2 ^ 8 = 256 from rfl]
theorem ofB_lt (l : Bytes) : ofB l < 2 ^ (8 * l.length) := by
  induction l with
  | nil => simp [ofB]
  | cons d l ih =>
    simp only [ofB, List.length_cons]
    rw [show 8 * (l.length + 1) = 8 * l.length + 8 from by omega, Nat.pow_add]
    have := d.toNat_lt
    simp at this
    omega
theorem or_add (a b k : Nat) (h : a < 2 ^ k) : a ||| (2 ^ k * b) = a + 2 ^ k * b := by
  rw [Nat.or_comm, ← Nat.two_pow_add_eq_or_of_lt h]; omega
theorem i64_ofInt (a : Nat) (ha : a < 9223372036854775808) : (BitVec.ofInt 64 (a : Int)).toNat = a := by
  rw [BitVec.ofInt_natCast, BitVec.toNat_ofNat]; exact Nat.mod_eq_of_lt (by omega)
theorem i64_or (a b : Nat) (ha : a < 9223372036854775808) (hb : b < 9223372036854775808) : bits .or .i64 (a : Int) (b : Int) = ((a ||| b : Nat) : Int) := by
  have hx : a ||| b < 2 ^ 63 := Nat.or_lt_two_pow (by omega) (by omega)
  show IntKind.i64.wrap ((BitVec.ofInt 64 (a : Int) ||| BitVec.ofInt 64 (b : Int)).toNat : Int) = _
  rw [BitVec.toNat_or, i64_ofInt a ha, i64_ofInt b hb, IntKind.wrap_i64]
  omega
theorem u8_lt (c : UInt8) : c.toNat < 256 := c.toNat_lt
theorem wrap64_id (n : Int) (h0 : -9223372036854775808 ≤ n) (h : n ≤ 9223372036854775807) : wrap64 n = n := IntWalk.wrap64_in n ⟨h0, h⟩
theorem of_step (l : Bytes) (k : Nat) (hk : k < l.length) (hl : l.length ≤ 4) :
    bits .or .i64 (ofB (l.take k) : Int) (wrap64 (wrap64 (l[k].toNat : Int) * 2 ^ (8 * k))) = (ofB (l.take (k + 1)) : Int) := by
  have hc := u8_lt l[k]
  have h1 := ofB_lt (l.take k)
  have hlen : (l.take k).length = k := by simp; omega
  rw [hlen] at h1
  have hp : 2 ^ (8 * k) ≤ 16777216 := by
    have : k ≤ 3 := by omega
    calc 2 ^ (8 * k) ≤ 2 ^ 24 := Nat.pow_le_pow_right (by omega) (by omega)
      _ = 16777216 := by decide
  have hm : 2 ^ (8 * k) * l[k].toNat ≤ 16777216 * 256 := Nat.mul_le_mul hp (by omega)
  rw [wrap64_id (l[k].toNat : Int) (by omega) (by omega)]
  have hcast : (l[k].toNat : Int) * 2 ^ (8 * k) = ((2 ^ (8 * k) * l[k].toNat : Nat) : Int) := by
    rw [Int.natCast_mul, Int.mul_comm, Int.natCast_pow]; rfl
  rw [hcast, wrap64_id _ (by omega) (by omega), i64_or _ _ (by omega) (by omega), or_add _ _ _ h1, List.take_succ_eq_append_getElem hk, ofB_snoc, hlen]
theorem ret_i64 {a b : Int} (h : a = b) : Ending.returned (.int .i64 a) = .returned (.int .i64 b) := by rw [h]
theorem int_i64 {a b : Int} (h : a = b) : Value.int .i64 a = .int .i64 b := by rw [h]

theorem of_any (A : Option Addr) (n c : Nat) (l : Bytes) (w : World) (hn : l.length = n) (hl : n ≤ 4) (hr : Rd w A l) :
    Calls Tryz.prog 181 #[.slice A n c] w fun e w' => e = .returned (.int .i64 (ofB l)) ∧ w = w' := by
  subst hn
  go_enter Tryz.func181, Tryz.ntmps181
  go_wp2
  go_loop [3, 8] (fun n i => ∃ k : Nat, k ≤ l.length ∧ i = .int .i64 k ∧ n = .int .i64 (ofB (l.take k))) (fun _ i => l.length - (intOf i).toNat)
  case atStart => exact ⟨0, Nat.zero_le _, rfl, rfl⟩
  case round =>
    obtain ⟨k, hk, rfl, rfl⟩ := hrel
    by_cases hlt : k < l.length
    · obtain ⟨b, off, rfl, hc⟩ := hr k hlt
      go_wp2
      go_round
      case rel => exact ⟨k + 1, by omega, by go_num, int_i64 (of_step l k hlt hl)⟩
      case measure => simp [intOf]; omega
    · go_wp2
      go_ret
      exact ⟨ret_i64 (by rw [List.take_of_length_le (by omega)]), rfl⟩

end Go.Proofs.YtbnobjlphmkgeaaGreatDoor
/- The contract of num.Set: it writes the bytes of a number into a block. -/
namespace Go.Proofs.YtbnobjlphmkgeaaGreatDoor
open Go.RowKit

/-- a row in which other values stand from i on -/
def setB (cur : Array Value) (i : Nat) (l : List Value) : Array Value := (splice cur.toList i l).toArray
theorem setB_size (cur : Array Value) (i : Nat) (l : List Value) (h : i + l.length ≤ cur.size) : (setB cur i l).size = cur.size := by
  simp only [setB, List.size_toArray]; rw [length_splice _ _ _ (by simpa using h)]; simp
theorem setB_nil (cur : Array Value) (i : Nat) : setB cur i [] = cur := by simp [setB, splice]
theorem setB_snoc (cur : Array Value) (i : Nat) (l : List Value) (v : Value) (h : i + l.length < cur.size) :
    (setB cur i l).setIfInBounds (i + l.length) v = setB cur i (l ++ [v]) := by
  apply Array.ext'
  obtain ⟨cur⟩ := cur
  simp only [List.size_toArray] at h
  simp only [setB, splice, List.setIfInBounds_toArray]
  rw [List.set_append_right _ _ (by simp; omega)]
  have h1 : i + l.length - (cur.take i).length = l.length := by simp; omega
  rw [h1, List.set_append_right _ _ (by omega), Nat.sub_self]
  rw [List.drop_eq_getElem_cons h]
  simp [List.append_assoc, Nat.add_assoc]
theorem setB_at (cur : Array Value) (i : Nat) (l : List Value) (j : Nat) (h : i + l.length ≤ cur.size) :
    (setB cur i l)[j]? = if i ≤ j ∧ j < i + l.length then l[j - i]? else cur[j]? := by
  obtain ⟨cur⟩ := cur
  simp only [List.size_toArray] at h
  simp only [setB, splice, List.getElem?_toArray]
  have hl : (cur.take i).length = i := by simp; omega
  by_cases h1 : j < i
  · rw [if_neg (by omega), List.getElem?_append_left (by omega), List.getElem?_take, if_pos h1]
  · rw [List.getElem?_append_right (by omega), hl]
    by_cases h2 : j < i + l.length
    · rw [if_pos (by omega), List.getElem?_append_left (by omega)]
    · rw [if_neg (by omega), List.getElem?_append_right (by omega), List.getElem?_drop]
      congr 1; omega

/-- block g is a row of bytes of which the first are l; cap: how many cells; e: the type byte -/
def Row (w : World) (e g cap : Nat) (l : Bytes) : Prop :=
  ∃ cur, w.heap[g]? = some (.cells cur e (0, 0)) ∧ l.length ≤ cap ∧ cap ≤ maxLen ∧ cur.size = cap ∧ cur.toList.take l.length = l.map bv
section
variable {w w' : World} {e g cap : Nat} {l : Bytes}
theorem Row.own (h : Row w e g cap l) {base : Nat} (hb : base ≤ g) : Own w base e (.slice (some ⟨g, 0, none⟩) l.length cap) l := by
  obtain ⟨cur, hg, h1, h2, h3, h4⟩ := h
  exact ⟨by simp, .inr ⟨g, cap, cur, rfl, hb, hg, h1, h2, by omega, by simpa using h4⟩⟩
theorem Row.of_own {base : Nat} {v : Value} (h : Own w base e v l) (hn : v ≠ .slice none 0 0) : ∃ g cap, v = .slice (some ⟨g, 0, none⟩) l.length cap ∧ base ≤ g ∧ Row w e g cap l := by
  rcases h.2 with ⟨rfl, _⟩ | ⟨g, cap, cur, rfl, hb, hg, h1, h2, h3, h4⟩
  · exact absurd rfl hn
  · exact ⟨g, cap, rfl, hb, cur, hg, h1, h2, by omega, by simpa using h4⟩
theorem Row.cell (h : Row w e g cap l) (j : Nat) (hj : j < l.length) : w.cell? ⟨g, j, none⟩ = some (bv l[j]) := by
  obtain ⟨cur, hg, h1, h2, h3, h4⟩ := h
  rw [cell_of_row w g j cur e (0, 0) hg]
  have h5 : (l.map bv)[j]? = some (bv l[j]) := by simp [hj]
  rw [← h4, List.getElem?_take, if_pos (by omega)] at h5
  simpa using h5
theorem Row.rd (h : Row w e g cap l) : Rd w (some ⟨g, 0, none⟩) l := fun j hj => ⟨g, 0, rfl, by rw [Nat.zero_add]; exact h.cell j hj⟩
theorem Row.below {B : Nat} (h : Row w e g cap l) (hb : Below B w w') (hg : g < B) : Row w' e g cap l := by
  obtain ⟨cur, h0, h1⟩ := h
  exact ⟨cur, (hb.block g hg).trans h0, h1⟩
theorem Row.lt (h : Row w e g cap l) : g < w.heap.size := by
  obtain ⟨cur, h0, _⟩ := h
  exact (Array.getElem?_eq_some_iff.1 h0).1
theorem Row.le (h : Row w e g cap l) : l.length ≤ cap ∧ cap ≤ maxLen := by
  obtain ⟨cur, _, h1, h2, _⟩ := h
  exact ⟨h1, h2⟩
theorem splice_len (l bs : Bytes) (i : Nat) (h : i + bs.length ≤ l.length) : (splice l i bs).length = l.length := length_splice l i bs h
theorem Row.set_ (h : Row w e g cap l) (i : Nat) (bs : Bytes) (hi : i + bs.length ≤ l.length) (cur : Array Value) (hc : w.heap[g]? = some (.cells cur e (0, 0))) :
    Row (w.setRow g (setB cur i (bs.map bv))) e g cap (splice l i bs) := by
  obtain ⟨cur', hg, h1, h2, h3, h4⟩ := h
  rw [hc] at hg
  injection hg with hg
  injection hg with hg
  subst hg
  refine ⟨_, setRow_heap w g cur _ e _ hc, by rw [splice_len _ _ _ hi]; exact h1, h2, by rw [setB_size _ _ _ (by simp; omega)]; exact h3, ?_⟩
  have hlen := splice_len l bs i hi
  apply List.ext_getElem?
  intro j
  rw [hlen, List.getElem?_take]
  by_cases hj : j < l.length
  · rw [if_pos hj]
    have h5 : cur[j]? = (l.map bv)[j]? := by rw [← h4, List.getElem?_take, if_pos hj]; simp
    have h6 : (setB cur i (bs.map bv)).toList[j]? = (setB cur i (bs.map bv))[j]? := by simp
    rw [h6, setB_at _ _ _ _ (by simp; omega), h5]
    simp only [splice, List.length_map]
    have hl : (l.take i).length = i := by simp; omega
    rw [List.getElem?_map, List.getElem?_map, List.getElem?_map]
    by_cases h7 : j < i
    · rw [if_neg (by omega), List.getElem?_append_left (by omega), List.getElem?_take, if_pos h7]
    · rw [List.getElem?_append_right (by omega), hl]
      by_cases h8 : j < i + bs.length
      · rw [if_pos (by omega), List.getElem?_append_left (by omega)]
      · rw [if_neg (by omega), List.getElem?_append_right (by omega), List.getElem?_drop]
        congr 2; omega
  · rw [if_neg hj, List.getElem?_eq_none (by simp; omega)]
end

/-- the bytes of a number, the low one first -/
def numB (n : Nat) : Nat → Bytes
  | 0 => []
  | k + 1 => UInt8.ofNat (n % 256) :: numB (n / 256) k
theorem numB_length (n k : Nat) : (numB n k).length = k := by
  induction k generalizing n with
  | zero => rfl
  | succ k ih => simp [numB, ih]
theorem numB_succ (n k : Nat) : numB n (k + 1) = numB n k ++ [UInt8.ofNat (n / 2 ^ (8 * k) % 256)] := by
  induction k generalizing n with
  | zero => simp [numB]
  | succ k ih =>
    rw [numB, ih (n / 256)]
    conv => rhs; rw [numB]
    simp only [List.cons_append, List.cons.injEq, List.append_cancel_left_eq, true_and, and_true]
    rw [Nat.div_div_eq_div_mul, show 8 * (k + 1) = 8 + 8 * k from by omega, Nat.pow_add]

theorem ofNat_mod (n : Nat) : (UInt8.ofNat (n % 256)).toNat = n % 256 := by simp [UInt8.toNat_ofNat']

theorem set_any (g off len cap T : Nat) (cur : Array Value) (at_ n size : Nat) (w : World) (hb : w.heap[g]? = some (.cells cur T (0, 0)))
    (hs : size ≤ 4) (hat : at_ + size ≤ len) (hlen : len ≤ maxLen) (hcur : off + len ≤ cur.size) :
    Calls Tryz.prog 136 #[.slice (some ⟨g, off, none⟩) len cap, .int .i64 at_, .int .i64 n, .int .i64 size] w
      fun e w' => e = .returned (.tuple #[]) ∧ w' = w.setRow g (setB cur (off + at_) ((numB n size).map bv)) := by
  unfold maxLen at hlen
  go_enter Tryz.func136, Tryz.ntmps136
  go_wp2
  go_loopw [10] (fun i wr => ∃ k : Nat, k ≤ size ∧ i = .int .i64 k ∧ wr = w.setRow g (setB cur (off + at_) ((numB n k).map bv))) (fun i _ => size - (intOf i).toNat)
  case atStart => exact ⟨0, Nat.zero_le _, rfl, by simp [numB, setB_nil, setRow_self w g cur T _ hb]⟩
  case round =>
    obtain ⟨k, hk, rfl, hwr⟩ := hrel
    by_cases hlt : k < size
    · have hsz : off + at_ + ((numB n k).map bv).length ≤ cur.size := by simp [numB_length]; omega
      have hg : wr.heap[g]? = some (.cells (setB cur (off + at_) ((numB n k).map bv)) T (0, 0)) := by rw [hwr]; exact setRow_heap w g cur _ T _ hb
      have hi : off + (at_ + k) < (setB cur (off + at_) ((numB n k).map bv)).size := by rw [setB_size _ _ _ hsz]; omega
      have hcell : wr.cell? ⟨g, off + (at_ + k), none⟩ = some (setB cur (off + at_) ((numB n k).map bv))[off + (at_ + k)] := by
        rw [cell_of_row wr g _ _ _ _ hg]; exact Array.getElem?_eq_getElem hi
      have hfr : wr.frozen? ⟨g, off + (at_ + k), none⟩ = false := frozen_of_row wr g _ _ T hg
      have hnext : wr.setCell ⟨g, off + (at_ + k), none⟩ (.int .u8 ((n : Int) / 2 ^ (8 * k) % 256)) = w.setRow g (setB cur (off + at_) ((numB n (k + 1)).map bv)) := by
        rw [setCell_eq_setRow wr g _ _ T _ _ hg, hwr, setRow_setRow]
        congr 1
        have h1 := setB_snoc cur (off + at_) ((numB n k).map bv) (.int .u8 ((n : Int) / 2 ^ (8 * k) % 256)) (by simp [numB_length]; omega)
        rw [show off + (at_ + k) = off + at_ + ((numB n k).map bv).length from by simp [numB_length]; omega, h1, numB_succ, List.map_append]
        congr 2
        simp only [List.map_cons, List.map_nil, bv, ofNat_mod]
        rfl
      have HN := Hidden.mk hnext
      clear hnext hg hwr hsz
      generalize (setB cur (off + at_) ((numB n k).map bv))[off + (at_ + k)] = u at hcell
      clear hi
      go_wp2
      go_roundw
      case rel => exact ⟨k + 1, by omega, by go_num, HN.out⟩
      case measure => simp [intOf]; omega
    · obtain rfl : k = size := by omega
      subst hwr
      go_wp2
      go_end0
      exact ⟨rfl, rfl⟩
end Go.Proofs.YtbnobjlphmkgeaaGreatDoor
/- The contracts of num.Get, slices.Clone and num.Put. -/
namespace Go.Proofs.YtbnobjlphmkgeaaGreatDoor
open Go.RowKit

/-- an error of the program: nil, or a number of api.Errno -/
def errV (n : Nat) : Value := if n = 0 then .nilIface else .iface 111 (.int .i64 n)
theorem byte_info : (Tryz.prog.info? 5).map (fun i => (i.zero, i.size, i.bytes)) = some (some (.int .u8 0), 1, 1) := by kernel_rfl

/-- slices.Clone of bytes: nil stays nil, else the call's own -/
theorem clone_nil (n c : Nat) (w : World) : Calls Tryz.prog 57 #[.slice none n c] w fun e w' => e = .returned (.slice none 0 0) ∧ w = w' := by
  have he := fun W => Lib.run_eql_slice_nil (P := Tryz.prog) W 22 5 none n c 0 0 Tryz.underlying22
  go_enter Tryz.func57, Tryz.ntmps57
  go_wp2
  go_ret
  exact ⟨rfl, rfl⟩
theorem clone_some (ad : Addr) (n c : Nat) (l : Bytes) (w : World) (hn : l.length = n) (hl : n ≤ 140737488351232) (hr : Rd w (some ad) l) :
    Calls Tryz.prog 57 #[.slice (some ad) n c] w fun e w' => ∃ g cap, e = .returned (.slice (some ⟨g, 0, none⟩) n cap) ∧ w.heap.size ≤ g ∧ Row w' 5 g cap l ∧ Below w.heap.size w w' := by
  subst hn
  have he := fun W => Lib.run_eql_slice_nil (P := Tryz.prog) W 22 5 (some ad) l.length c 0 0 Tryz.underlying22
  obtain ⟨i0, hi0, hz0, hz1, hz2⟩ := info_parts byte_info
  go_enter Tryz.func57, Tryz.ntmps57
  have hown := World.ownsRow_lit (base := w.heap.size) (e := 5) (size := 1) w #[] 0 (Nat.le_refl _) (by simp) rfl
  have hr1 : Rd (w.alloc (.cells #[] 5)) (some ad) l := hr.below ((Below.refl _ _).alloc (Nat.le_refl _) _)
  go_wp2_with (at_builtin; refine wpList_append_own _ rfl (.tmp 5) (.tmp 6) _ rfl w.heap.size 5 i0 _ 1 1 Tryz.underlying22 hi0 hz0 hz1 hz2 rfl (by decide) (.slice (some ⟨w.heap.size, 0, none⟩) 0 0) 0 [] rfl hown ad l.length c (l.map bv) rfl (by simp) hr1.cells one_bv (by simp only [maxLen]; omega) (by omega) (by simp) ?_; intro v1 w1 hown1 hg1 hnn)
  go_ret
  have hnn' : v1 ≠ .slice none 0 0 := fun h => by have := hnn.1 h; simp at this
  obtain ⟨g, cap, rfl, hbg, hrow⟩ := Row.of_own (l := l) (by simpa [Own] using hown1) hnn'
  refine ⟨g, cap, rfl, hbg, hrow, ?_⟩
  · exact ((Below.refl _ _).alloc (Nat.le_refl _) _).grown hg1 (by simp) (fun k hk => by simp [Value.ownBlock] at hk; omega)

def putE (n : Nat) (at_ x size : Int) : Nat := if 1 ≤ size ∧ size ≤ 4 ∧ 0 ≤ x ∧ x ≤ mostN size then (if at_ < 0 ∨ (n : Int) - size < at_ then 3 else 0) else 1
end Go.Proofs.YtbnobjlphmkgeaaGreatDoor
/- Runs of make and copy over bytes, as equations for a walk. -/
namespace Go.Proofs.YtbnobjlphmkgeaaGreatDoor
open Go.RowKit

/-- so many zeros, as cells -/
def zeroRow (n : Nat) : Array Value := Array.replicate n (.int .u8 0)
theorem zeroRow_size (n : Nat) : (zeroRow n).size = n := by simp [zeroRow]
theorem zeroRow_list (n : Nat) : (zeroRow n).toList = (List.replicate n (0 : UInt8)).map bv := by simp [zeroRow]
/-- make([]byte, n) -/
theorem mk_bytes (z : Int) (n : Nat) (hz : z = n) (hn : n ≤ 281474976710656) (w : World) :
    (Instr.makeSlice 22 (.int .i64 z) (.int .i64 z)).run Tryz.prog w = .ok (.slice (some ⟨w.heap.size, 0, none⟩) n n) (w.alloc (.cells (zeroRow n) 5)) := by
  subst hz
  obtain ⟨i0, hi0, hz0, hz1, hz2⟩ := info_parts byte_info
  have hr := run_make (P := Tryz.prog) w 22 5 i0 _ Tryz.underlying22 hi0 hz0 .i64 .i64 n n (by omega) (by omega) (by rw [hz2]; omega) (by omega)
  simp only [Int.toNat_natCast, hz1, Nat.mul_one] at hr
  have hcells : madeCells (Value.int IntKind.u8 0).cells n = zeroRow n := by
    apply Array.ext'
    rw [show (Value.int IntKind.u8 0).cells = #[Value.int IntKind.u8 0] from rfl, toList_madeCells_one, zeroRow]
    simp
  rw [hcells] at hr
  exact hr
theorem row_zeros (w : World) (n : Nat) (hn : n ≤ maxLen) : Row (w.alloc (.cells (zeroRow n) 5)) 5 w.heap.size n (List.replicate n 0) :=
  ⟨_, heap_alloc_new w _, by simp, hn, zeroRow_size n, by rw [List.take_of_length_le (by rw [Array.length_toList, zeroRow_size]; simp), zeroRow_list]⟩

/-- copy of a text into a row -/
theorem run_copy_text (w : World) (g o dLen dCap k : Nat) (l : Bytes) (cur : Array Value) (T : Nat) (hg : w.heap[g]? = some (.cells cur T (0, 0))) (hk : k = Nat.min l.length dLen) (hfit : o + k ≤ cur.size) (ty : TypeId) :
    (Builtin.copy_ #[22, 9] ty #[.slice (some ⟨g, o, none⟩) dLen dCap, .string ⟨l.toArray⟩]).run Tryz.prog w = .ok (.int .i64 (k : Int)) (w.setRow g (setB cur o ((l.take k).map bv))) := by
  obtain ⟨i0, hi0, hz0, hz1, hz2⟩ := info_parts byte_info
  have hkl : k ≤ l.length := by rw [hk]; exact Nat.min_le_left _ _
  have hlen : ((l.take k).map bv).length = k := by simp; omega
  have hst := run_storeCells_at Tryz.prog g o T ((l.take k).map bv) 0 cur w hg (by rw [hlen]; simpa using hfit) one_bv
  have hsz : (⟨l.toArray⟩ : ByteArray).size = l.length := by simp [ByteArray.size]
  generalize hcs : (l.take k).map bv = cs at hst hlen ⊢
  subst hlen
  have hcs2 : List.take cs.length (List.map (fun b => Value.int IntKind.u8 (b.toNat : Int)) l) = cs := by rw [← List.map_take]; exact hcs
  simp only [Nat.add_zero] at hst
  simp [Builtin.copy_, run_underlying Tryz.underlying22, Builtin.lenOf, Builtin.firstCells, sizeOf, typeInfo, hi0, hsz, ← hk, goInt, setB, splice]
  rw [hcs2, hst]
  simp
/-- copy of bytes into a row -/
theorem run_copy_rd (w : World) (g o dLen dCap n c k : Nat) (A : Option Addr) (l : Bytes) (cur : Array Value) (T : Nat) (hg : w.heap[g]? = some (.cells cur T (0, 0))) (hn : l.length = n) (hr : Rd w A l)
    (hk : k = Nat.min n dLen) (hfit : o + k ≤ cur.size) (ty : TypeId) :
    (Builtin.copy_ #[22, 22] ty #[.slice (some ⟨g, o, none⟩) dLen dCap, .slice A n c]).run Tryz.prog w = .ok (.int .i64 (k : Int)) (w.setRow g (setB cur o ((l.take k).map bv))) := by
  subst hn
  obtain ⟨i0, hi0, hz0, hz1, hz2⟩ := info_parts byte_info
  have hkl : k ≤ l.length := by rw [hk]; exact Nat.min_le_left _ _
  have hlen : ((l.take k).map bv).length = k := by simp; omega
  rcases A with _ | ad
  · have h0 : l = [] := by
      cases l with
      | nil => rfl
      | cons x r => obtain ⟨b, off, h, _⟩ := hr 0 (by simp); cases h
    subst h0
    have hk0 : k = 0 := by simp at hkl; exact hkl
    subst hk0
    simp only [List.take_nil, List.map_nil, setB_nil, setRow_self w g cur T _ hg]
    simp [Builtin.copy_, run_underlying Tryz.underlying22, Builtin.lenOf, Builtin.firstCells, sizeOf, typeInfo, hi0, goInt, storeCells]
  · have hr2 := run_copy_row (P := Tryz.prog) w 22 22 ty 5 g o dLen dCap ad l.length c cur T ((l.take k).map bv) Tryz.underlying22 (by rw [hi0]; simp [hz1]) hg (by rw [hlen, hk])
      (fun j v hj => (hr.take k hkl).cells j v hj) (by rw [hlen]; exact hfit) one_bv
    have he : ∀ X : List Value, (cur.toList.take o ++ X ++ cur.toList.drop (o + X.length)).toArray = setB cur o X := fun X => by simp [setB, splice]
    rw [he] at hr2
    rw [hr2, hlen]
    rfl
/-- s[i:k] of bytes -/
theorem run_cut (p off n c i k : Nat) (hik : i ≤ k) (hkc : k ≤ c) (hlt : i < c) (W : World) :
    (Instr.sliceAt 22 (.slice (some ⟨p, off, none⟩) n c) (some (.int .i64 i)) (some (.int .i64 k)) none).run Tryz.prog W = .ok (.slice (some ⟨p, off + i, none⟩) (k - i) (c - i)) W := by
  obtain ⟨i0, hi0, hz0, hz1, hz2⟩ := info_parts byte_info
  have h3 : ¬ c = i := by omega
  simp [Instr.sliceAt, Instr.slice, Instr.sliceBounds, Instr.sliceBound, run_underlying Tryz.underlying22, asIntOf, sizeOf, typeInfo, hi0, hz1, hik, hkc, h3, Addr.add_lit]
end Go.Proofs.YtbnobjlphmkgeaaGreatDoor
/- append of whatever slice onto one of the call's own; clear of a part of a row of bytes. -/
namespace Go.Proofs.YtbnobjlphmkgeaaGreatDoor
open Go.RowKit

/-- the slice that begins at A has these cells, each element of so many -/
structure Src (w : World) (size : Nat) (A : Option Addr) (m : Nat) (news : List Value) : Prop where
  len : news.length = m * size
  cells : ∀ j u, news[j]? = some u → ∃ ad, A = some ad ∧ w.cell? (ad.add j) = some u
theorem Src.of_own {w : World} {base e size n : Nat} {v : Value} {xs : List Value} (h : w.ownsRow base e size v n xs) : ∃ A c, v = .slice A n c ∧ n ≤ c ∧ Src w size A n xs := by
  rcases h.2 with ⟨rfl, rfl⟩ | ⟨g, cap, cur, rfl, _, hh, hc, hm, hz, ht⟩
  · have hx : xs = [] := List.eq_nil_of_length_eq_zero (by have := h.1; simpa using this)
    subst hx
    exact ⟨none, 0, rfl, Nat.le_refl _, by simp, fun j u hu => by simp at hu⟩
  · exact ⟨_, cap, rfl, hc, h.1, fun j u hu => ⟨_, rfl, h.cells (g := g) rfl j u hu⟩⟩
theorem Src.below {w w' : World} {size : Nat} {A : Option Addr} {m : Nat} {news : List Value} (h : Src w size A m news) (hb : Below w.heap.size w w') : Src w' size A m news :=
  ⟨h.len, fun j u hu => by
    obtain ⟨ad, hA, hc⟩ := h.cells j u hu
    exact ⟨ad, hA, (hb.cell (p := ad.add j) (World.block_lt_of_cell? w _ hc)).trans hc⟩⟩
theorem Src.of_rd {w : World} {A : Option Addr} {l : Bytes} (h : Rd w A l) : Src w 1 A l.length (l.map bv) :=
  ⟨by simp, fun j u hu => by
    have hj : j < l.length := by
      have := (List.getElem?_eq_some_iff.1 hu).1
      simpa using this
    obtain ⟨b, off, rfl, hc⟩ := h j hj
    refine ⟨_, rfl, ?_⟩
    rw [Addr.add_lit, hc, ← hu]
    simp [hj]⟩
section
variable {P : Program}
theorem run_append_src (w : World) (base : Nat) (t ty e : TypeId) (i : TypeInfo) (z : Value) (size bytes : Nat) (ht : P.underlying t = some (.slice e)) (hi : P.info? e = some i) (hz : i.zero = some z)
    (hsize : i.size = size) (hby : i.bytes = bytes) (hzs : z.cells.size = size) (hsz : 0 < size)
    (v : Value) (n : Nat) (xs : List Value) (hown : w.ownsRow base e size v n xs) (A : Option Addr) (m c : Nat) (news : List Value) (hr : Src w size A m news) (h1 : ∀ u ∈ news, u.oneCell' = true)
    (h63 : n + m ≤ maxLen) (hbytes : (n + m) * bytes ≤ 140737488355328) (hbase : base ≤ w.heap.size) :
    ∃ v' w', (Builtin.append_ #[t, t] ty #[v, .slice A m c]).run P w = .ok v' w' ∧ w'.ownsRow base e size v' (n + m) (xs ++ news) ∧ w.grownBy w' v.ownBlock ∧ (v'.ownBlock = v.ownBlock ∨ v'.ownBlock = some w.heap.size) := by
  rcases A with _ | ad
  · have hx : news = [] := by
      cases news with
      | nil => rfl
      | cons u r => obtain ⟨ad, h, _⟩ := hr.cells 0 u (by simp); cases h
    subst hx
    have hm : m = 0 := by
      have h2 := hr.len
      rcases Nat.eq_zero_or_pos m with h0 | h0
      · exact h0
      · have := Nat.mul_pos h0 hsz
        simp only [List.length_nil] at h2
        omega
    subst hm
    refine ⟨v, w, ?_, by simpa using hown, World.grownBy.refl w _, .inl rfl⟩
    rcases hown.2 with ⟨rfl, rfl⟩ | ⟨g, cap, cur, rfl, _, _, hnc, _⟩
    · simp [Builtin.append_, run_underlying ht, sizeOf, typeInfo, hi, Builtin.lenOf, Builtin.firstCells]
    · simp [Builtin.append_, run_underlying ht, sizeOf, typeInfo, hi, Builtin.lenOf, Builtin.firstCells, hnc, storeCells]
  · have hcells : ∀ j u, news[j]? = some u → w.cell? (ad.add j) = some u := fun j u hu => by
      obtain ⟨ad', h, hc⟩ := hr.cells j u hu
      injection h with h
      subst h
      exact hc
    obtain ⟨v', w', hrun, h2, h3, _, h5⟩ := run_append_own_at (P := P) w base t ty e i z size bytes ht hi hz hsize hby hzs hsz v n xs hown ad m c news hr.len hcells h1 h63 hbytes hbase
    exact ⟨v', w', hrun, h2, h3, h5⟩
theorem wp_append_src (w : World) {o : Oper} {a : Act} {K : Act → World → Prop} {Q : Exit → Act → World → Prop} (s x : Operand) (t : TypeId)
    (ho : o.op = .call { callee := .builtin .append, args := #[s, x], argTypes := #[t, t] })
    (base : Nat) (e : TypeId) (i : TypeInfo) (z : Value) (size bytes : Nat) (ht : P.underlying t = some (.slice e)) (hi : P.info? e = some i) (hz : i.zero = some z)
    (hsize : i.size = size) (hby : i.bytes = bytes) (hzs : z.cells.size = size) (hsz : 0 < size)
    (v : Value) (n : Nat) (xs : List Value) (hs : a.eval s = v) (hown : w.ownsRow base e size v n xs) (A : Option Addr) (m c : Nat) (news : List Value) (hx : a.eval x = .slice A m c) (hr : Src w size A m news) (h1 : ∀ u ∈ news, u.oneCell' = true)
    (h63 : n + m ≤ maxLen) (hbytes : (n + m) * bytes ≤ 140737488355328) (hbase : base ≤ w.heap.size)
    (h : ∀ v' w', w'.ownsRow base e size v' (n + m) (xs ++ news) → w.grownBy w' v.ownBlock → (v'.ownBlock = v.ownBlock ∨ v'.ownBlock = some w.heap.size) → K (a.put o.dst v') w') : o.wp P a w K Q := by
  obtain ⟨v', w', hrun, h2, h3, h4⟩ := run_append_src (P := P) w base t o.type e i z size bytes ht hi hz hsize hby hzs hsz v n xs hown A m c news hr h1 h63 hbytes hbase
  unfold Oper.wp execOp
  simp only [ho, resolve, invoke, builtin, Sem.run_bind, Sem.run_pure, Result.andThen_ok, List.map_toArray, List.map_cons, List.map_nil, hs, hx, hrun]
  exact h v' w' h2 h3 h4
theorem wpList_append_src (w : World) {ops : Array Oper} {rest : List Oper} {o : Oper} {a : Act} {Q : Exit → Act → World → Prop} (hgd : o.guard = none) (s x : Operand) (t : TypeId)
    (ho : o.op = .call { callee := .builtin .append, args := #[s, x], argTypes := #[t, t] })
    (base : Nat) (e : TypeId) (i : TypeInfo) (z : Value) (size bytes : Nat) (ht : P.underlying t = some (.slice e)) (hi : P.info? e = some i) (hz : i.zero = some z)
    (hsize : i.size = size) (hby : i.bytes = bytes) (hzs : z.cells.size = size) (hsz : 0 < size)
    (v : Value) (n : Nat) (xs : List Value) (hs : a.eval s = v) (hown : w.ownsRow base e size v n xs) (A : Option Addr) (m c : Nat) (news : List Value) (hx : a.eval x = .slice A m c) (hr : Src w size A m news) (h1 : ∀ u ∈ news, u.oneCell' = true)
    (h63 : n + m ≤ maxLen) (hbytes : (n + m) * bytes ≤ 140737488355328) (hbase : base ≤ w.heap.size)
    (h : ∀ v' w', w'.ownsRow base e size v' (n + m) (xs ++ news) → w.grownBy w' v.ownBlock → (v'.ownBlock = v.ownBlock ∨ v'.ownBlock = some w.heap.size) → wpList P ops Q rest (a.put o.dst v') w') : wpList P ops Q (o :: rest) a w :=
  wpList_plain hgd fun _ hK => wp_append_src w s x t ho base e i z size bytes ht hi hz hsize hby hzs hsz v n xs hs hown A m c news hx hr h1 h63 hbytes hbase fun v' w' h2 h3 h4 => hK _ _ (h v' w' h2 h3 h4)
end

/-- n zeros -/
theorem zeros_bv (n : Nat) : (List.replicate n (0 : UInt8)).map bv = List.replicate n (.int .u8 0) := by simp
theorem zero_byte (w : World) : (zeroValue 5).run Tryz.prog w = .ok (.int .u8 0) w := by kernel_rfl
theorem run_clear_row (w : World) (g o n c : Nat) (cur : Array Value) (T : Nat) (hg : w.heap[g]? = some (.cells cur T (0, 0))) (hn : 0 < n) (hfit : o + n ≤ cur.size) (ty : TypeId) :
    (Builtin.clear_ #[22] ty #[.slice (some ⟨g, o, none⟩) n c]).run Tryz.prog w = .ok (.tuple #[]) (w.setRow g (setB cur o ((List.replicate n (0 : UInt8)).map bv))) := by
  have hst := run_storeCells_at Tryz.prog g o T (List.replicate n (.int .u8 0)) 0 cur w hg (by simp; omega) (by intro v hv; rw [List.eq_of_mem_replicate hv]; rfl)
  have hzc : (Builtin.zeroCells (Value.int IntKind.u8 0).cells n).toList = List.replicate n (.int .u8 0) := by
    rw [show (Value.int IntKind.u8 0).cells = #[Value.int IntKind.u8 0] from rfl]
    simp [Builtin.zeroCells]
    apply List.ext_getElem
    · simp
    · intro i h1 h2; simp [Nat.mod_one]
  rw [zeros_bv]
  obtain ⟨m, rfl⟩ : ∃ m, n = m + 1 := ⟨n - 1, by omega⟩
  simp only [Nat.add_zero] at hst
  have hv := zero_byte
  simp [Builtin.clear_, run_underlying Tryz.underlying22, hv, hzc, hst, setB, splice]
theorem grownBy_setRow (w : World) (g : Nat) (x : Array Value) : w.grownBy (w.setRow g x) (some g) := by
  refine ⟨rfl, rfl, rfl, ?_, fun k hk hne => ?_⟩
  · exact (below_setRow (B := g) (Below.refl _ w) (Nat.le_refl _) x).size
  · have hkg : k ≠ g := fun e => hne (by rw [e])
    rcases Nat.lt_or_gt_of_ne hkg with h | h
    · exact (below_setRow (B := g) (Below.refl _ w) (Nat.le_refl _) x).block k h
    · simp [World.setRow, Array.getElem?_modify, hkg.symm]
/-- s[i:k], s[i:] of bytes, wherever they lie -/
theorem run_cutA (A : Option Addr) (n c i k : Nat) (hik : i ≤ k) (hkc : k ≤ c) (W : World) :
    (Instr.sliceAt 22 (.slice A n c) (some (.int .i64 i)) (some (.int .i64 k)) none).run Tryz.prog W = .ok (.slice (if c = i then A else A.map (·.add i)) (k - i) (c - i)) W := by
  obtain ⟨i0, hi0, hz0, hz1, hz2⟩ := info_parts byte_info
  simp [Instr.sliceAt, Instr.slice, Instr.sliceBounds, Instr.sliceBound, run_underlying Tryz.underlying22, asIntOf, sizeOf, typeInfo, hi0, hz1, hik, hkc]
theorem run_tailA (A : Option Addr) (n c i : Nat) (hin : i ≤ n) (W : World) :
    (Instr.sliceAt 22 (.slice A n c) (some (.int .i64 i)) none none).run Tryz.prog W = .ok (.slice (if c = i then A else A.map (·.add i)) (n - i) (c - i)) W := by
  obtain ⟨i0, hi0, hz0, hz1, hz2⟩ := info_parts byte_info
  simp [Instr.sliceAt, Instr.slice, Instr.sliceBounds, Instr.sliceBound, run_underlying Tryz.underlying22, asIntOf, sizeOf, typeInfo, hi0, hz1, hin]
theorem run_headA (A : Option Addr) (n c k : Nat) (hkc : k ≤ c) (W : World) :
    (Instr.sliceAt 22 (.slice A n c) none (some (.int .i64 k)) none).run Tryz.prog W = .ok (.slice A k c) W := by
  obtain ⟨i0, hi0, hz0, hz1, hz2⟩ := info_parts byte_info
  cases A <;> simp [Instr.sliceAt, Instr.slice, Instr.sliceBounds, Instr.sliceBound, run_underlying Tryz.underlying22, asIntOf, sizeOf, typeInfo, hi0, hkc, Addr.add]
end Go.Proofs.YtbnobjlphmkgeaaGreatDoor
/- Maps told by a function from keys to values: lookup, store, len, clear as equations; over whatever program. -/
namespace Go.Proofs.YtbnobjlphmkgeaaGreatDoor
open Go.RowKit Go.Maps Go.ChangeMaps

/-- any value, as it stands -/
def heldR (v : Value) : Option (DataW Value × List MemPlace) := some (.held v, [])
section
variable {P : Program} {T K E : TypeId} {κ : Type} {kl : κ → Lit} {w w' : World} {b cnt : Nat} {f : κ → Option Value}
/-- what a datum has at each key -/
def Has (kl : κ → Lit) (D : DataW Value) (f : κ → Option Value) : Prop := (∀ k, (f k = none → Maps.has D (kl k) = false) ∧ ∀ v, f k = some v → Maps.has D (kl k) = true ∧ ∀ z, D.atKey (kl k) z = .held v) ∧ ∀ l, Maps.has D l = true → ∃ k, l = kl k ∧ (f k).isSome = true
/-- block b is a map of cnt entries: at each key what f says -/
def IM (P : Program) (K : TypeId) (kl : κ → Lit) (w : World) (b : Nat) (f : κ → Option Value) (cnt : Nat) : Prop :=
  ∃ D : DataW Value, w.ownsMap P K heldR b cnt D ∧ Maps.size D = cnt ∧ Has kl D f
theorem ownsMap_tight {D : DataW Value} {n : Nat} (h : w.ownsMap P K heldR b n D) : w.ownsMap P K heldR b (Maps.size D) D := by
  obtain ⟨es, clock, hb, F, _, rfl⟩ := h
  refine ⟨es, clock, hb, F, ?_, rfl⟩
  simp [Maps.size, length_sorted]
theorem IM.made (w : World) : IM P K kl (w.alloc (.map #[] 0)) w.heap.size (fun _ => none) 0 :=
  ⟨_, World.ownsMap_made w P K heldR, rfl, fun k => ⟨fun _ => rfl, fun v h => by cases h⟩, fun l h => by cases h⟩
theorem IM.block (h : IM P K kl w b f cnt) (hb : w'.heap[b]? = w.heap[b]?) : IM P K kl w' b f cnt := by
  obtain ⟨D, ⟨es, clock, h1, h2⟩, h3⟩ := h
  exact ⟨D, ⟨es, clock, hb.trans h1, h2⟩, h3⟩
theorem IM.lt (h : IM P K kl w b f cnt) : b < w.heap.size := by
  obtain ⟨D, h, _⟩ := h
  exact h.lt
theorem IM.isMap (h : IM P K kl w b f cnt) : ∃ es clock, w.heap[b]? = some (.map es clock) := by
  obtain ⟨D, ⟨es, clock, hb, _⟩, _⟩ := h
  exact ⟨es, clock, hb⟩
theorem IM.look_some (h : IM P K kl w b f cnt) (KL : Keyed P K) (ht : P.underlying T = some (.map K E)) {z : Value} (hz : (zeroValue E).run P w = .ok z w) {key : Value} {k : κ} (hkey : keyOf P K key = some (kl k)) {v : Value} (hf : f k = some v) :
    (Instr.lookup T (.map (some b)) key true).run P w = .ok (.tuple #[v, .bool true]) w ∧ (Instr.lookup T (.map (some b)) key false).run P w = .ok v w := by
  obtain ⟨D, h, _, hh⟩ := h
  obtain ⟨h1, h2⟩ := (hh.1 k).2 v hf
  constructor
  · obtain ⟨v', ps, hrun, hv⟩ := h.look_ok KL ht hz (zd := .held z) (zp := []) rfl hkey
    rw [h2, heldR] at hv
    simp only [Option.some.injEq, Prod.mk.injEq, DataW.held.injEq] at hv
    rw [h1, hv.1] at hrun
    exact hrun
  · obtain ⟨v', ps, hrun, hv⟩ := h.lookup KL ht hz (zd := .held z) (zp := []) rfl hkey
    rw [h2, heldR] at hv
    simp only [Option.some.injEq, Prod.mk.injEq, DataW.held.injEq] at hv
    rw [hv.1] at hrun
    exact hrun
theorem IM.look_none (h : IM P K kl w b f cnt) (KL : Keyed P K) (ht : P.underlying T = some (.map K E)) {z : Value} (hz : (zeroValue E).run P w = .ok z w) {key : Value} {k : κ} (hkey : keyOf P K key = some (kl k)) (hf : f k = none) :
    (Instr.lookup T (.map (some b)) key true).run P w = .ok (.tuple #[z, .bool false]) w ∧ (Instr.lookup T (.map (some b)) key false).run P w = .ok z w := by
  obtain ⟨D, h, _, hh⟩ := h
  have h1 := (hh.1 k).1 hf
  constructor
  · obtain ⟨v', ps, hrun, hv⟩ := h.look_ok KL ht hz (zd := .held z) (zp := []) rfl hkey
    rw [atKey_of_not_has h1, heldR] at hv
    simp only [Option.some.injEq, Prod.mk.injEq, DataW.held.injEq] at hv
    rw [h1, hv.1] at hrun
    exact hrun
  · obtain ⟨v', ps, hrun, hv⟩ := h.lookup KL ht hz (zd := .held z) (zp := []) rfl hkey
    rw [atKey_of_not_has h1, heldR] at hv
    simp only [Option.some.injEq, Prod.mk.injEq, DataW.held.injEq] at hv
    rw [hv.1] at hrun
    exact hrun
/-- f with another value at one key -/
def upd [DecidableEq κ] (f : κ → Option Value) (k : κ) (v : Value) : κ → Option Value := fun x => if x = k then some v else f x
theorem IM.store [DecidableEq κ] (h : IM P K kl w b f cnt) (KL : Keyed P K) (hinj : ∀ x y, kl x = kl y → x = y) (ht : P.underlying T = some (.map K E)) (hn : cnt < maxLen) {key : Value} {k : κ} (hkey : keyOf P K key = some (kl k)) (v : Value) :
    ∃ w', (Instr.mapUpdate T (.map (some b)) key v).run P w = .ok () w' ∧ IM P K kl w' b (upd f k v) (if (f k).isSome then cnt else cnt + 1) ∧ w.grownBy w' (some b) ∧ w'.heap.size = w.heap.size := by
  obtain ⟨D, h, hs, hh⟩ := h
  obtain ⟨w', hrun, h', ht'⟩ := h.store KL ht hn (d := .held v) (ps := []) hkey rfl
  obtain ⟨w2, hrun2, _, hg⟩ := h.update KL ht hn (d := .held v) (ps := []) hkey rfl
  have e : w' = w2 := by
    rw [hrun] at hrun2
    injection hrun2
  subst e
  have hik : WideAt.IsKeyLit (kl k) := KL.key hkey
  have hsz : Maps.size (D.put (kl k) (.held v)) = if (f k).isSome then cnt else cnt + 1 := by
    rw [size_put (h.tidy KL), hs]
    cases hf : f k with
    | none => rw [(hh.1 k).1 hf]; simp
    | some u => rw [((hh.1 k).2 u hf).1]; simp
  refine ⟨w', hrun, ⟨_, ?_, hsz, fun x => ?_, fun l hl => ?_⟩, hg, ?_⟩
  · rw [← hsz]; exact ownsMap_tight h'
  · unfold upd
    by_cases hx : x = k
    · subst hx
      rw [if_pos rfl]
      refine ⟨(fun h => by cases h), fun u hu => ?_⟩
      obtain rfl := Option.some.inj hu
      exact ⟨has_put_same h.isMap hik _, fun z => atKey_put_same h.isMap hik _ z⟩
    · rw [if_neg hx]
      have hne : kl x ≠ kl k := fun e => hx (hinj _ _ e)
      refine ⟨fun h0 => by rw [has_put_other hne]; exact (hh.1 x).1 h0, fun u hu => ?_⟩
      rw [has_put_other hne]
      exact ⟨((hh.1 x).2 u hu).1, fun z => by rw [atKey_put_other hne]; exact ((hh.1 x).2 u hu).2 z⟩
  · by_cases hx : l = kl k
    · exact ⟨k, hx, by unfold upd; rw [if_pos rfl]; rfl⟩
    · rw [has_put_other hx] at hl
      obtain ⟨x, hx', hfx⟩ := hh.2 l hl
      refine ⟨x, hx', ?_⟩
      unfold upd
      split
      · rfl
      · exact hfx
  · obtain ⟨es, clock, es', clock', _, hw⟩ := ht'
    rw [hw]; simp [setBlock]
theorem IM.clear_ (h : IM P K kl w b f cnt) (ht : P.underlying T = some (.map K E)) (ty : TypeId) :
    ∃ w', (Builtin.clear_ #[T] ty #[.map (some b)]).run P w = .ok (.tuple #[]) w' ∧ IM P K kl w' b (fun _ => none) 0 ∧ w.grownBy w' (some b) ∧ w'.heap.size = w.heap.size := by
  obtain ⟨D, ⟨es, clock, hb, F, _⟩, _⟩ := h
  refine ⟨setBlock w b (.map #[] clock), ?_, ⟨.map [], ⟨#[], clock, heap_setBlock_same hb _, ⟨by simp, ?_, by simp⟩, Nat.le_refl _, rfl⟩, rfl, fun k => ⟨fun _ => rfl, fun v h => by cases h⟩, fun l h => by cases h⟩,
    ⟨rfl, rfl, rfl, by simp [setBlock], fun i _ hi => heap_setBlock_other hb _ (fun e => hi (by rw [e]))⟩, by simp [setBlock]⟩
  · simp [Builtin.clear_, run_underlying ht, MapKept.run_getObj_map hb, MapKept.run_setObj_map _ hb, Result.andThen, setBlock]
  · exact MapKept.stamped_empty _
end
end Go.Proofs.YtbnobjlphmkgeaaGreatDoor
/- What stays: all but the blocks of a set. No program in sight. -/
namespace Go.Proofs.YtbnobjlphmkgeaaGreatDoor
open Go.RowKit

/-- all that is not in F is as it was; F: the blocks that a device takes -/
structure Keep (F : Nat → Prop) (w w' : World) : Prop where
  os : w'.os = w.os
  tape : w'.tape = w.tape
  output : w'.output = w.output
  size : w.heap.size ≤ w'.heap.size
  block : ∀ k, k < w.heap.size → ¬ F k → w'.heap[k]? = w.heap[k]?
theorem Keep.refl (F : Nat → Prop) (w : World) : Keep F w w := ⟨rfl, rfl, rfl, Nat.le_refl _, fun _ _ _ => rfl⟩
theorem Keep.trans {F F' : Nat → Prop} {a b c : World} (h : Keep F a b) (k : Keep F' b c) (hF : ∀ x, F' x → F x ∨ a.heap.size ≤ x) : Keep F a c :=
  ⟨k.os.trans h.os, k.tape.trans h.tape, k.output.trans h.output, Nat.le_trans h.size k.size, fun x hx hn =>
    (k.block x (Nat.lt_of_lt_of_le hx h.size) (fun hf => by rcases hF x hf with h' | h'; exact hn h'; omega)).trans (h.block x hx hn)⟩
theorem Keep.of_below {F : Nat → Prop} {w w' : World} (h : Below w.heap.size w w') : Keep F w w' := ⟨h.os, h.tape, h.output, h.size, fun k hk _ => h.block k hk⟩
theorem Keep.below {F : Nat → Prop} {B : Nat} {w w' : World} (h : Keep F w w') (hB : B ≤ w.heap.size) (hF : ∀ k, F k → B ≤ k) : Below B w w' :=
  ⟨h.os, h.tape, h.output, h.size, fun k hk => h.block k (by omega) (fun hf => by have := hF k hf; omega)⟩
theorem Keep.rd {F : Nat → Prop} {w w' : World} {A : Option Addr} {l : Bytes} (h : Keep F w w') (hr : Rd w A l) (hA : ∀ ad, A = some ad → ¬ F ad.block) : Rd w' A l := fun j hj => by
  obtain ⟨b, off, rfl, hc⟩ := hr j hj
  exact ⟨b, off, rfl, (World.cell?_of_block (w := w) (h.block b (block_lt_of_cell hc) (hA _ rfl))).trans hc⟩
theorem Keep.row {F : Nat → Prop} {w w' : World} {e g cap : Nat} {l : Bytes} (h : Keep F w w') (hr : Row w e g cap l) (hg : ¬ F g) : Row w' e g cap l := by
  obtain ⟨cur, h0, h1⟩ := hr
  exact ⟨cur, (h.block g (Array.getElem?_eq_some_iff.1 h0).1 hg).trans h0, h1⟩
theorem Keep.drewN {F : Nat → Prop} {w w' : World} (h : Keep F w w') (n : Nat) : Keep F w (w'.drewN n) := ⟨h.os, h.tape, h.output, h.size, h.block⟩

section
variable {w w' : World}
theorem ownsRow_block {base : Nat} {e : TypeId} {size : Nat} {v : Value} {n : Nat} {xs : List Value} (h : w.ownsRow base e size v n xs) (hb : ∀ q, v.ownBlock = some q → w'.heap[q]? = w.heap[q]?) : w'.ownsRow base e size v n xs := by
  refine ⟨h.1, ?_⟩
  rcases h.2 with hn | ⟨g, cap, cur, rfl, hb0, hgg, rest⟩
  · exact .inl hn
  · exact .inr ⟨g, cap, cur, rfl, hb0, (hb g rfl).trans hgg, rest⟩
theorem Row.block {e g cap : Nat} {l : Bytes} (h : Row w e g cap l) (hb : w'.heap[g]? = w.heap[g]?) : Row w' e g cap l := by
  obtain ⟨cur, h0, h1⟩ := h
  exact ⟨cur, hb.trans h0, h1⟩
theorem ne_cells {g : Nat} {cur cur' : Array Value} {t t' : TypeId} (h1 : w.heap[g]? = some (.cells cur t (0, 0))) {g' : Nat} (h2 : w.heap[g']? = some (.cells cur' t' (0, 0))) (hne : t ≠ t') : g ≠ g' := fun e => by
  rw [e, h2] at h1
  injection h1 with h1
  injection h1 with _ h1
  exact hne h1.symm
theorem ne_row {g : Nat} {cur : Array Value} {t : TypeId} (h1 : w.heap[g]? = some (.cells cur t (0, 0))) {e g' cap : Nat} {l : Bytes} (h2 : Row w e g' cap l) (hne : t ≠ e) : g ≠ g' := by
  obtain ⟨cur', h0, _⟩ := h2
  exact ne_cells h1 h0 hne
end
theorem heap_setK {w : World} {d k : Nat} {cur : Array Value} {t : TypeId} (h : w.heap[d]? = some (.cells cur t (0, 0))) (v : Value) : (w.setCell ⟨d, k, none⟩ v).heap[d]? = some (.cells (cur.setIfInBounds k v) t (0, 0)) := by
  rw [setCell_eq_setRow w d k cur t _ _ h]
  exact setRow_heap w d cur _ t _ h
def FourAt (w : World) (p : Nat) (a b c d : Int) : Prop := w.cell? ⟨p, 0, none⟩ = some (.int .i64 a) ∧ w.cell? ⟨p, 1, none⟩ = some (.int .i64 b) ∧ w.cell? ⟨p, 2, none⟩ = some (.int .i64 c) ∧ w.cell? ⟨p, 3, none⟩ = some (.int .i64 d)
theorem fourAt_one (w : World) (a b c d : Int) (t : TypeId) : FourAt (w.alloc (.cells #[.int .i64 a, .int .i64 b, .int .i64 c, .int .i64 d] t)) w.heap.size a b c d := by
  have h := heap_alloc_new w (.cells #[.int .i64 a, .int .i64 b, .int .i64 c, .int .i64 d] t)
  unfold FourAt
  simp only [World.cell?]
  rw [h]
  exact ⟨rfl, rfl, rfl, rfl⟩
theorem FourAt.below {w w' : World} {p : Nat} {a b c d : Int} (h : FourAt w p a b c d) (hb : Below w.heap.size w w') : FourAt w' p a b c d := by
  have hlt := block_lt_of_cell h.1
  exact ⟨(hb.cell (p := ⟨p, 0, none⟩) hlt).trans h.1, (hb.cell (p := ⟨p, 1, none⟩) hlt).trans h.2.1, (hb.cell (p := ⟨p, 2, none⟩) hlt).trans h.2.2.1, (hb.cell (p := ⟨p, 3, none⟩) hlt).trans h.2.2.2⟩
end Go.Proofs.YtbnobjlphmkgeaaGreatDoor
/- A device in memory: what lies where. -/
namespace Go.Proofs.YtbnobjlphmkgeaaGreatDoor
open Go.RowKit

/-- what a device is -/
structure Dv where
  S : List Bytes
  O : List Nat
  M : Nat → Bytes
  left : Int
  down : Bool
/-- where it lies -/
structure Lay where
  gs : Nat
  cs : Nat
  gm : Nat
  vo : Value
  sb : Nat → Nat
  sc : Nat → Nat
  mb : Nat → Nat
  mc : Nat → Nat
def natL (k : Nat) : Lit := .int .i64 k
theorem natL_inj (x y : Nat) (h : natL x = natL y) : x = y := by
  unfold natL at h; injection h with _ h; omega
def rowV (g c : Nat) : Value := .slice (some ⟨g, 0, none⟩) 32 c
def memF (O : List Nat) (Y : Lay) (k : Nat) : Option Value := if k ∈ O then some (rowV (Y.mb k) (Y.mc k)) else none
structure DevIs (w : World) (F : Nat → Prop) (d : Nat) (D : Dv) (Y : Lay) (live : Nat → Prop) : Prop where
  hd : w.heap[d]? = some (.cells #[.slice (some ⟨Y.gs, 0, none⟩) D.S.length Y.cs, .map (some Y.gm), Y.vo, .int .i64 D.left, .bool D.down] 158 (0, 0))
  sec : ∃ cur, w.heap[Y.gs]? = some (.cells cur 22 (0, 0)) ∧ cur.size = Y.cs ∧ ∀ i, i < D.S.length → cur[i]? = some (rowV (Y.sb i) (Y.sc i))
  cap : D.S.length ≤ Y.cs
  row : ∀ i (h : i < D.S.length), Row w 5 (Y.sb i) (Y.sc i) D.S[i] ∧ D.S[i].length = 32
  ord : w.ownsRow 0 3 1 Y.vo D.O.length (D.O.map fun i : Nat => .int .i64 (i : Int))
  mem : IM Tryz.prog 3 natL w Y.gm (memF D.O Y) D.O.length
  mrow : ∀ i, live i → Row w 5 (Y.mb i) (Y.mc i) (D.M i)
  mlen : ∀ i, i ∈ D.O → i < D.S.length ∧ (D.M i).length = 32
  liv : ∀ i, live i → i ∈ D.O
  inj1 : ∀ i j, i < D.S.length → j < D.S.length → Y.sb i = Y.sb j → i = j
  inj2 : ∀ i j, live i → live j → Y.mb i = Y.mb j → i = j
  inj3 : ∀ i j, i < D.S.length → live j → Y.sb i ≠ Y.mb j
  nd : D.O.Nodup
  n0 : 1 ≤ D.S.length
  n1 : D.S.length ≤ 300
  l0 : -1 ≤ D.left
  l1 : D.left ≤ 9223372036854775807
  fd : F d
  fs : F Y.gs
  fm : F Y.gm
  fo : ∀ q, Y.vo.ownBlock = some q → F q
  fr : ∀ i, i < D.S.length → F (Y.sb i)
  fb : ∀ i, live i → F (Y.mb i)
  flt : ∀ k, F k → k < w.heap.size
section
variable {w w' : World} {F F' : Nat → Prop} {d : Nat} {D : Dv} {Y : Lay} {live : Nat → Prop}
/-- a world in which its blocks are as they were -/
theorem DevIs.same (h : DevIs w F d D Y live) (hb : ∀ k, F k → w'.heap[k]? = w.heap[k]?) (hF : ∀ k, F k → F' k) (hl : ∀ k, F' k → k < w'.heap.size) : DevIs w' F' d D Y live where
  hd := (hb _ h.fd).trans h.hd
  sec := by obtain ⟨cur, h0, h1⟩ := h.sec; exact ⟨cur, (hb _ h.fs).trans h0, h1⟩
  cap := h.cap
  row := fun i hi => ⟨(h.row i hi).1.block (hb _ (h.fr i hi)), (h.row i hi).2⟩
  ord := ownsRow_block h.ord fun q hq => hb q (h.fo q hq)
  mem := h.mem.block (hb _ h.fm)
  mrow := fun i hi => (h.mrow i hi).block (hb _ (h.fb i hi))
  mlen := h.mlen
  liv := h.liv
  inj1 := h.inj1
  inj2 := h.inj2
  inj3 := h.inj3
  nd := h.nd
  n0 := h.n0
  n1 := h.n1
  l0 := h.l0
  l1 := h.l1
  fd := hF _ h.fd
  fs := hF _ h.fs
  fm := hF _ h.fm
  fo := fun q hq => hF q (h.fo q hq)
  fr := fun i hi => hF _ (h.fr i hi)
  fb := fun i hi => hF _ (h.fb i hi)
  flt := hl
theorem DevIs.below (h : DevIs w F d D Y live) (hb : Below w.heap.size w w') : DevIs w' F d D Y live :=
  h.same (fun k hk => hb.block k (h.flt k hk)) (fun _ hk => hk) (fun k hk => Nat.lt_of_lt_of_le (h.flt k hk) hb.size)
/-- what is written by others -/
theorem DevIs.keep {G : Nat → Prop} (h : DevIs w F d D Y live) (hk : Keep G w w') (hG : ∀ k, F k → ¬ G k) : DevIs w' F d D Y live :=
  h.same (fun k hf => hk.block k (h.flt k hf) (hG k hf)) (fun _ hk => hk) (fun k hf => Nat.lt_of_lt_of_le (h.flt k hf) hk.size)
theorem DevIs.ne_cells {g : Nat} {cur cur' : Array Value} {t t' : TypeId} (h1 : w.heap[g]? = some (.cells cur t (0, 0))) {g' : Nat} (h2 : w.heap[g']? = some (.cells cur' t' (0, 0))) (hne : t ≠ t') : g ≠ g' := fun e => by
  rw [e, h2] at h1
  injection h1 with h1
  injection h1 with _ h1
  exact hne h1.symm
theorem DevIs.ne_map {g : Nat} {cur : Array Value} {t : TypeId} (h1 : w.heap[g]? = some (.cells cur t (0, 0))) {b cnt : Nat} {f : Nat → Option Value} (h2 : IM Tryz.prog 3 natL w b f cnt) : g ≠ b := fun e => by
  obtain ⟨es, clock, hb⟩ := h2.isMap
  rw [e, hb] at h1
  cases h1
theorem DevIs.ne_row {g : Nat} {cur : Array Value} {t : TypeId} (h1 : w.heap[g]? = some (.cells cur t (0, 0))) {e g' cap : Nat} {l : Bytes} (h2 : Row w e g' cap l) (hne : t ≠ e) : g ≠ g' := by
  obtain ⟨cur', h0, _⟩ := h2
  exact DevIs.ne_cells h1 h0 hne
theorem DevIs.ne_own {g : Nat} {cur : Array Value} {t : TypeId} (h1 : w.heap[g]? = some (.cells cur t (0, 0))) {base : Nat} {e : TypeId} {size : Nat} {v : Value} {n : Nat} {xs : List Value} (h2 : w.ownsRow base e size v n xs) (hne : t ≠ e) : v.ownBlock ≠ some g := fun he => by
  rcases h2.2 with ⟨rfl, _⟩ | ⟨g', cap', cur', rfl, _, hh', _⟩
  · simp [Value.ownBlock] at he
  · obtain rfl : g' = g := by simpa [Value.ownBlock] using he
    exact DevIs.ne_cells h1 hh' hne rfl
/-- the device's own block turned: another order, other steps left, up or down -/
theorem DevIs.head (h : DevIs w F d D Y live) (l' : Int) (b' : Bool)
    (hh : w'.heap[d]? = some (.cells #[.slice (some ⟨Y.gs, 0, none⟩) D.S.length Y.cs, .map (some Y.gm), Y.vo, .int .i64 l', .bool b'] 158 (0, 0)))
    (hb : ∀ k, F k → k ≠ d → w'.heap[k]? = w.heap[k]?) (hs : w.heap.size ≤ w'.heap.size) (h0 : -1 ≤ l') (h1 : l' ≤ 9223372036854775807) : DevIs w' F d { D with left := l', down := b' } Y live where
  hd := hh
  sec := by
    obtain ⟨cur, h0, h1⟩ := h.sec
    exact ⟨cur, (hb _ h.fs (DevIs.ne_cells h.hd h0 (by decide)).symm).trans h0, h1⟩
  cap := h.cap
  row := fun i hi => ⟨(h.row i hi).1.block (hb _ (h.fr i hi) (DevIs.ne_row h.hd (h.row i hi).1 (by decide)).symm), (h.row i hi).2⟩
  ord := ownsRow_block h.ord fun q hq => hb q (h.fo q hq) (fun e => DevIs.ne_own h.hd h.ord (by decide) (by rw [hq, e]))
  mem := h.mem.block (hb _ h.fm (DevIs.ne_map h.hd h.mem).symm)
  mrow := fun i hi => (h.mrow i hi).block (hb _ (h.fb i hi) (DevIs.ne_row h.hd (h.mrow i hi) (by decide)).symm)
  mlen := h.mlen
  liv := h.liv
  inj1 := h.inj1
  inj2 := h.inj2
  inj3 := h.inj3
  nd := h.nd
  n0 := h.n0
  n1 := h.n1
  l0 := h0
  l1 := h1
  fd := h.fd
  fs := h.fs
  fm := h.fm
  fo := h.fo
  fr := h.fr
  fb := h.fb
  flt := fun k hk => Nat.lt_of_lt_of_le (h.flt k hk) hs
end
end Go.Proofs.YtbnobjlphmkgeaaGreatDoor
/- The contracts of package device: Len, Down, step, Fail, forget. -/
namespace Go.Proofs.YtbnobjlphmkgeaaGreatDoor
open Go.RowKit

theorem five {w : World} {d : Nat} {a b c e f : Value} {t : TypeId} (h : w.heap[d]? = some (.cells #[a, b, c, e, f] t (0, 0))) :
    (w.cell? ⟨d, 0, none⟩ = some a ∧ w.cell? ⟨d, 1, none⟩ = some b ∧ w.cell? ⟨d, 2, none⟩ = some c ∧ w.cell? ⟨d, 3, none⟩ = some e ∧ w.cell? ⟨d, 4, none⟩ = some f) ∧ ∀ k, w.frozen? ⟨d, k, none⟩ = false := by
  refine ⟨⟨?_, ?_, ?_, ?_, ?_⟩, fun k => by simp [World.frozen?, h]⟩ <;> simp [World.cell?, h]
theorem heap_set5 {w : World} {d k : Nat} {cur : Array Value} {t : TypeId} (h : w.heap[d]? = some (.cells cur t (0, 0))) (v : Value) : (w.setCell ⟨d, k, none⟩ v).heap[d]? = some (.cells (cur.setIfInBounds k v) t (0, 0)) := by
  rw [setCell_eq_setRow w d k cur t _ _ h]
  exact setRow_heap w d cur _ t _ h
theorem Keep.setCell {F : Nat → Prop} {w w' : World} (h : Keep F w w') {p : Addr} (hp : F p.block ∨ w.heap.size ≤ p.block) (u : Value) : Keep F w (w'.setCell p u) :=
  ⟨h.os, h.tape, h.output, by simpa using h.size, fun k hk hn => by
    have : k ≠ p.block := fun e => by rcases hp with h' | h'; exact hn (e ▸ h'); omega
    exact (Below.heap_setCell w' p u k this).trans (h.block k hk hn)⟩
theorem dlen_any (w : World) (F : Nat → Prop) (d : Nat) (D : Dv) (Y : Lay) (live : Nat → Prop) (h : DevIs w F d D Y live) :
    Calls Tryz.prog 98 #[.pointer (some ⟨d, 0, none⟩)] w fun e w' => e = .returned (.int .i64 D.S.length) ∧ w = w' := by
  obtain ⟨⟨c0, c1, c2, c3, c4⟩, -⟩ := five h.hd
  go_enter Tryz.func98, Tryz.ntmps98
  go_wp2_with fail
  go_ret
  exact ⟨rfl, rfl⟩
theorem ddown_any (w : World) (F : Nat → Prop) (d : Nat) (D : Dv) (Y : Lay) (live : Nat → Prop) (h : DevIs w F d D Y live) :
    Calls Tryz.prog 110 #[.pointer (some ⟨d, 0, none⟩)] w fun e w' => e = .returned (.bool D.down) ∧ w = w' := by
  obtain ⟨⟨c0, c1, c2, c3, c4⟩, -⟩ := five h.hd
  go_enter Tryz.func110, Tryz.ntmps110
  go_wp2_with fail
  go_ret
  exact ⟨rfl, rfl⟩
theorem DevIs.set34 {w : World} {F : Nat → Prop} {d : Nat} {D : Dv} {Y : Lay} {live : Nat → Prop} (h : DevIs w F d D Y live) (l' : Int) (h0 : -1 ≤ l') (h1 : l' ≤ 9223372036854775807) (b : Bool) :
    DevIs ((w.setCell ⟨d, 4, none⟩ (.bool b)).setCell ⟨d, 3, none⟩ (.int .i64 l')) F d { D with left := l', down := b } Y live ∧ Keep F w ((w.setCell ⟨d, 4, none⟩ (.bool b)).setCell ⟨d, 3, none⟩ (.int .i64 l')) ∧
      ((w.setCell ⟨d, 4, none⟩ (.bool b)).setCell ⟨d, 3, none⟩ (.int .i64 l')).heap.size = w.heap.size := by
  refine ⟨h.head l' b (heap_set5 (heap_set5 h.hd _) _) (fun k _ hk => ?_) (by simp) h0 h1, ((Keep.refl F w).setCell (.inl h.fd) _).setCell (.inl h.fd) _, by simp⟩
  exact (Below.heap_setCell _ _ _ k hk).trans (Below.heap_setCell _ _ _ k hk)
/-- one step of the power -/
def stepD (D : Dv) : Dv := { D with left := max (-1) (D.left - 1), down := D.left == 0 }
theorem dstep_any (w : World) (F : Nat → Prop) (d : Nat) (D : Dv) (Y : Lay) (live : Nat → Prop) (h : DevIs w F d D Y live) :
    Calls Tryz.prog 164 #[.pointer (some ⟨d, 0, none⟩)] w fun e w' => e = .returned (.bool (!(D.left == 0))) ∧ DevIs w' F d (stepD D) Y live ∧ Keep F w w' ∧ w'.heap.size = w.heap.size := by
  obtain ⟨⟨c0, c1, c2, c3, c4⟩, ff⟩ := five h.hd
  have f3 := ff 3
  have f4 := ff 4
  have l0 := h.l0
  have l1 := h.l1
  have s1 : IntKind.i64.wrap (D.left - 1) = D.left - 1 := IntWalk.i64_in _ (by omega)
  have HH := Hidden.mk h
  clear h ff
  go_enter Tryz.func164, Tryz.ntmps164
  go_wp2_with fail
  all_goals
    go_ret
    refine ⟨rfl, ?_⟩
    have hm := HH.out.set34 (max (-1) (D.left - 1)) (by omega) (by omega) (D.left == 0)
    obtain ⟨_hc, hx⟩ | ⟨_hc, hx⟩ : (-1 < D.left - 1 ∧ max (-1) (D.left - 1) = D.left - 1) ∨ (D.left - 1 ≤ -1 ∧ max (-1) (D.left - 1) = -1) := by omega
  all_goals
    rw [hx] at hm
    unfold stepD
    rw [hx]
    first
      | exact hm
      | (exfalso; omega)
      | (have hy : D.left - 1 = -1 := (by omega)
         rw [hy] at hm ⊢
         exact hm)
theorem DevIs.fed {w : World} {F : Nat → Prop} {d : Nat} {D : Dv} {Y : Lay} {live : Nat → Prop} (h : DevIs w F d D Y live) {w' : World}
    (hb : ∀ k, F k → k ≠ d → k ≠ Y.gm → w'.heap[k]? = w.heap[k]?) (hm : IM Tryz.prog 3 natL w' Y.gm (fun _ => none) 0) (hs : w'.heap.size = w.heap.size)
    (hh : w'.heap[d]? = some (.cells #[.slice (some ⟨Y.gs, 0, none⟩) D.S.length Y.cs, .map (some Y.gm), .slice none 0 0, .int .i64 D.left, .bool D.down] 158 (0, 0))) :
    DevIs w' F d { D with O := [] } { Y with vo := .slice none 0 0 } (fun _ => False) where
  hd := hh
  sec := by
    obtain ⟨cur, h0, h1⟩ := h.sec
    exact ⟨cur, (hb _ h.fs (DevIs.ne_cells h.hd h0 (by decide)).symm (DevIs.ne_map h0 h.mem)).trans h0, h1⟩
  cap := h.cap
  row := fun i hi => by
    have hr := (h.row i hi).1
    obtain ⟨cur, h0, _⟩ := id hr
    exact ⟨hr.block (hb _ (h.fr i hi) (DevIs.ne_row h.hd hr (by decide)).symm (DevIs.ne_map h0 h.mem)), (h.row i hi).2⟩
  ord := World.ownsRow_nil _ _ _ _
  mem := by
    have : memF [] { Y with vo := .slice none 0 0 } = fun _ => none := by funext k; simp [memF]
    rw [this]
    exact hm
  mrow := fun i hi => hi.elim
  mlen := fun i hi => by simp at hi
  liv := fun i hi => hi.elim
  inj1 := h.inj1
  inj2 := fun i j hi => hi.elim
  inj3 := fun i j _ hj => hj.elim
  nd := List.nodup_nil
  n0 := h.n0
  n1 := h.n1
  l0 := h.l0
  l1 := h.l1
  fd := h.fd
  fs := h.fs
  fm := h.fm
  fo := fun q hq => by simp [Value.ownBlock] at hq
  fr := h.fr
  fb := fun i hi => hi.elim
  flt := fun k hk => by rw [hs]; exact h.flt k hk
theorem dforget_any (w : World) (F : Nat → Prop) (d : Nat) (D : Dv) (Y : Lay) (live : Nat → Prop) (h : DevIs w F d D Y live) :
    Calls Tryz.prog 163 #[.pointer (some ⟨d, 0, none⟩)] w fun e w' => e = .returned (.tuple #[]) ∧ DevIs w' F d { D with O := [] } { Y with vo := .slice none 0 0 } (fun _ => False) ∧ Keep F w w' ∧ w'.heap.size = w.heap.size := by
  obtain ⟨⟨c0, c1, c2, c3, c4⟩, ff⟩ := five h.hd
  obtain ⟨w1, hclear, him, hg, hsz⟩ := h.mem.clear_ (T := 155) Tryz.underlying155 0
  have hne := DevIs.ne_map h.hd h.mem
  have hdlt := h.flt d h.fd
  have hh1 := (hg.block d hdlt (fun e => hne (Option.some.inj e))).trans h.hd
  obtain ⟨⟨-, -, e2, -, -⟩, fe⟩ := five hh1
  have f2 := fe 2
  have HK : Hidden (DevIs (w1.setCell ⟨d, 2, none⟩ (.slice none 0 0)) F d { D with O := [] } { Y with vo := .slice none 0 0 } (fun _ => False) ∧ Keep F w (w1.setCell ⟨d, 2, none⟩ (.slice none 0 0)) ∧ (w1.setCell ⟨d, 2, none⟩ (.slice none 0 0)).heap.size = w.heap.size) := by
    refine ⟨h.fed (fun k hf hk hkm => (Below.heap_setCell _ _ _ k hk).trans (hg.block k (h.flt k hf) (fun e => hkm (Option.some.inj e)))) (him.block (Below.heap_setCell _ _ _ _ hne.symm)) (by simp [hsz]) (heap_set5 hh1 _), ?_, by simp [hsz]⟩
    refine (⟨hg.os, hg.tape, hg.output, hg.size, fun k hk hn => hg.block k hk (fun e => hn ?_)⟩ : Keep F w w1).setCell (.inl h.fd) _
    have := Option.some.inj e
    rw [this]; exact h.fm
  clear h ff fe hh1 him hg hsz hne hdlt
  go_enter Tryz.func163, Tryz.ntmps163
  go_wp2_with (simp only [hclear])
  go_end0
  exact ⟨rfl, HK.out⟩
end Go.Proofs.YtbnobjlphmkgeaaGreatDoor
/- The contracts of package device: Read and Write. -/
namespace Go.Proofs.YtbnobjlphmkgeaaGreatDoor
open Go.RowKit Go.Maps Go.ChangeMaps

theorem wf_nat {n : Nat} (hn : n ≤ 100000) : (Lit.int .i64 (n : Int)).wf = true := by
  have : (-9223372036854775808 : Int) ≤ n ∧ (n : Int) ≤ 9223372036854775807 := by omega
  simpa [Lit.wf, IntKind.min, IntKind.max, IntKind.bits, IntKind.signed] using this
theorem int_key {n : Nat} (hn : n ≤ 100000) : keyOf Tryz.prog 3 (.int .i64 (n : Int)) = some (natL n) := keyOf_int_mk Tryz.underlying3 (wf_nat hn)
theorem int_keyed : Go.Maps.Keyed Tryz.prog 3 := Go.Maps.int_keyed Tryz.underlying3
theorem zero_bytes (w : World) : (zeroValue 22).run Tryz.prog w = .ok (.slice none 0 0) w := by kernel_rfl
theorem int_info : (Tryz.prog.info? 3).map (fun i => (i.zero, i.size, i.bytes)) = some (some (.int .i64 0), 1, 8) := by kernel_rfl
/-- what a sector reads as -/
def readD (D : Dv) (i : Nat) : Bytes := if i ∈ D.O then D.M i else D.S.getD i []
def InO (D : Dv) (i : Nat) : Prop := i ∈ D.O
theorem dread_e9 (i : Nat) (w : World) (F : Nat → Prop) (d : Nat) (D : Dv) (Y : Lay) (live : Nat → Prop) (h : DevIs w F d D Y live) (hi : i < D.S.length) (hd : D.down = true) :
    Calls Tryz.prog 107 #[.pointer (some ⟨d, 0, none⟩), .int .i64 (i : Int)] w fun e w' => e = .returned (.tuple #[.slice none 0 0, .iface 111 (.int .i64 9)]) ∧ w = w' := by
  obtain ⟨⟨c0, c1, c2, c3, c4⟩, -⟩ := five h.hd
  have t2 : decide ((D.S.length : Int) ≤ i) = false := by simp; omega
  have t3 : decide (D.S.length ≤ i) = false := by simp; omega
  rw [hd] at c4
  clear h hd
  go_enter Tryz.func107, Tryz.ntmps107
  go_wp2_with fail
  go_ret2
  exact ⟨rfl, rfl⟩
set_option maxRecDepth 100000 in
theorem dread_ok (i : Nat) (w : World) (F : Nat → Prop) (d : Nat) (D : Dv) (Y : Lay) (h : DevIs w F d D Y (InO D)) (hi : i < D.S.length) (hd : D.down = false) :
    Calls Tryz.prog 107 #[.pointer (some ⟨d, 0, none⟩), .int .i64 (i : Int)] w fun e w' => ∃ g cap, e = .returned (.tuple #[.slice (some ⟨g, 0, none⟩) 32 cap, .nilIface]) ∧ w.heap.size ≤ g ∧ Row w' 5 g cap (readD D i) ∧ (readD D i).length = 32 ∧ Below w.heap.size w w' := by
  obtain ⟨⟨c0, c1, c2, c3, c4⟩, -⟩ := five h.hd
  have t2 : decide ((D.S.length : Int) ≤ i) = false := by simp; omega
  have t3 : decide (D.S.length ≤ i) = false := by simp; omega
  have n1 := h.n1
  rw [hd] at c4
  by_cases hO : i ∈ D.O
  · have hf : memF D.O Y i = some (rowV (Y.mb i) (Y.mc i)) := by unfold memF; rw [if_pos hO]
    have hl := (h.mem.look_some int_keyed (T := 155) Tryz.underlying155 (zero_bytes w) (int_key (n := i) (by omega)) hf).1
    unfold rowV at hl
    have hrow := h.mrow i hO
    have hlen := (h.mlen i hO).2
    have HR : Hidden (readD D i = D.M i) := ⟨by unfold readD; rw [if_pos hO]⟩
    generalize D.M i = b at *
    clear h hf hd hO
    go_enter Tryz.func107, Tryz.ntmps107
    go_wp2_with fail
    refine (clone_some _ _ _ b _ hlen (by omega) hrow.rd).mono ?_
    rintro e w1 ⟨g, cap, rfl, hg, hr, hb⟩
    go_wp2_with fail
    go_ret2
    exact ⟨g, cap, rfl, hg, by rw [HR.out]; exact hr, by rw [HR.out]; exact hlen, hb⟩
  · have hf : memF D.O Y i = none := by unfold memF; rw [if_neg hO]
    have hl := (h.mem.look_none int_keyed (T := 155) Tryz.underlying155 (zero_bytes w) (int_key (n := i) (by omega)) hf).1
    obtain ⟨hrow, hlen⟩ := h.row i hi
    have HR : Hidden (readD D i = D.S[i]) := ⟨by unfold readD; rw [if_neg hO]; simp [hi]⟩
    obtain ⟨cur, hs, hcs, hcur⟩ := h.sec
    have hcell : w.cell? ⟨Y.gs, i, none⟩ = some (.slice (some ⟨Y.sb i, 0, none⟩) 32 (Y.sc i)) := by
      rw [cell_of_row w Y.gs i cur _ _ hs]; exact hcur i hi
    have i0 : (0 : Int) ≤ i := by omega
    have i1 : (i : Int) < D.S.length := by omega
    generalize D.S[i] = b at *
    clear h hf hd hO hs hcs hcur
    go_enter Tryz.func107, Tryz.ntmps107
    go_wp2_with fail
    refine (clone_some _ _ _ b _ hlen (by omega) hrow.rd).mono ?_
    rintro e w1 ⟨g, cap, rfl, hg, hr, hb⟩
    go_wp2_with fail
    go_ret2
    exact ⟨g, cap, rfl, hg, by rw [HR.out]; exact hr, by rw [HR.out]; exact hlen, hb⟩
/-- a device in which something more is pending -/
def putD (D : Dv) (i : Nat) (b : Bytes) : Dv := { D with O := if i ∈ D.O then D.O else D.O ++ [i], M := fun k => if k = i then b else D.M k }
def growF (F : Nat → Prop) (w w' : World) : Nat → Prop := fun k => (F k ∨ w.heap.size ≤ k) ∧ k < w'.heap.size
theorem putD_mem (D : Dv) (i : Nat) (b : Bytes) (k : Nat) : k ∈ (putD D i b).O ↔ k ∈ D.O ∨ k = i := by
  unfold putD
  by_cases hi : i ∈ D.O
  · simp only [if_pos hi]
    exact ⟨.inl, fun h => by rcases h with h | rfl; exact h; exact hi⟩
  · simp [if_neg hi]
theorem DevIs.wrote {w w' : World} {F : Nat → Prop} {d : Nat} {D : Dv} {Y : Lay} (h : DevIs w F d D Y (InO D)) (i : Nat) (hi : i < D.S.length) (b : Bytes) (hbl : b.length = 32) (vo' : Value) (g c cnt : Nat)
    (hh : w'.heap[d]? = some (.cells #[.slice (some ⟨Y.gs, 0, none⟩) D.S.length Y.cs, .map (some Y.gm), vo', .int .i64 D.left, .bool D.down] 158 (0, 0)))
    (ho : w'.ownsRow 0 3 1 vo' (putD D i b).O.length ((putD D i b).O.map fun i : Nat => .int .i64 (i : Int))) (hvo : ∀ q, vo'.ownBlock = some q → growF F w w' q)
    (him : IM Tryz.prog 3 natL w' Y.gm (upd (memF D.O Y) i (rowV g c)) cnt) (hcnt : cnt = (putD D i b).O.length)
    (hrow : Row w' 5 g c b) (hg : w.heap.size ≤ g)
    (hb : ∀ k, F k → k ≠ d → k ≠ Y.gm → Y.vo.ownBlock ≠ some k → w'.heap[k]? = w.heap[k]?) (hs : w.heap.size ≤ w'.heap.size) :
    DevIs w' (growF F w w') d (putD D i b) { Y with vo := vo', mb := fun k => if k = i then g else Y.mb k, mc := fun k => if k = i then c else Y.mc k } (InO (putD D i b)) := by
  have hF : ∀ k, F k → growF F w w' k := fun k hk => ⟨.inl hk, Nat.lt_of_lt_of_le (h.flt k hk) hs⟩
  have hsec := h.sec
  have hmb : ∀ k, k ∈ D.O → Y.mb k < w.heap.size := fun k hk => h.flt _ (h.fb k hk)
  have hsb : ∀ k, k < D.S.length → Y.sb k < w.heap.size := fun k hk => h.flt _ (h.fr k hk)
  have hrowb : ∀ {q cap : Nat} {l : Bytes}, F q → Row w 5 q cap l → Row w' 5 q cap l := fun {q cap l} hf hr => by
    obtain ⟨cur, h0, _⟩ := id hr
    refine hr.block (hb q hf (DevIs.ne_row h.hd hr (by decide)).symm (DevIs.ne_map h0 h.mem) ?_)
    exact DevIs.ne_own h0 h.ord (by decide)
  refine { hd := hh, sec := ?_, cap := h.cap, row := ?_, ord := ho, mem := ?_, mrow := ?_, mlen := ?_, liv := fun _ hi => hi, inj1 := h.inj1, inj2 := ?_, inj3 := ?_, nd := ?_, n0 := h.n0, n1 := h.n1, l0 := h.l0, l1 := h.l1, fd := hF _ h.fd, fs := hF _ h.fs, fm := hF _ h.fm, fo := hvo, fr := fun k hk => hF _ (h.fr k hk), fb := ?_, flt := fun k hk => hk.2 }
  · obtain ⟨cur, h0, h1⟩ := hsec
    exact ⟨cur, (hb _ h.fs (DevIs.ne_cells h.hd h0 (by decide)).symm (DevIs.ne_map h0 h.mem) (DevIs.ne_own h0 h.ord (by decide))).trans h0, h1⟩
  · exact fun k hk => ⟨hrowb (h.fr k hk) (h.row k hk).1, (h.row k hk).2⟩
  · rw [← hcnt]
    refine (?_ : upd (memF D.O Y) i (rowV g c) = memF (putD D i b).O { Y with vo := vo', mb := fun k => if k = i then g else Y.mb k, mc := fun k => if k = i then c else Y.mc k }) ▸ him
    funext k
    unfold upd memF
    by_cases hk : k = i
    · subst hk
      rw [if_pos rfl, if_pos ((putD_mem D k b k).2 (.inr rfl))]
      simp
    · rw [if_neg hk]
      by_cases hko : k ∈ D.O
      · rw [if_pos hko, if_pos ((putD_mem D i b k).2 (.inl hko))]
        simp [hk]
      · rw [if_neg hko, if_neg (fun hx => by rcases (putD_mem D i b k).1 hx with h' | h'; exact hko h'; exact hk h')]
  · intro k hk
    show Row w' 5 (if k = i then g else Y.mb k) (if k = i then c else Y.mc k) (if k = i then b else D.M k)
    by_cases hki : k = i
    · rw [if_pos hki, if_pos hki, if_pos hki]; exact hrow
    · rw [if_neg hki, if_neg hki, if_neg hki]
      have hko : k ∈ D.O := by rcases (putD_mem D i b k).1 hk with h' | h'; exact h'; exact absurd h' hki
      exact hrowb (h.fb k hko) (h.mrow k hko)
  · intro k hk
    show k < D.S.length ∧ (if k = i then b else D.M k).length = 32
    by_cases hki : k = i
    · rw [if_pos hki]; exact ⟨hki ▸ hi, hbl⟩
    · rw [if_neg hki]
      have hko : k ∈ D.O := by rcases (putD_mem D i b k).1 hk with h' | h'; exact h'; exact absurd h' hki
      exact h.mlen k hko
  · intro k j hk hj he
    have hk' := (putD_mem D i b k).1 hk
    have hj' := (putD_mem D i b j).1 hj
    simp only at he
    by_cases hki : k = i
    · by_cases hji : j = i
      · rw [hki, hji]
      · rw [if_pos hki, if_neg hji] at he
        have hjo : j ∈ D.O := by rcases hj' with h' | h'; exact h'; exact absurd h' hji
        have := hmb j hjo; omega
    · have hko : k ∈ D.O := by rcases hk' with h' | h'; exact h'; exact absurd h' hki
      by_cases hji : j = i
      · rw [if_neg hki, if_pos hji] at he
        have := hmb k hko; omega
      · rw [if_neg hki, if_neg hji] at he
        have hjo : j ∈ D.O := by rcases hj' with h' | h'; exact h'; exact absurd h' hji
        exact h.inj2 k j hko hjo he
  · intro k j hk hj
    show Y.sb k ≠ (if j = i then g else Y.mb j)
    by_cases hji : j = i
    · rw [if_pos hji]; have := hsb k hk; omega
    · rw [if_neg hji]
      have hjo : j ∈ D.O := by rcases (putD_mem D i b j).1 hj with h' | h'; exact h'; exact absurd h' hji
      exact h.inj3 k j hk hjo
  · show (if i ∈ D.O then D.O else D.O ++ [i]).Nodup
    by_cases hi : i ∈ D.O
    · rw [if_pos hi]; exact h.nd
    · rw [if_neg hi, List.nodup_append]
      exact ⟨h.nd, by simp, fun x hx y hy e => hi (by simp at hy; rw [← hy, ← e]; exact hx)⟩
  · intro k hk
    show growF F w w' (if k = i then g else Y.mb k)
    by_cases hki : k = i
    · rw [if_pos hki]; exact ⟨.inr hg, hrow.lt⟩
    · rw [if_neg hki]
      have hko : k ∈ D.O := by rcases (putD_mem D i b k).1 hk with h' | h'; exact h'; exact absurd h' hki
      exact hF _ (h.fb k hko)
end Go.Proofs.YtbnobjlphmkgeaaGreatDoor
/- The contract of Write. -/
namespace Go.Proofs.YtbnobjlphmkgeaaGreatDoor
open Go.RowKit Go.Maps Go.ChangeMaps

section
variable {P : Program} {T K E : TypeId} {κ : Type} [DecidableEq κ] {kl : κ → Lit} {b cnt : Nat} {f : κ → Option Value}
end
theorem dwrite_e1 (i : Int) (A : Option Addr) (n c : Nat) (w : World) (F : Nat → Prop) (d : Nat) (D : Dv) (Y : Lay) (live : Nat → Prop) (h : DevIs w F d D Y live) (hi : i < 0 ∨ (D.S.length : Int) ≤ i) :
    Calls Tryz.prog 101 #[.pointer (some ⟨d, 0, none⟩), .int .i64 i, .slice A n c] w fun e w' => e = .returned (.iface 111 (.int .i64 1)) ∧ w = w' := by
  obtain ⟨⟨c0, c1, c2, c3, c4⟩, -⟩ := five h.hd
  rcases hi with hi | hi
  · clear h
    go_enter Tryz.func101, Tryz.ntmps101
    go_wp2_with fail
    go_ret
    exact ⟨rfl, rfl⟩
  · have h0 := h.n0
    have t1 : decide (i < 0) = false := by simp; omega
    have t2 : decide ((D.S.length : Int) ≤ i) = true := by simpa using hi
    clear h
    go_enter Tryz.func101, Tryz.ntmps101
    go_wp2_with fail
    go_ret
    exact ⟨rfl, rfl⟩
theorem dwrite_e3 (i : Nat) (A : Option Addr) (n c : Nat) (w : World) (F : Nat → Prop) (d : Nat) (D : Dv) (Y : Lay) (live : Nat → Prop) (h : DevIs w F d D Y live) (hi : i < D.S.length) (hn : n ≠ 32) :
    Calls Tryz.prog 101 #[.pointer (some ⟨d, 0, none⟩), .int .i64 (i : Int), .slice A n c] w fun e w' => e = .returned (.iface 111 (.int .i64 3)) ∧ w = w' := by
  obtain ⟨⟨c0, c1, c2, c3, c4⟩, -⟩ := five h.hd
  have t2 : decide ((D.S.length : Int) ≤ i) = false := by simp; omega
  have t3 : decide (D.S.length ≤ i) = false := by simp; omega
  have t4 : ((n : Int) != 32) = true := by simp; omega
  clear h hn
  go_enter Tryz.func101, Tryz.ntmps101
  go_wp2_with fail
  go_ret
  exact ⟨rfl, rfl⟩
theorem dwrite_e9 (i : Nat) (A : Option Addr) (c : Nat) (w : World) (F : Nat → Prop) (d : Nat) (D : Dv) (Y : Lay) (live : Nat → Prop) (h : DevIs w F d D Y live) (hi : i < D.S.length) (hd : D.down = true) :
    Calls Tryz.prog 101 #[.pointer (some ⟨d, 0, none⟩), .int .i64 (i : Int), .slice A 32 c] w fun e w' => e = .returned (.iface 111 (.int .i64 9)) ∧ w = w' := by
  obtain ⟨⟨c0, c1, c2, c3, c4⟩, -⟩ := five h.hd
  have t2 : decide ((D.S.length : Int) ≤ i) = false := by simp; omega
  have t3 : decide (D.S.length ≤ i) = false := by simp; omega
  rw [hd] at c4
  clear h hd
  go_enter Tryz.func101, Tryz.ntmps101
  go_wp2_with fail
  go_ret
  exact ⟨rfl, rfl⟩
/-- how Write's error reads -/
def powV (left : Int) : Value := if left = 0 then .iface 111 (.int .i64 9) else .nilIface
/-- a world ahead of Write's last steps -/
structure Mid (w w' : World) (F : Nat → Prop) (d : Nat) (D : Dv) (Y : Lay) (i : Nat) (b : Bytes) (vo' : Value) : Prop where
  hh : w'.heap[d]? = some (.cells #[.slice (some ⟨Y.gs, 0, none⟩) D.S.length Y.cs, .map (some Y.gm), vo', .int .i64 D.left, .bool D.down] 158 (0, 0))
  ho : w'.ownsRow 0 3 1 vo' (putD D i b).O.length ((putD D i b).O.map fun i : Nat => .int .i64 (i : Int))
  hvo : ∀ q, vo'.ownBlock = some q → F q ∨ w.heap.size ≤ q
  him : IM Tryz.prog 3 natL w' Y.gm (memF D.O Y) D.O.length
  hb : ∀ k, F k → k ≠ d → k ≠ Y.gm → Y.vo.ownBlock ≠ some k → w'.heap[k]? = w.heap[k]?
  kp : Keep F w w'
theorem memF_some (O : List Nat) (Y : Lay) (i : Nat) : (if (memF O Y i).isSome = true then O.length else O.length + 1) = (if i ∈ O then O else O ++ [i]).length := by
  unfold memF
  by_cases h : i ∈ O
  · simp [h]
  · simp [h]
theorem Mid.done {w w8 w9 w10 : World} {F : Nat → Prop} {d : Nat} {D : Dv} {Y : Lay} {i : Nat} {b : Bytes} {vo' : Value} (m : Mid w w8 F d D Y i b vo') (h : DevIs w F d D Y (InO D)) (hi : i < D.S.length) (hbl : b.length = 32) {g c : Nat}
    (hg : w8.heap.size ≤ g) (hrow : Row w9 5 g c b) (hb9 : Below w8.heap.size w8 w9)
    (him : IM Tryz.prog 3 natL w10 Y.gm (upd (memF D.O Y) i (rowV g c)) (if (memF D.O Y i).isSome = true then D.O.length else D.O.length + 1)) (hg10 : w9.grownBy w10 (some Y.gm)) :
    (∃ Y', DevIs w10 (growF F w w10) d (putD D i b) Y' (InO (putD D i b))) ∧ Keep F w w10 := by
  have hs8 := m.kp.size
  have hs9 := hb9.size
  have hs10 := hg10.size
  have hgm := h.flt _ h.fm
  have hgne : ∀ k, k ≠ Y.gm → k < w9.heap.size → w10.heap[k]? = w9.heap[k]? := fun k hk hl => hg10.block k hl (fun e => hk (Option.some.inj e))
  have hdl := h.flt _ h.fd
  have hdm := DevIs.ne_map h.hd h.mem
  refine ⟨⟨_, h.wrote i hi b hbl vo' g c _ ((hgne d hdm (by omega)).trans ((hb9.block d (by omega)).trans m.hh)) ?_ ?_ him (by rw [memF_some]; rfl) ?_ (by omega) ?_ (by omega)⟩, ?_⟩
  · refine ownsRow_block m.ho fun q hq => ?_
    have hql := (m.ho.lt q hq).2
    have hqm : q ≠ Y.gm := by
      rcases m.ho.2 with ⟨e, _⟩ | ⟨g', cap', cur', e, _, hh', _⟩
      · rw [e] at hq; simp [Value.ownBlock] at hq
      · rw [e] at hq
        obtain rfl : g' = q := by simpa [Value.ownBlock] using hq
        exact DevIs.ne_map hh' m.him
    exact (hgne q hqm (by omega)).trans (hb9.block q hql)
  · intro q hq
    have hql := (m.ho.lt q hq).2
    exact ⟨m.hvo q hq, by omega⟩
  · have hgl := hrow.lt
    exact hrow.block (hgne g (by omega) hgl)
  · intro k hf hkd hkm hkv
    have hkl := h.flt k hf
    exact (hgne k hkm (by omega)).trans ((hb9.block k (by omega)).trans (m.hb k hf hkd hkm hkv))
  · refine (m.kp.trans (Keep.of_below (F := F) hb9) (fun x hx => .inl hx)).trans (F' := fun k => k = Y.gm) ⟨hg10.os, hg10.tape, hg10.output, hg10.size, fun k hk hn => hgne k hn hk⟩ (fun x hx => .inl (hx ▸ h.fm))
theorem nodup_le : ∀ (n : Nat) (l : List Nat), l.Nodup → (∀ x ∈ l, x < n) → l.length ≤ n
  | 0, l, _, h => by
    cases l with
    | nil => simp
    | cons x r => have := h x (by simp); omega
  | n + 1, l, hd, h => by
    by_cases hm : n ∈ l
    · have h1 := nodup_le n (l.erase n) (hd.erase n) (fun x hx => by
        have h2 := (hd.mem_erase_iff).1 hx
        have := h x h2.2
        omega)
      rw [List.length_erase_of_mem hm] at h1
      omega
    · have h1 := nodup_le n l hd (fun x hx => by
        have := h x hx
        have : x ≠ n := fun e => hm (e ▸ hx)
        omega)
      omega
theorem DevIs.ord_le {w : World} {F : Nat → Prop} {d : Nat} {D : Dv} {Y : Lay} {live : Nat → Prop} (h : DevIs w F d D Y live) : D.O.length ≤ 300 :=
  Nat.le_trans (nodup_le D.S.length D.O h.nd (fun x hx => (h.mlen x hx).1)) h.n1
set_option maxRecDepth 100000 in
theorem dwrite_ok (i : Nat) (A : Option Addr) (c : Nat) (b : Bytes) (w : World) (F : Nat → Prop) (d : Nat) (D : Dv) (Y : Lay) (h : DevIs w F d D Y (InO D)) (hi : i < D.S.length) (hd : D.down = false) (hbl : b.length = 32) (hrd : Rd w A b) (hAF : ∀ ad, A = some ad → ¬ F ad.block) :
    Calls Tryz.prog 101 #[.pointer (some ⟨d, 0, none⟩), .int .i64 (i : Int), .slice A 32 c] w fun e w' => e = .returned (powV D.left) ∧ (∃ Y', DevIs w' (growF F w w') d (stepD (putD D i b)) Y' (InO (putD D i b))) ∧ Keep F w w' := by
  obtain ⟨⟨c0, c1, c2, c3, c4⟩, ff⟩ := five h.hd
  have f2 := ff 2
  have t2 : decide ((D.S.length : Int) ≤ i) = false := by simp; omega
  have t3 : decide (D.S.length ≤ i) = false := by simp; omega
  have n1 := h.n1
  obtain ⟨ad, hA⟩ : ∃ ad, A = some ad := by
    obtain ⟨p, off, hA, _⟩ := hrd.lt (by omega)
    exact ⟨_, hA⟩
  subst hA
  have hAF := hAF ad rfl
  have HH := Hidden.mk h
  have hmem := h.mem
  have hole := h.ord_le
  have hdl := h.flt d h.fd
  have KNE := Hidden.mk (DevIs.ne_map h.hd h.mem)
  rw [hd] at c4
  by_cases hO : i ∈ D.O
  · have hf : memF D.O Y i = some (rowV (Y.mb i) (Y.mc i)) := by unfold memF; rw [if_pos hO]
    have hl := (h.mem.look_some int_keyed (T := 155) Tryz.underlying155 (zero_bytes w) (int_key (n := i) (by omega)) hf).1
    unfold rowV at hl
    have HM : Hidden (Mid w w F d D Y i b Y.vo) := ⟨⟨h.hd, by unfold putD; rw [if_pos hO]; exact h.ord, fun q hq => .inl (h.fo q hq), h.mem, fun _ _ _ _ _ => rfl, Keep.refl _ _⟩⟩
    have HRD : Hidden (∀ W, Mid w W F d D Y i b Y.vo → Rd w (some ad) b) := ⟨fun _ _ => hrd⟩
    have HBL := Hidden.mk hbl
    clear h ff hf hd hO hrd hbl
    go_enter Tryz.func101, Tryz.ntmps101
    go_wp2_with fail
    have KC := Hidden.mk c1
    have KDL := Hidden.mk hdl
    have hdr : w.drew.heap = w.heap := rfl
    clear hdr c0 c1 c2 c3 c4 f2 hl hmem
    have HIM : Hidden (∀ W, Below w.heap.size w W → IM Tryz.prog 3 natL W Y.gm (memF D.O Y) D.O.length) := ⟨fun W hW => HM.out.him.block (hW.block Y.gm HM.out.him.lt)⟩
    have HRDW : Hidden (∀ W, Below w.heap.size w W → Rd W (some ad) b) := ⟨fun W hW => (HRD.out w HM.out).below hW⟩
    have kc1 := KC.out
    have kdl := KDL.out
    go_region_held3 (fun W => W.cell? ⟨d, 1, none⟩ = some (.map (some Y.gm))) (first | exact kc1 | exact (hb9.cell (p := ⟨d, 1, none⟩) kdl).trans kc1 | exact (World.cell?_of_block (a := ⟨d, 1, none⟩) (hg10.block d (Nat.lt_of_lt_of_le kdl hb9.size) (fun e => KNE.out (Option.some.inj e)))).trans ((hb9.cell (p := ⟨d, 1, none⟩) kdl).trans kc1))
      (first
        | (go_at_call 57; refine (clone_some ad 32 c b _ HBL.out (by omega) (HRDW.out _ (by exact (Below.refl _ _).drew))).mono ?_; rintro e w9 ⟨g, cap, rfl, hg9, hrow9, hb9⟩)
        | (obtain ⟨w10, hrun10, him10, hg10, hs10⟩ := (HIM.out w9 (((Below.refl _ _).drew).trans hb9)).store int_keyed natL_inj (T := 155) Tryz.underlying155 (by simp only [maxLen]; omega) (int_key (n := i) (by omega)) (.slice (some ⟨g, 0, none⟩) 32 cap); go_simp))
    have hdone := HM.out.done HH.out hi HBL.out hg9 hrow9 (((Below.refl _ _).drew).trans hb9) him10 hg10
    obtain ⟨⟨Y', hdev⟩, hkp⟩ := hdone
    have HDV := Hidden.mk hdev
    have HKP := Hidden.mk hkp
    clear hdev hkp hg9 hrow9 hb9 him10 hg10 hs10 kc1 kdl
    go_wp2_with fail
    refine (dstep_any _ _ d (putD D i b) Y' _ HDV.out).mono ?_
    rintro e w11 ⟨rfl, hdev, hkp, hsz⟩
    have hG : growF F w w11 = growF F w w10 := by unfold growF; rw [hsz]
    have HFIN : Hidden ((∃ Y', DevIs w11 (growF F w w11) d (stepD (putD D i b)) Y' (InO (putD D i b))) ∧ Keep F w w11) := ⟨⟨Y', by rw [hG]; exact hdev⟩, HKP.out.trans hkp (fun x hx => hx.1)⟩
    have hlf : (putD D i b).left = D.left := rfl
    rw [hlf]
    clear hdev hkp hsz hG hlf
    cases h0 : (D.left == 0) with
    | true =>
      have hp : Hidden (powV D.left = .iface 111 (.int .i64 9)) := ⟨by unfold powV; rw [if_pos (by simpa using h0)]⟩
      clear h0
      go_wp2_with fail
      go_ret
      exact ⟨by rw [hp.out]; rfl, HFIN.out⟩
    | false =>
      have hp : Hidden (powV D.left = .nilIface) := ⟨by unfold powV; rw [if_neg (by simpa using h0)]⟩
      clear h0
      go_wp2_with fail
      go_ret
      exact ⟨by rw [hp.out]; rfl, HFIN.out⟩
  · have hf : memF D.O Y i = none := by unfold memF; rw [if_neg hO]
    have hl := (h.mem.look_none int_keyed (T := 155) Tryz.underlying155 (zero_bytes w) (int_key (n := i) (by omega)) hf).1
    obtain ⟨i2, hi2, hx0, hx1, hx2⟩ := info_parts int_info
    have HOR := Hidden.mk h.ord
    have HBL := Hidden.mk hbl
    have KRD : Hidden (∀ W, Keep F w W → Rd W (some ad) b) := ⟨fun W hW => hW.rd hrd (fun ad' e => by injection e with e; subst e; exact hAF)⟩
    have HO' : Hidden ((putD D i b).O = D.O ++ [i]) := ⟨by unfold putD; rw [if_neg hO]⟩
    have HOWN : Hidden (∀ cur, Y.vo.ownBlock = some cur → cur ≠ d) := ⟨fun cur hc e => DevIs.ne_own h.hd h.ord (by decide) (by rw [hc, e])⟩
    clear h ff hf hO hbl
    go_enter Tryz.func101, Tryz.ntmps101
    go_wp2_with (at_builtin; refine wpList_append_lies _ rfl (.tmp 48) (.tmp 50) _ rfl 0 3 i2 _ 1 8 Tryz.underlying54 hi2 hx0 hx1 hx2 rfl (by decide) Y.vo D.O.length (D.O.map fun i : Nat => .int .i64 (i : Int)) rfl (own_below HOR.out ((Below.refl _ _).alloc (Nat.le_refl _) _)) ⟨w.heap.size, 0, none⟩ 1 1 [.int .i64 (i : Int)] rfl rfl (World.news_of_block (cs := #[.int .i64 (i : Int)]) (t := 3) (fr := (0, 0)) (heap_alloc_new w _)) (by simp [Value.oneCell']) (by omega) (by simp only [maxLen]; omega) (by omega) (by simp) (w.heap.size + 1) (by simp) ?_; intro g7 cap7 w7 hown7 hg7 hat7 hlt7; have hgG := grown_trans' ((Below.refl _ _).alloc (Nat.le_refl _) _) hg7; have hh7 := (hgG.block d hdl (fun e => HOWN.out _ e.symm rfl)).trans HH.out.hd; obtain ⟨⟨e0, e1, e2, e3, e4⟩, fe⟩ := five hh7; have fe2 := fe 2)
    have hh8 := heap_set5 (k := 2) hh7 (.slice (some ⟨g7, 0, none⟩) (D.O.length + 1) cap7)
    have HM8 : Hidden (Mid w (w7.setCell ⟨d, 2, none⟩ (.slice (some ⟨g7, 0, none⟩) (D.O.length + 1) cap7)) F d D Y i b (.slice (some ⟨g7, 0, none⟩) (D.O.length + 1) cap7)) := by
      have hgd : g7 ≠ d := by
        rcases hat7 with h' | h'
        · exact HOWN.out g7 h'
        · omega
      refine ⟨⟨hh8, ?_, ?_, ?_, ?_, ?_⟩⟩
      · rw [HO'.out]
        have := ownsRow_block (w' := w7.setCell ⟨d, 2, none⟩ (.slice (some ⟨g7, 0, none⟩) (D.O.length + 1) cap7)) hown7 (fun q hq => Below.heap_setCell _ _ _ _ (by
          have : g7 = q := by simpa [Value.ownBlock] using hq
          rw [← this]; exact hgd))
        simpa using this
      · intro q hq
        have hq' : g7 = q := by simpa [Value.ownBlock] using hq
        rcases hat7 with h' | h'
        · exact .inl (HH.out.fo q (by rw [h', hq']))
        · exact .inr (by omega)
      · refine HH.out.mem.block ((Below.heap_setCell _ _ _ _ KNE.out.symm).trans (hgG.block Y.gm HH.out.mem.lt (fun e => ?_)))
        rcases HH.out.ord.2 with ⟨e', _⟩ | ⟨g', cap', cur', e', _, hh', _⟩
        · rw [e'] at e; simp [Value.ownBlock] at e
        · rw [e'] at e
          obtain rfl : Y.gm = g' := by simpa [Value.ownBlock] using e
          exact DevIs.ne_map hh' HH.out.mem rfl
      · intro k hf hkd hkm hkv
        exact (Below.heap_setCell _ _ _ _ hkd).trans (hgG.block k (HH.out.flt k hf) (fun e => hkv e.symm))
      · refine Keep.setCell ⟨hgG.os, hgG.tape, hgG.output, hgG.size, fun k hk hn => hgG.block k hk (fun e => hn (HH.out.fo k e.symm))⟩ (.inl HH.out.fd) _
    have HRD : Hidden (∀ W, Mid w W F d D Y i b (.slice (some ⟨g7, 0, none⟩) (D.O.length + 1) cap7) → Rd W (some ad) b) := ⟨fun W hW => KRD.out W hW.kp⟩
    obtain ⟨⟨k0, k1, k2, k3, k4⟩, -⟩ := five hh8
    go_wp2_with fail
    generalize w7.setCell ⟨d, 2, none⟩ (.slice (some ⟨g7, 0, none⟩) (D.O.length + 1) cap7) = w8 at *
    have HM := HM8
    have KC := Hidden.mk k1
    have KDL : Hidden (d < w8.heap.size) := ⟨by have := HM8.out.kp.size; omega⟩
    clear hown7 hg7 hat7 hlt7 hgG hh7 e0 e1 e2 e3 e4 fe fe2 hh8 k0 k1 k2 k3 k4 c0 c1 c2 c3 c4 f2 hl hmem HM8 hrd
    have HIM : Hidden (∀ W, Below w8.heap.size w8 W → IM Tryz.prog 3 natL W Y.gm (memF D.O Y) D.O.length) := ⟨fun W hW => HM.out.him.block (hW.block Y.gm HM.out.him.lt)⟩
    have HRDW : Hidden (∀ W, Below w8.heap.size w8 W → Rd W (some ad) b) := ⟨fun W hW => (HRD.out w8 HM.out).below hW⟩
    have kc1 := KC.out
    have kdl := KDL.out
    go_region_held3 (fun W => W.cell? ⟨d, 1, none⟩ = some (.map (some Y.gm))) (first | exact kc1 | exact (hb9.cell (p := ⟨d, 1, none⟩) kdl).trans kc1 | exact (World.cell?_of_block (a := ⟨d, 1, none⟩) (hg10.block d (Nat.lt_of_lt_of_le kdl hb9.size) (fun e => KNE.out (Option.some.inj e)))).trans ((hb9.cell (p := ⟨d, 1, none⟩) kdl).trans kc1))
      (first
        | (go_at_call 57; refine (clone_some ad 32 c b _ HBL.out (by omega) (HRDW.out _ (by exact (Below.refl _ _).drew))).mono ?_; rintro e w9 ⟨g, cap, rfl, hg9, hrow9, hb9⟩)
        | (obtain ⟨w10, hrun10, him10, hg10, hs10⟩ := (HIM.out w9 (((Below.refl _ _).drew).trans hb9)).store int_keyed natL_inj (T := 155) Tryz.underlying155 (by simp only [maxLen]; omega) (int_key (n := i) (by omega)) (.slice (some ⟨g, 0, none⟩) 32 cap); go_simp))
    have hdone := HM.out.done HH.out hi HBL.out hg9 hrow9 (((Below.refl _ _).drew).trans hb9) him10 hg10
    obtain ⟨⟨Y', hdev⟩, hkp⟩ := hdone
    have HDV := Hidden.mk hdev
    have HKP := Hidden.mk hkp
    clear hdev hkp hg9 hrow9 hb9 him10 hg10 hs10 kc1 kdl
    go_wp2_with fail
    refine (dstep_any _ _ d (putD D i b) Y' _ HDV.out).mono ?_
    rintro e w11 ⟨rfl, hdev, hkp, hsz⟩
    have hG : growF F w w11 = growF F w w10 := by unfold growF; rw [hsz]
    have HFIN : Hidden ((∃ Y', DevIs w11 (growF F w w11) d (stepD (putD D i b)) Y' (InO (putD D i b))) ∧ Keep F w w11) := ⟨⟨Y', by rw [hG]; exact hdev⟩, HKP.out.trans hkp (fun x hx => hx.1)⟩
    have hlf : (putD D i b).left = D.left := rfl
    rw [hlf]
    clear hdev hkp hsz hG hlf
    cases h0 : (D.left == 0) with
    | true =>
      have hp : Hidden (powV D.left = .iface 111 (.int .i64 9)) := ⟨by unfold powV; rw [if_pos (by simpa using h0)]⟩
      clear h0
      go_wp2_with fail
      go_ret
      exact ⟨by rw [hp.out]; rfl, HFIN.out⟩
    | false =>
      have hp : Hidden (powV D.left = .nilIface) := ⟨by unfold powV; rw [if_neg (by simpa using h0)]⟩
      clear h0
      go_wp2_with fail
      go_ret
      exact ⟨by rw [hp.out]; rfl, HFIN.out⟩
end Go.Proofs.YtbnobjlphmkgeaaGreatDoor
/- The contracts of package device: Flush. -/
namespace Go.Proofs.YtbnobjlphmkgeaaGreatDoor
open Go.RowKit Go.Maps Go.ChangeMaps

theorem grownBy_setCell (w : World) (p : Addr) (u : Value) : w.grownBy (w.setCell p u) (some p.block) :=
  ⟨rfl, rfl, rfl, by simp, fun k _ hne => Below.heap_setCell w p u k (fun e => hne (by rw [e]))⟩
theorem DevIs.moved {w w' : World} {F : Nat → Prop} {d : Nat} {D : Dv} {Y : Lay} {live : Nat → Prop} (h : DevIs w F d D Y live) (i : Nat) (hi : live i) (cur : Array Value) (hcur : w.heap[Y.gs]? = some (.cells cur 22 (0, 0)))
    (hs : w'.heap[Y.gs]? = some (.cells (cur.setIfInBounds i (rowV (Y.mb i) (Y.mc i))) 22 (0, 0))) (hb : ∀ k, F k → k ≠ Y.gs → w'.heap[k]? = w.heap[k]?) (hsz : w.heap.size ≤ w'.heap.size) :
    DevIs w' F d { D with S := D.S.set i (D.M i) } { Y with sb := fun k => if k = i then Y.mb i else Y.sb k, sc := fun k => if k = i then Y.mc i else Y.sc k } (fun k => live k ∧ k ≠ i) := by
  have hin := h.mlen i (h.liv i hi)
  have hrowb : ∀ {q cap : Nat} {l : Bytes}, F q → Row w 5 q cap l → Row w' 5 q cap l := fun {q cap l} hf hr =>
    hr.block (hb q hf (DevIs.ne_row hcur hr (by decide)).symm)
  have hlen : (D.S.set i (D.M i)).length = D.S.length := by simp
  refine { hd := ?_, sec := ?_, cap := by rw [hlen]; exact h.cap, row := ?_, ord := ?_, mem := ?_, mrow := fun k hk => hrowb (h.fb k hk.1) (h.mrow k hk.1), mlen := ?_, liv := fun k hk => h.liv k hk.1, inj1 := ?_, inj2 := fun a b ha hb => h.inj2 a b ha.1 hb.1, inj3 := ?_, nd := h.nd, n0 := by rw [hlen]; exact h.n0, n1 := by rw [hlen]; exact h.n1, l0 := h.l0, l1 := h.l1, fd := h.fd, fs := h.fs, fm := h.fm, fo := h.fo, fr := ?_, fb := fun k hk => h.fb k hk.1, flt := fun k hk => Nat.lt_of_lt_of_le (h.flt k hk) hsz }
  · simp only [List.length_set]
    exact (hb _ h.fd (DevIs.ne_cells h.hd hcur (by decide))).trans h.hd
  · obtain ⟨cur', h0, h1, h2⟩ := h.sec
    rw [hcur] at h0
    injection h0 with h0
    injection h0 with h0
    subst h0
    refine ⟨_, hs, by simpa using h1, fun k hk => ?_⟩
    simp only [List.length_set] at hk
    have hcl : i < cur.size := by have := h.cap; omega
    rw [Array.getElem?_setIfInBounds]
    by_cases hki : i = k
    · subst hki; simp [hcl]
    · rw [if_neg hki]
      simp only [if_neg (fun e : k = i => hki e.symm)]
      exact h2 k hk
  · intro k hk
    simp only [List.length_set] at hk
    by_cases hki : k = i
    · subst hki
      simp only [if_true, List.getElem_set_self]
      exact ⟨hrowb (h.fb k hi) (h.mrow k hi), hin.2⟩
    · simp only [if_neg hki]
      rw [List.getElem_set_ne (fun e => hki e.symm)]
      exact ⟨hrowb (h.fr k hk) (h.row k hk).1, (h.row k hk).2⟩
  · exact ownsRow_block h.ord fun q hq => hb q (h.fo q hq) (fun e => DevIs.ne_own hcur h.ord (by decide) (by rw [hq, e]))
  · exact h.mem.block (hb _ h.fm (DevIs.ne_map hcur h.mem).symm)
  · intro k hk
    simp only [List.length_set]
    exact h.mlen k hk
  · intro a b ha hb he
    simp only [List.length_set] at ha hb
    simp only at he
    by_cases hai : a = i
    · by_cases hbi : b = i
      · rw [hai, hbi]
      · rw [if_pos hai, if_neg hbi] at he
        exact absurd he.symm (h.inj3 b i hb hi)
    · by_cases hbi : b = i
      · rw [if_neg hai, if_pos hbi] at he
        exact absurd he (h.inj3 a i ha hi)
      · rw [if_neg hai, if_neg hbi] at he
        exact h.inj1 a b ha hb he
  · intro a b ha hb
    simp only [List.length_set] at ha
    show (if a = i then Y.mb i else Y.sb a) ≠ Y.mb b
    by_cases hai : a = i
    · rw [if_pos hai]; exact fun e => hb.2 (h.inj2 i b hi hb.1 e).symm
    · rw [if_neg hai]; exact h.inj3 a b ha hb.1
  · intro k hk
    simp only [List.length_set] at hk
    show F (if k = i then Y.mb i else Y.sb k)
    by_cases hki : k = i
    · rw [if_pos hki]; exact h.fb i hi
    · rw [if_neg hki]; exact h.fr k hk
/-- a device whose memory is written -/
def flushD (D : Dv) : Dv := { D with S := (List.range D.S.length).map (readD D), O := [] }
theorem DevIs.live_of {w : World} {F : Nat → Prop} {d : Nat} {D : Dv} {Y : Lay} {live live' : Nat → Prop} (h : DevIs w F d D Y live) (hl : ∀ k, live' k ↔ live k) : DevIs w F d D Y live' := by
  have : live' = live := funext fun k => propext (hl k)
  rw [this]; exact h
theorem dflush_dn (w : World) (F : Nat → Prop) (d : Nat) (D : Dv) (Y : Lay) (live : Nat → Prop) (h : DevIs w F d D Y live) (hd : D.down = true) :
    Calls Tryz.prog 102 #[.pointer (some ⟨d, 0, none⟩)] w fun e w' => e = .returned (.iface 111 (.int .i64 9)) ∧ w = w' := by
  obtain ⟨⟨c0, c1, c2, c3, c4⟩, -⟩ := five h.hd
  rw [hd] at c4
  clear h hd
  go_enter Tryz.func102, Tryz.ntmps102
  go_wp2_with fail
  go_ret
  exact ⟨rfl, rfl⟩
theorem dflush_lost (w : World) (F : Nat → Prop) (d : Nat) (D : Dv) (Y : Lay) (live : Nat → Prop) (h : DevIs w F d D Y live) (hd : D.down = false) (hl : D.left = 0) :
    Calls Tryz.prog 102 #[.pointer (some ⟨d, 0, none⟩)] w fun e w' => e = .returned (.iface 111 (.int .i64 9)) ∧ DevIs w' F d (stepD D) Y live ∧ Keep F w w' := by
  obtain ⟨⟨c0, c1, c2, c3, c4⟩, -⟩ := five h.hd
  rw [hd] at c4
  have HS := Hidden.mk (dstep_any w F d D Y live h)
  rw [hl] at HS
  clear h hd hl
  go_enter Tryz.func102, Tryz.ntmps102
  go_wp2_with fail
  refine HS.out.mono ?_
  rintro e w1 ⟨rfl, hdev, hkp, -⟩
  have H := Hidden.mk (And.intro hdev hkp)
  clear hdev hkp
  go_wp2_with fail
  go_ret
  exact ⟨rfl, H.out⟩
theorem nat_sameKey (a b : Nat) : (natL a).sameKey (natL b) = decide (a = b) := by
  by_cases h : a = b
  · subst h
    simp [WideAt.sameKey_self (show WideAt.IsKeyLit (natL a) from trivial)]
  · rw [decide_eq_false h]
    exact sameKey_ne (fun e => h (natL_inj _ _ e))
set_option maxRecDepth 100000 in
theorem dflush_ok (w : World) (F : Nat → Prop) (d : Nat) (D : Dv) (Y : Lay) (h : DevIs w F d D Y (InO D)) (hd : D.down = false) (hl : D.left ≠ 0) :
    Calls Tryz.prog 102 #[.pointer (some ⟨d, 0, none⟩)] w fun e w' => e = .returned .nilIface ∧ (∃ Y', DevIs w' F d (flushD (stepD D)) Y' (InO (flushD (stepD D)))) ∧ Keep F w w' := by
  obtain ⟨⟨c0, c1, c2, c3, c4⟩, -⟩ := five h.hd
  rw [hd] at c4
  have HS := Hidden.mk (dstep_any w F d D Y (InO D) h)
  have h0 : (D.left == 0) = false := by simpa using hl
  rw [h0] at HS
  clear h hd hl h0
  go_enter Tryz.func102, Tryz.ntmps102
  go_wp2_with fail
  refine HS.out.mono ?_
  rintro e w1 ⟨rfl, hdev, hkp, hsz⟩
  have HKP := Hidden.mk hkp
  have HIO : Hidden (∀ k, InO D k ↔ k ∈ (stepD D).O) := ⟨fun _ => Iff.rfl⟩
  have hD1 : ∃ D1, D1 = stepD D := ⟨_, rfl⟩
  obtain ⟨D1, hD1⟩ := hD1
  rw [← hD1] at hdev HIO
  have HD1 := Hidden.mk hD1
  clear hD1
  obtain ⟨⟨e0, e1, e2, e3, e4⟩, -⟩ := five hdev.hd
  obtain ⟨Dm, hown, hms, hhas⟩ := hdev.mem
  have HHAS := Hidden.mk hhas
  have HDEV := Hidden.mk hdev
  have HSZ := Hidden.mk hsz
  have HMS := Hidden.mk hms
  clear hkp hdev hhas hsz hms c0 c1 c2 c3 c4
  go_wp2_with (at_range; refine wpList_range_own _ rfl _ 155 rfl 3 22 int_keyed Tryz.underlying155 heldR Y.gm D1.O.length Dm rfl hown ?_; intro w2 hrg2 hg2 hs2)
  go_frame
  generalize hr : w1.heap.size = r at *
  have HR := Hidden.mk hr
  have hdev2 : DevIs w2 F d D1 Y (InO D1) := (HDEV.out.same (fun k hk => hg2.block k (HDEV.out.flt k hk) (by simp)) (fun _ hk => hk) (fun k hk => by have := HDEV.out.flt k hk; rw [hs2]; omega)).live_of (fun k => (HIO.out k).symm)
  have HDEV2 := Hidden.mk hdev2
  have hK2 : Keep F w w2 := HKP.out.trans (F' := F) ⟨hg2.os, hg2.tape, hg2.output, hg2.size, fun k hk _ => hg2.block k hk (by simp)⟩ (fun x hx => .inl hx)
  clear hr hdev2 hown e0 e1 e2 e3 e4
  go_loopg [] (Maps.size Dm) (fun m wr => ∃ (left : Lit → Bool) (S' : List Bytes) (Y' : Lay), wr.ranges Tryz.prog 3 heldR Y.gm r D1.O.length Dm left m ∧ (Y'.gm = Y.gm ∧ Y'.mb = Y.mb ∧ Y'.mc = Y.mc) ∧ DevIs wr F d { D1 with S := S' } Y' (fun k => k ∈ D1.O ∧ left (natL k) = true) ∧ Keep F w wr ∧
    Hidden (S'.length = D1.S.length ∧ (∀ k, k < D1.S.length → S'[k]? = if k ∈ D1.O ∧ left (natL k) = false then some (D1.M k) else D1.S[k]?) ∧ ∀ l, left l = true → Maps.has Dm l = true))
  case atStart =>
    refine ⟨_, D1.S, Y, hrg2, ⟨rfl, rfl, rfl⟩, ?_, hK2, ⟨rfl, fun k hk => ?_, fun _ h => h⟩⟩
    · exact HDEV2.out.live_of fun k => ⟨fun h => h.1, fun h => ⟨h, by
        have := (HHAS.out.1 k).2 _ (show memF D1.O Y k = some _ from if_pos h)
        exact this.1⟩⟩
    · have : k ∈ D1.O → Maps.has Dm (natL k) = true := fun h => ((HHAS.out.1 k).2 _ (show memF D1.O Y k = some _ from if_pos h)).1
      rw [if_neg (fun hx => by rw [this hx.1] at hx; exact absurd hx.2 (by simp))]
  case round =>
    obtain ⟨left, S', Y', hrg, hY, hdev, hkp, hfacts⟩ := hrel
    have HD := Hidden.mk hdev
    have HY := Hidden.mk hY
    have HK := Hidden.mk hkp
    clear hdev hY hkp hrg2 hg2 hs2
    go_wp2_with (at_next; refine wpList_next_ranges _ rfl _ rfl 3 int_keyed heldR (Value.int .i64) (fun v => v) (fun key kl hkey => (by obtain ⟨x, hx, _⟩ := Maps.keyOf_int_inv Tryz.underlying3 hkey; exact ⟨x, hx⟩)) (fun v y _ => ⟨v, rfl⟩) Y.gm r D1.O.length Dm left _ rfl hrg ?_ ?_)
    · intro hc0 hl0
      have HFIN : Hidden ({ D1 with S := S', O := [] } = flushD D1) := ⟨by
        unfold flushD
        congr 1
        obtain ⟨h1, h2, _⟩ := hfacts.out
        apply List.ext_getElem?
        intro k
        by_cases hk : k < D1.S.length
        · rw [h2 k hk, hl0, List.getElem?_map, List.getElem?_range hk]
          unfold readD
          by_cases hO : k ∈ D1.O
          · simp [hO]
          · simp [hO, hk]
        · rw [List.getElem?_eq_none (by omega), List.getElem?_eq_none (by simp; omega)]⟩
      clear hrg hfacts hc0 hl0
      go_wp2_with fail
      refine (dforget_any _ F d _ Y' _ HD.out).mono ?_
      rintro e w5 ⟨rfl, hdev5, hkp5, hsz5⟩
      have H5 : Hidden ((∃ Y', DevIs w5 F d (flushD D1) Y' (InO (flushD D1))) ∧ Keep F w w5) := ⟨⟨_, (by rw [HFIN.out] at hdev5; exact hdev5.live_of fun k => ⟨fun h => by simp [InO, flushD] at h, fun h => h.elim⟩)⟩, HK.out.trans hkp5 (fun x hx => .inl hx)⟩
      clear hdev5 hkp5 hsz5
      go_wp2_with fail
      go_ret
      exact ⟨rfl, by rw [← HD1.out]; exact H5.out⟩
    · intro x c kl y y2 w3 cnt3 hkey hlk hy hat hrg3 hlt3 hg3 hs3 hen
      obtain ⟨h1, h2, h3⟩ := hfacts.out
      obtain ⟨k, rfl, hfk⟩ := HHAS.out.2 kl (h3 kl hlk)
      have hkO : k ∈ D1.O := by
        unfold memF at hfk
        by_cases hx : k ∈ D1.O
        · exact hx
        · rw [if_neg hx] at hfk; cases hfk
      obtain ⟨x', ex, ekl, hwx⟩ := Maps.keyOf_int_inv Tryz.underlying3 hkey
      injection ex with _ ex
      subst ex
      have exk : x = (k : Int) := by unfold natL at ekl; injection ekl with _ e; omega
      subst exk
      have hck : c = rowV (Y.mb k) (Y.mc k) := by
        have ha := ((HHAS.out.1 k).2 _ (show memF D1.O Y k = some _ from if_pos hkO)).2 (.held c)
        rw [hat] at ha
        unfold heldR at hy
        rw [← (Prod.mk.inj (Option.some.inj hy)).1] at ha
        simpa using ha
      subst hck
      have hkn := (HD.out.mlen k hkO).1
      have hFr : ∀ q, F q → q ≠ r := fun q hq e => by have := HDEV.out.flt q hq; rw [HR.out] at this; omega
      have hdev3 : DevIs w3 F d { D1 with S := S' } Y' (fun k => k ∈ D1.O ∧ left (natL k) = true) := HD.out.same (fun q hq => hg3.block q (HD.out.flt q hq) (fun e => hFr q hq (Option.some.inj e))) (fun _ hq => hq) (fun q hq => by rw [hs3]; exact HD.out.flt q hq)
      obtain ⟨⟨e0, e1, e2, e3, e4⟩, -⟩ := five hdev3.hd
      obtain ⟨cur, hcur, hcsz, hcs⟩ := hdev3.sec
      have hcap := hdev3.cap
      have hcell : w3.cell? ⟨Y'.gs, k, none⟩ = some (rowV (Y'.sb k) (Y'.sc k)) := by
        rw [cell_of_row w3 Y'.gs k cur _ _ hcur]; exact hcs k hkn
      have hfr : w3.frozen? ⟨Y'.gs, k, none⟩ = false := frozen_of_row w3 Y'.gs k cur _ hcur
      have i0 : (0 : Int) ≤ k := by omega
      have i1 : (k : Int) < S'.length := by simp only at hkn; omega
      have hnew := hdev3.moved k ⟨hkO, hlk⟩ cur hcur (heap_set5 (k := k) hcur _) (fun q _ hq => Below.heap_setCell _ ⟨Y'.gs, k, none⟩ (rowV (Y'.mb k) (Y'.mc k)) q hq) (by simp)
      have hgmgs : some Y.gm ≠ some Y'.gs := fun e => DevIs.ne_map hcur hdev3.mem (by rw [HY.out.1]; exact (Option.some.inj e).symm)
      have hrgs : some r ≠ some Y'.gs := fun e => hFr Y'.gs hdev3.fs (Option.some.inj e).symm
      have hrg4 := hrg3.kept (grownBy_setCell w3 ⟨Y'.gs, k, none⟩ (rowV (Y.mb k) (Y.mc k))) hgmgs hrgs
      have hkp4 : Keep F w (w3.setCell ⟨Y'.gs, k, none⟩ (rowV (Y.mb k) (Y.mc k))) := (HK.out.trans (F' := fun q => q = r) ⟨hg3.os, hg3.tape, hg3.output, hg3.size, fun q hq hn => hg3.block q hq (fun e => hn (Option.some.inj e))⟩ (fun q hq => .inr (by rw [hq, ← HR.out]; exact HKP.out.size))).setCell (.inl hdev3.fs) _
      rw [HY.out.2.1, HY.out.2.2] at hnew
      have hnew2 := hnew.live_of (live' := fun j => j ∈ D1.O ∧ (left (natL j) && !(natL j).sameKey (natL k)) = true) fun j => by
        rw [nat_sameKey]
        by_cases hjk : j = k
        · simp [hjk]
        · simp [hjk]
      have HNEW : Hidden (∃ (left' : Lit → Bool) (S'' : List Bytes) (Y'' : Lay), (w3.setCell ⟨Y'.gs, k, none⟩ (rowV (Y.mb k) (Y.mc k))).ranges Tryz.prog 3 heldR Y.gm r D1.O.length Dm left' cnt3 ∧ (Y''.gm = Y.gm ∧ Y''.mb = Y.mb ∧ Y''.mc = Y.mc) ∧ DevIs (w3.setCell ⟨Y'.gs, k, none⟩ (rowV (Y.mb k) (Y.mc k))) F d { D1 with S := S'' } Y'' (fun k => k ∈ D1.O ∧ left' (natL k) = true) ∧ Keep F w (w3.setCell ⟨Y'.gs, k, none⟩ (rowV (Y.mb k) (Y.mc k))) ∧
          Hidden (S''.length = D1.S.length ∧ (∀ k, k < D1.S.length → S''[k]? = if k ∈ D1.O ∧ left' (natL k) = false then some (D1.M k) else D1.S[k]?) ∧ ∀ l, left' l = true → Maps.has Dm l = true)) := by
        refine ⟨⟨_, S'.set k (D1.M k), ⟨Y'.gs, Y'.cs, Y'.gm, Y'.vo, fun q => if q = k then Y.mb k else Y'.sb q, fun q => if q = k then Y.mc k else Y'.sc q, Y.mb, Y.mc⟩, hrg4, ⟨HY.out.1, rfl, rfl⟩, hnew2, hkp4, ⟨by simpa using h1, fun j hj => ?_, fun l hl => ?_⟩⟩⟩
        · rw [nat_sameKey, List.getElem?_set]
          by_cases hjk : k = j
          · subst hjk
            rw [if_pos rfl, if_pos (by omega), if_pos ⟨hkO, by simp⟩]
          · rw [if_neg hjk, h2 j hj]
            simp [show ¬ j = k from fun e => hjk e.symm]
        · simp only [Bool.and_eq_true] at hl
          exact h3 l hl.1
      unfold rowV at hcell hen
      have HMSR := Hidden.mk hlt3
      clear hrg hfacts hkey hlk hy hat hrg3 hlt3 hg3 hs3 h1 h2 h3 hfk hkO hwx ekl hkn hFr hdev3 hcur hcsz hcs hcap hnew hnew2 hgmgs hrgs hrg4 hkp4
      unfold rowV at HNEW
      go_wp2_with fail
      go_roundg cnt3
      case measure => exact HMSR.out
      case rel => exact HNEW.out
end Go.Proofs.YtbnobjlphmkgeaaGreatDoor
/- The contracts of package device: New, Pending. -/
namespace Go.Proofs.YtbnobjlphmkgeaaGreatDoor
open Go.RowKit Go.Maps Go.ChangeMaps

/-- a fresh device -/
def newD (n : Nat) : Dv := ⟨List.replicate n (List.replicate 32 0), [], fun _ => [], -1, false⟩
structure NewSt (w wr : World) (d gm k : Nat) (v : Value) (sb : Nat → Nat) : Prop where
  hd : wr.heap[d]? = some (.cells #[v, .map (some gm), .slice none 0 0, .int .i64 (-1), .bool false] 158 (0, 0))
  own : wr.ownsRow w.heap.size 22 1 v k ((List.range k).map fun i => rowV (sb i) 32)
  row : ∀ i, i < k → w.heap.size ≤ sb i ∧ Row wr 5 (sb i) 32 (List.replicate 32 0)
  inj : ∀ i j, i < k → j < k → sb i = sb j → i = j
  mem : IM Tryz.prog 3 natL wr gm (fun _ => none) 0
  bel : Below w.heap.size w wr
  gd : w.heap.size ≤ d
  gg : w.heap.size ≤ gm
theorem list_info : (Tryz.prog.info? 22).map (fun i => (i.zero, i.size, i.bytes)) = some (some (.slice none 0 0), 1, 24) := by kernel_rfl
theorem NewSt.dev {w wr : World} {d gm n : Nat} {v : Value} {sb : Nat → Nat} (h : NewSt w wr d gm n v sb) (h1 : 1 ≤ n) (h3 : n ≤ 300) :
    ∃ F Y, DevIs wr F d (newD n) Y (InO (newD n)) ∧ ∀ k, F k → w.heap.size ≤ k := by
  obtain ⟨g, cap, cur, hv, hg, hgh, hnc, hcm, hcs, hct⟩ : ∃ g cap cur, v = .slice (some ⟨g, 0, none⟩) n cap ∧ w.heap.size ≤ g ∧ wr.heap[g]? = some (.cells cur 22 (0, 0)) ∧ n ≤ cap ∧ cap ≤ maxLen ∧ cur.size = cap * 1 ∧ cur.toList.take (n * 1) = (List.range n).map fun i => rowV (sb i) 32 := by
    rcases h.own.2 with ⟨_, h0⟩ | h'
    · omega
    · exact h'
  subst hv
  have hlen : (newD n).S.length = n := by simp [newD]
  refine ⟨fun k => w.heap.size ≤ k ∧ k < wr.heap.size, ⟨g, cap, gm, .slice none 0 0, sb, fun _ => 32, fun _ => 0, fun _ => 0⟩, ?_, fun k hk => hk.1⟩
  refine { hd := by rw [hlen]; exact h.hd, sec := ⟨cur, hgh, by simpa using hcs, fun i hi => ?_⟩, cap := by rw [hlen]; exact hnc, row := fun i hi => ?_, ord := World.ownsRow_nil _ _ _ _, mem := ?_, mrow := fun i hi => by simp [InO, newD] at hi, mlen := fun i hi => by simp [newD] at hi, liv := fun i hi => hi, inj1 := ?_, inj2 := fun i j hi => by simp [InO, newD] at hi, inj3 := fun i j _ hj => by simp [InO, newD] at hj, nd := List.nodup_nil, n0 := by omega, n1 := by omega, l0 := by simp [newD], l1 := by simp [newD], fd := ?_, fs := ?_, fm := ?_, fo := fun q hq => by simp [Value.ownBlock] at hq, fr := ?_, fb := fun i hi => by simp [InO, newD] at hi, flt := fun k hk => hk.2 }
  · rw [hlen] at hi
    have : (cur.toList.take (n * 1))[i]? = some (rowV (sb i) 32) := by rw [hct]; simp [hi]
    rw [List.getElem?_take, if_pos (by omega)] at this
    simpa using this
  · rw [hlen] at hi
    have : (newD n).S[i] = List.replicate 32 0 := by simp [newD]
    rw [this]
    exact ⟨(h.row i hi).2, by simp⟩
  · have : memF (newD n).O ⟨g, cap, gm, .slice none 0 0, sb, fun _ => 32, fun _ => 0, fun _ => 0⟩ = fun _ => none := by funext k; simp [memF, newD]
    rw [this]
    exact h.mem
  · intro i j hi hj
    rw [hlen] at hi hj
    exact h.inj i j hi hj
  · exact ⟨h.gd, (Array.getElem?_eq_some_iff.1 h.hd).1⟩
  · exact ⟨hg, (Array.getElem?_eq_some_iff.1 hgh).1⟩
  · exact ⟨h.gg, h.mem.lt⟩
  · intro i hi
    rw [hlen] at hi
    exact ⟨(h.row i hi).1, (h.row i hi).2.lt⟩
theorem NewSt.next {w wr w6 w7 : World} {d gm k g7 cap7 : Nat} {v : Value} {sb : Nat → Nat} (h : NewSt w wr d gm k v sb) (hrz : Row w6 5 wr.heap.size 32 (List.replicate 32 0)) (hg6 : w6.drew.grownBy w7 v.ownBlock)
    (hown7 : w7.ownsRow w.heap.size 22 1 (.slice (some ⟨g7, 0, none⟩) (k + 1) cap7) (k + 1) (((List.range k).map fun i => rowV (sb i) 32) ++ [.slice (some ⟨wr.heap.size, 0, none⟩) 32 32])) (hgG : wr.grownBy w7 v.ownBlock) (hat : v.ownBlock = some g7 ∨ g7 = wr.heap.size + 2) :
    NewSt w (w7.setCell ⟨d, 0, none⟩ (.slice (some ⟨g7, 0, none⟩) (k + 1) cap7)) d gm (k + 1) (.slice (some ⟨g7, 0, none⟩) (k + 1) cap7) (fun i => if i = k then wr.heap.size else sb i) := by
  have hdl := (Array.getElem?_eq_some_iff.1 h.hd).1
  have hno := DevIs.ne_own h.hd h.own (by decide)
  have hh7 := (hgG.block d hdl (fun e => hno e.symm)).trans h.hd
  have hgd : g7 ≠ d := by
    rcases hat with h' | h'
    · exact fun e => hno (e ▸ h')
    · omega
  have hb : ∀ q, q < wr.heap.size → q ≠ d → v.ownBlock ≠ some q → (w7.setCell ⟨d, 0, none⟩ (.slice (some ⟨g7, 0, none⟩) (k + 1) cap7)).heap[q]? = wr.heap[q]? := fun q hq hqd hqv =>
    (Below.heap_setCell _ _ _ q hqd).trans (hgG.block q hq (fun e => hqv e.symm))
  have hrow : ∀ {q : Nat} {l : Bytes}, Row wr 5 q 32 l → Row (w7.setCell ⟨d, 0, none⟩ (.slice (some ⟨g7, 0, none⟩) (k + 1) cap7)) 5 q 32 l := fun {q l} hr => by
    obtain ⟨cur, h0, _⟩ := id hr
    exact hr.block (hb q hr.lt (DevIs.ne_row h.hd hr (by decide)).symm (DevIs.ne_own h0 h.own (by decide)))
  refine ⟨heap_set5 hh7 _, ?_, fun i hi => ?_, fun i j hi hj he => ?_, ?_, ?_, h.gd, h.gg⟩
  · have := ownsRow_block (w' := w7.setCell ⟨d, 0, none⟩ (.slice (some ⟨g7, 0, none⟩) (k + 1) cap7)) hown7 (fun q hq => Below.heap_setCell _ _ _ _ (by
      have : g7 = q := by simpa [Value.ownBlock] using hq
      rw [← this]; exact hgd))
    have hl : (List.range (k + 1)).map (fun i => rowV (if i = k then wr.heap.size else sb i) 32) = ((List.range k).map fun i => rowV (sb i) 32) ++ [.slice (some ⟨wr.heap.size, 0, none⟩) 32 32] := by
      rw [List.range_succ, List.map_append]
      congr 1
      · apply List.map_congr_left
        intro i hi
        have : i ≠ k := by have := List.mem_range.1 hi; omega
        rw [if_neg this]
      · simp [rowV]
    rw [hl]
    exact this
  · by_cases hik : i = k
    · simp only [hik, if_true]
      refine ⟨h.bel.size, hrz.block ((Below.heap_setCell _ _ _ _ (show wr.heap.size ≠ d by omega)).trans (hg6.block _ hrz.lt (fun e => ?_)))⟩
      have := (h.own.lt _ e.symm).2
      omega
    · simp only [if_neg hik]
      exact ⟨(h.row i (by omega)).1, hrow (h.row i (by omega)).2⟩
  · by_cases hik : i = k
    · by_cases hjk : j = k
      · omega
      · rw [if_pos hik, if_neg hjk] at he
        have := (h.row j (by omega)).2.lt; omega
    · by_cases hjk : j = k
      · rw [if_neg hik, if_pos hjk] at he
        have := (h.row i (by omega)).2.lt; omega
      · rw [if_neg hik, if_neg hjk] at he
        exact h.inj i j (by omega) (by omega) he
  · refine h.mem.block (hb gm h.mem.lt (DevIs.ne_map h.hd h.mem).symm (fun e => ?_))
    rcases h.own.2 with ⟨e', _⟩ | ⟨g', cap', cur', e', _, hh', _⟩
    · rw [e'] at e; simp [Value.ownBlock] at e
    · rw [e'] at e
      obtain rfl : g' = gm := by simpa [Value.ownBlock] using e
      exact DevIs.ne_map hh' h.mem rfl
  · exact (h.bel.grown hgG h.bel.size (fun q hq => (h.own.lt q hq).1)).setCell (p := ⟨d, 0, none⟩) h.gd _
set_option maxRecDepth 100000 in
theorem dnew_ok (n : Nat) (w : World) (h1 : 1 ≤ n) (h3 : n ≤ 300) :
    Calls Tryz.prog 34 #[.int .i64 (n : Int)] w fun e w' => ∃ d F Y, e = .returned (.tuple #[.pointer (some ⟨d, 0, none⟩), .nilIface]) ∧ DevIs w' F d (newD n) Y (InO (newD n)) ∧ (∀ k, F k → w.heap.size ≤ k) ∧ Below w.heap.size w w' := by
  obtain ⟨i2, hi2, hx0, hx1, hx2⟩ := info_parts list_info
  have hmm := @run_makeMap Tryz.prog
  have hB0 := ((Below.refl w.heap.size w).alloc (Nat.le_refl _) (.map #[] 0)).alloc (by simp) (.cells #[.slice none 0 0, .map (some w.heap.size), .slice none 0 0, .int .i64 (-1), .bool false] 158)
  have hst0 : NewSt w ((w.alloc (.map #[] 0)).alloc (.cells #[.slice none 0 0, .map (some w.heap.size), .slice none 0 0, .int .i64 (-1), .bool false] 158)) (w.heap.size + 1) w.heap.size 0 (.slice none 0 0) (fun _ => 0) :=
    ⟨by have := heap_alloc_new (w.alloc (.map #[] 0)) (.cells #[.slice none 0 0, .map (some w.heap.size), .slice none 0 0, .int .i64 (-1), .bool false] 158); rwa [World.size_alloc] at this, World.ownsRow_nil _ _ _ _, fun i hi => by omega, fun i j hi => by omega,
      (IM.made w).block (Below.heap_alloc _ _ _ (by simp)), hB0, by omega, by omega⟩
  have H0 := Hidden.mk hst0
  have t1 : decide ((n : Int) < 1) = false := by simp; omega
  clear hst0 hB0
  go_enter Tryz.func34, Tryz.ntmps34
  go_wp2_with fail
  generalize hdd : w.heap.size + 1 = d at *
  have hdd' : w.heap.size + 1 = d := hdd
  generalize (w.alloc (.map #[] 0)).alloc (.cells #[.slice none 0 0, .map (some w.heap.size), .slice none 0 0, .int .i64 (-1), .bool false] 158) = w2 at *
  clear hmm hdd hdd'
  go_loopg [16] n (fun m i wr => ∃ (k : Nat) (v : Value) (sb : Nat → Nat), k ≤ n ∧ m = n - k ∧ i = .int .i64 (k : Int) ∧ NewSt w wr d w.heap.size k v sb)
  case atStart => exact ⟨0, _, _, by omega, rfl, rfl, H0.out⟩
  case round =>
    obtain ⟨k, v, sb, hk, rfl, rfl, hst⟩ := hrel
    by_cases hlt : k < n
    · obtain ⟨⟨c0, c1, c2, c3, c4⟩, ff⟩ := five hst.hd
      have f0 := ff 0
      have hdl := (Array.getElem?_eq_some_iff.1 hst.hd).1
      have hmk := fun W => mk_bytes 32 32 rfl (by omega) W
      have HS := Hidden.mk hst
      have HOWN := Hidden.mk hst.own
      clear hst ff H0
      go_wp2_with fail
      have hal : Below wr.heap.size wr ((wr.alloc (.cells (zeroRow 32) 5)).alloc (.cells #[.slice (some ⟨wr.heap.size, 0, none⟩) 32 32] 22)) := ((Below.refl _ _).alloc (Nat.le_refl _) _).alloc (by simp) _
      have hnb : ((wr.alloc (.cells (zeroRow 32) 5)).alloc (.cells #[.slice (some ⟨wr.heap.size, 0, none⟩) 32 32] 22)).drew.heap[wr.heap.size + 1]? = some (.cells #[.slice (some ⟨wr.heap.size, 0, none⟩) 32 32] 22) := by
        have := heap_alloc_new (wr.alloc (.cells (zeroRow 32) 5)) (.cells #[.slice (some ⟨wr.heap.size, 0, none⟩) 32 32] 22)
        rwa [World.size_alloc] at this
      have hrz : Row ((wr.alloc (.cells (zeroRow 32) 5)).alloc (.cells #[.slice (some ⟨wr.heap.size, 0, none⟩) 32 32] 22)) 5 wr.heap.size 32 (List.replicate 32 0) := (row_zeros wr 32 (by simp [maxLen])).block (Below.heap_alloc _ _ _ (by simp))
      have HAL := Hidden.mk hal
      have HNB := Hidden.mk hnb
      have HRZ := Hidden.mk hrz
      clear hal hnb hrz
      go_region_law (refine step_append_lies _ (by rfl) _ _ _ (by rfl) w.heap.size 22 i2 _ 1 24 Tryz.underlying156 hi2 hx0 hx1 hx2 rfl (by omega) v k _ (by rfl) (own_below HOWN.out HAL.out.drew) ⟨wr.heap.size + 1, 0, none⟩ 1 1 [.slice (some ⟨wr.heap.size, 0, none⟩) 32 32] (by rfl) (by rfl) (World.news_of_block (cs := #[.slice (some ⟨wr.heap.size, 0, none⟩) 32 32]) (t := 22) (fr := (0, 0)) HNB.out) (by simp [Value.oneCell']) (by omega) (by simp only [maxLen]; omega) (by omega) (by have := HS.out.bel.size; simp; omega) (wr.heap.size + 2) (by simp) ?_; intro g7 cap7 w7 hown7 hg7 hat7 hlt7; have hgG := grown_trans' HAL.out.drew hg7; have hh7 := (hgG.block d hdl (fun e => DevIs.ne_own HS.out.hd HOWN.out (by decide) e.symm)).trans HS.out.hd; obtain ⟨⟨e0, e1, e2, e3, e4⟩, fe⟩ := five hh7; have fe0 := fe 0)
      all_goals
        have HNX := Hidden.mk (HS.out.next HRZ.out hg7 hown7 hgG hat7)
        clear hown7 hg7 hat7 hlt7 hgG hh7 e0 e1 e2 e3 e4 fe fe0
        go_wp2_with fail
        go_roundg (n - (k + 1))
        case measure => omega
        case rel => exact ⟨k + 1, _, _, by omega, rfl, by go_num, HNX.out⟩
    · obtain rfl : k = n := by omega
      obtain ⟨F, Y, hdev, hF⟩ := hst.dev h1 h3
      have HB := Hidden.mk hst.bel
      have H := Hidden.mk (And.intro hdev hF)
      clear hst hdev hF H0
      go_wp2_with fail
      go_ret2
      exact ⟨d, F, Y, rfl, H.out.1, H.out.2, HB.out⟩

end Go.Proofs.YtbnobjlphmkgeaaGreatDoor
/- The contract of Crash. -/
namespace Go.Proofs.YtbnobjlphmkgeaaGreatDoor
open Go.RowKit Go.Maps Go.ChangeMaps

/-- the slice at A has these booleans -/
def RdB (w : World) (A : Option Addr) (l : List Bool) : Prop := ∀ j (h : j < l.length), ∃ b off, A = some ⟨b, off, none⟩ ∧ w.cell? ⟨b, off + j, none⟩ = some (.bool l[j])
/-- what becomes of the k-th sector that is pending -/
def crash1 (D : Dv) (keep : List Bool) (torn : Int) (c k : Nat) : Bytes :=
  if (k : Int) = torn then splice (D.S.getD (D.O.getD k 0) []) 0 ((D.M (D.O.getD k 0)).take c) else if keep.getD k false = true then D.M (D.O.getD k 0) else D.S.getD (D.O.getD k 0) []
def crashS (D : Dv) (keep : List Bool) (torn : Int) (c : Nat) : Nat → List Bytes
  | 0 => D.S
  | k + 1 => (crashS D keep torn c k).set (D.O.getD k 0) (crash1 D keep torn c k)
def crashD (D : Dv) (keep : List Bool) (torn : Int) (c : Nat) : Dv := { D with S := crashS D keep torn c D.O.length, O := [], left := -1, down := false }
theorem crashS_len (D : Dv) (keep : List Bool) (torn : Int) (c : Nat) : ∀ k, (crashS D keep torn c k).length = D.S.length
  | 0 => rfl
  | k + 1 => by simp [crashS, crashS_len D keep torn c k]
/-- what is not yet looked at is as it was -/
theorem crashS_old (D : Dv) (keep : List Bool) (torn : Int) (c i : Nat) : ∀ k, (∀ j, j < k → D.O.getD j 0 ≠ i) → (crashS D keep torn c k)[i]? = D.S[i]?
  | 0, _ => rfl
  | k + 1, h => by
    rw [crashS, List.getElem?_set_ne (h k (by omega)), crashS_old D keep torn c i k (fun j hj => h j (by omega))]
theorem DevIs.less {w : World} {F : Nat → Prop} {d : Nat} {D : Dv} {Y : Lay} {live live' : Nat → Prop} (h : DevIs w F d D Y live) (hl : ∀ k, live' k → live k) : DevIs w F d D Y live' :=
  { hd := h.hd, sec := h.sec, cap := h.cap, row := h.row, ord := h.ord, mem := h.mem, mrow := fun i hi => h.mrow i (hl i hi), mlen := h.mlen, liv := fun i hi => h.liv i (hl i hi), inj1 := h.inj1, inj2 := fun i j hi hj => h.inj2 i j (hl i hi) (hl j hj), inj3 := fun i j hi hj => h.inj3 i j hi (hl j hj), nd := h.nd, n0 := h.n0, n1 := h.n1, l0 := h.l0, l1 := h.l1, fd := h.fd, fs := h.fs, fm := h.fm, fo := h.fo, fr := h.fr, fb := fun i hi => h.fb i (hl i hi), flt := h.flt }
theorem DevIs.torn {w w' : World} {F : Nat → Prop} {d : Nat} {D : Dv} {Y : Lay} {live : Nat → Prop} (h : DevIs w F d D Y live) (i : Nat) (hi : i < D.S.length) (x : Bytes)
    (hr : Row w' 5 (Y.sb i) (Y.sc i) x) (hx : x.length = 32) (hb : ∀ k, F k → k ≠ Y.sb i → w'.heap[k]? = w.heap[k]?) (hsz : w.heap.size ≤ w'.heap.size) (hlv : ∀ k, live k → k ≠ i) :
    DevIs w' F d { D with S := D.S.set i x } Y live := by
  obtain ⟨cur0, hcur0, _⟩ := id (h.row i hi).1
  have hlen : (D.S.set i x).length = D.S.length := by simp
  refine { hd := ?_, sec := ?_, cap := by rw [hlen]; exact h.cap, row := ?_, ord := ?_, mem := ?_, mrow := fun k hk => ?_, mlen := ?_, liv := h.liv, inj1 := ?_, inj2 := h.inj2, inj3 := ?_, nd := h.nd, n0 := by rw [hlen]; exact h.n0, n1 := by rw [hlen]; exact h.n1, l0 := h.l0, l1 := h.l1, fd := h.fd, fs := h.fs, fm := h.fm, fo := h.fo, fr := ?_, fb := h.fb, flt := fun k hk => Nat.lt_of_lt_of_le (h.flt k hk) hsz }
  · simp only [List.length_set]
    exact (hb _ h.fd (DevIs.ne_cells h.hd hcur0 (by decide))).trans h.hd
  · obtain ⟨cur, h0, h1, h2⟩ := h.sec
    refine ⟨cur, (hb _ h.fs (DevIs.ne_cells h0 hcur0 (by decide))).trans h0, h1, fun k hk => ?_⟩
    simp only [List.length_set] at hk
    exact h2 k hk
  · intro k hk
    simp only [List.length_set] at hk
    by_cases hki : k = i
    · subst hki
      simp only [List.getElem_set_self]
      exact ⟨hr, hx⟩
    · rw [List.getElem_set_ne (fun e => hki e.symm)]
      exact ⟨(h.row k hk).1.block (hb _ (h.fr k hk) (fun e => hki (h.inj1 k i hk hi e))), (h.row k hk).2⟩
  · exact ownsRow_block h.ord fun q hq => hb q (h.fo q hq) (fun e => DevIs.ne_own hcur0 h.ord (by decide) (by rw [hq, e]))
  · exact h.mem.block (hb _ h.fm (DevIs.ne_map hcur0 h.mem).symm)
  · exact (h.mrow k hk).block (hb _ (h.fb k hk) (h.inj3 i k hi hk).symm)
  · intro k hk
    simp only [List.length_set]
    exact h.mlen k hk
  · intro a b ha hb
    simp only [List.length_set] at ha hb
    exact h.inj1 a b ha hb
  · intro a b ha hb
    simp only [List.length_set] at ha
    exact h.inj3 a b ha hb
  · intro k hk
    simp only [List.length_set] at hk
    exact h.fr k hk
theorem own_nats {w : World} {base n : Nat} {v : Value} {O : List Nat} (h : w.ownsRow base 3 1 v n (O.map fun i : Nat => .int .i64 (i : Int))) :
    ∃ A c, v = .slice A n c ∧ ∀ k (hk : k < O.length), ∃ g off, A = some ⟨g, off, none⟩ ∧ w.cell? ⟨g, off + k, none⟩ = some (.int .i64 (O[k] : Int)) := by
  rcases h.2 with ⟨rfl, rfl⟩ | ⟨g, cap, cur, rfl, _, hh, hc, hm, hz, ht⟩
  · have hl := h.1
    simp only [List.length_map, Nat.zero_mul] at hl
    exact ⟨none, 0, rfl, fun k hk => by omega⟩
  · refine ⟨_, cap, rfl, fun k hk => ⟨g, 0, rfl, ?_⟩⟩
    have := h.cells (g := g) rfl k (.int .i64 (O[k] : Int)) (by simp [hk])
    rw [Addr.add_lit] at this
    exact this
theorem run_tear {wr : World} {g cap mb mc c : Nat} {l m : Bytes} (h : Row wr 5 g cap l) (hl : l.length = 32) (hm : Row wr 5 mb mc m) (hml : m.length = 32) (hc : c ≤ 32) :
    ∃ W, (∀ ty, (Builtin.copy_ #[22, 22] ty #[.slice (some ⟨g, 0, none⟩) 32 cap, .slice (some ⟨mb, 0, none⟩) c mc]).run Tryz.prog wr.drew = .ok (.int .i64 (c : Int)) W.drew) ∧ Row W 5 g cap (splice l 0 (m.take c)) ∧ (∀ k, k ≠ g → W.heap[k]? = wr.heap[k]?) ∧ Keep (fun k => k = g) wr W ∧ W.heap.size = wr.heap.size := by
  obtain ⟨cur, hcur, hc1, hc2, hcs, hct⟩ := id h
  have hlt : (m.take c).length = c := by simp; omega
  have hcopy := fun ty => run_copy_rd wr.drew g 0 32 cap c mc c (some ⟨mb, 0, none⟩) (m.take c) cur 5 hcur hlt ((hm.rd.take c (by omega)).drewN 1) (by simp [Nat.min_def]; omega) (by omega) ty
  rw [List.take_of_length_le (by omega)] at hcopy
  have hg := grownBy_setRow wr g (setB cur 0 ((m.take c).map bv))
  refine ⟨wr.setRow g (setB cur 0 ((m.take c).map bv)), hcopy, h.set_ 0 _ (by omega) cur hcur, fun k hk => ?_, ⟨hg.os, hg.tape, hg.output, hg.size, fun k hk hn => hg.block k hk (fun e => hn (Option.some.inj e))⟩, by simp [World.setRow]⟩
  · simp [World.setRow, Array.getElem?_modify, hk.symm]
/-- the loop's state -/
structure CrSt (w wr : World) (F : Nat → Prop) (d : Nat) (D : Dv) (Y Y' : Lay) (S' : List Bytes) (k : Nat) : Prop where
  dev : DevIs wr F d { D with S := S' } Y' (fun i => ∃ j, k ≤ j ∧ D.O[j]? = some i)
  same : Y'.gm = Y.gm ∧ Y'.mb = Y.mb ∧ Y'.mc = Y.mc ∧ Y'.vo = Y.vo ∧ Y'.gs = Y.gs ∧ Y'.cs = Y.cs
  len : S'.length = D.S.length
  kp : Keep F w wr
set_option maxRecDepth 100000 in
theorem dcrash_any (A : Option Addr) (nk ck : Nat) (keep : List Bool) (torn cut : Int) (w : World) (F : Nat → Prop) (d : Nat) (D : Dv) (Y : Lay) (h : DevIs w F d D Y (InO D)) (hn : keep.length = nk) (hrd : RdB w A keep) (hA : 0 < nk → ∀ ad, A = some ad → ¬ F ad.block) :
    Calls Tryz.prog 97 #[.pointer (some ⟨d, 0, none⟩), .slice A nk ck, .int .i64 torn, .int .i64 cut] w fun e w' => e = .returned (.int .i64 D.O.length) ∧ (∃ Y', DevIs w' F d (crashD D keep torn (min 32 (max 0 cut)).toNat) Y' (InO (crashD D keep torn (min 32 (max 0 cut)).toNat))) ∧ Keep F w w' := by
  obtain ⟨⟨c0, c1, c2, c3, c4⟩, -⟩ := five h.hd
  have hmax : ∀ (ty : TypeId) (W : World), (Builtin.max_ #[3, 3] ty #[.int .i64 0, .int .i64 cut]).run Tryz.prog W = .ok (.int .i64 (max 0 cut)) W := by
    intro ty W
    rw [show max 0 cut = if 0 < cut then cut else 0 by omega]
    by_cases h0 : 0 < cut <;> simp [Builtin.max_, Builtin.max2, h0]
  have hmin : ∀ (ty : TypeId) (W : World), (Builtin.min_ #[3, 3] ty #[.int .i64 32, .int .i64 (max 0 cut)]).run Tryz.prog W = .ok (.int .i64 (min 32 (max 0 cut))) W := by
    intro ty W
    rw [show min 32 (max 0 cut) = if max 0 cut < 32 then max 0 cut else 32 by omega]
    by_cases h0 : max 0 cut < 32 <;> simp [Builtin.min_, Builtin.min2, h0]
  obtain ⟨cn, hcn⟩ : ∃ cn : Nat, cn = (min 32 (max 0 cut)).toNat := ⟨_, rfl⟩
  have hci : min 32 (max 0 cut) = (cn : Int) := by omega
  have hc32 : cn ≤ 32 := by omega
  rw [← hcn]
  rw [hci] at hmin
  obtain ⟨Ao, co, hvo, -⟩ := own_nats h.ord
  have hst0 : CrSt w w F d D Y Y (crashS D keep torn cn 0) 0 := ⟨h.live_of fun i => ⟨fun ⟨j, _, hj⟩ => List.mem_of_getElem? hj, fun hi => by obtain ⟨j, hj⟩ := List.mem_iff_getElem?.1 hi; exact ⟨j, by omega, hj⟩⟩, ⟨rfl, rfl, rfl, rfl, rfl, rfl⟩, rfl, Keep.refl _ _⟩
  have HST := Hidden.mk hst0
  have HH := Hidden.mk h
  have HN := Hidden.mk hn
  have HRD := Hidden.mk hrd
  have HOL := h.ord_le
  have hn1 := h.n1
  rw [hvo] at c2
  clear hst0 h hn hrd hcn hci
  go_enter Tryz.func97, Tryz.ntmps97
  go_wp2_with fail
  clear c0 c1 c2 c3 c4 hmax hmin
  go_loopg [20] D.O.length (fun m i wr => ∃ (k : Nat) (Y' : Lay), k ≤ D.O.length ∧ m = D.O.length - k ∧ i = .int .i64 (k : Int) ∧ CrSt w wr F d D Y Y' (crashS D keep torn cn k) k)
  case atStart => exact ⟨0, Y, by omega, rfl, rfl, HST.out⟩
  case round =>
    obtain ⟨k, Y', hk, rfl, rfl, hst⟩ := hrel
    by_cases hlt : k < D.O.length
    · have i0 : (0 : Int) ≤ k := by omega
      have i1 : (k : Int) < D.O.length := by omega
      have hdev := hst.dev
      obtain ⟨⟨e0, e1, e2, e3, e4⟩, -⟩ := five hdev.hd
      simp only [hst.len] at e0
      obtain ⟨Ax, cx, hvx, hcells⟩ := own_nats hdev.ord
      have hvv : Value.slice Ax D.O.length cx = Value.slice Ao D.O.length co := by rw [← hvo, ← hst.same.2.2.2.1]; exact hvx.symm
      injection hvv with hAx _ hcx
      subst hAx hcx
      obtain ⟨go_, off, rfl, hcell⟩ := hcells k hlt
      have hin := (HH.out.mlen D.O[k] (List.getElem_mem hlt)).1
      have hgd : D.O.getD k 0 = D.O[k] := by simp [hlt]
      have hlook := fun (W : World) (hW : W.heap = wr.heap) => ((hdev.mem.block (w' := W) (by rw [hW])).look_some int_keyed (T := 155) Tryz.underlying155 (zero_bytes W) (int_key (n := D.O[k]) (by omega)) (show memF D.O Y' D.O[k] = some _ from if_pos (List.getElem_mem hlt))).2
      obtain ⟨cur, hcur, hcsz, hcs⟩ := hdev.sec
      have hsc : wr.cell? ⟨Y'.gs, D.O[k], none⟩ = some (rowV (Y'.sb D.O[k]) (Y'.sc D.O[k])) := by
        rw [cell_of_row wr Y'.gs D.O[k] cur _ _ hcur]; exact hcs _ (by simp only [hst.len]; exact hin)
      have hgsl := (Array.getElem?_eq_some_iff.1 hcur).1
      have hfr : ∀ q, wr.frozen? ⟨Y'.gs, q, none⟩ = false := fun q => frozen_of_row wr Y'.gs q cur _ hcur
      have hold := crashS_old D keep torn cn D.O[k] k (fun j hj e => by
        have hj' : j < D.O.length := by omega
        have e' : D.O[j] = D.O[k] := by have : D.O.getD j 0 = D.O[j] := by simp [hj']
                                        rw [← this]; exact e
        exact (List.pairwise_iff_getElem.1 HH.out.nd) j k hj' hlt hj e')
      have i2 : (0 : Int) ≤ D.O[k] := by omega
      have i3 : (D.O[k] : Int) < D.S.length := by omega
      have hlivek : ∃ j, k ≤ j ∧ D.O[j]? = some D.O[k] := ⟨k, Nat.le_refl _, by simp [hlt]⟩
      generalize hik : D.O[k] = i at *
      have HIK := Hidden.mk hik
      clear hik
      have hD1 : d ≠ Y'.gs := DevIs.ne_cells hdev.hd hcur (by decide)
      by_cases ht : (k : Int) = torn
      · have t1 : ((k : Int) == torn) = true := by simpa using ht
        obtain ⟨hrowi, hleni⟩ := hdev.row i (by simp only [hst.len]; exact hin)
        have hmr := hdev.mrow i hlivek
        have hml := (HH.out.mlen i (by rw [← HIK.out]; exact List.getElem_mem hlt)).2
        have hmc := hmr.le.1
        have hmc2 : cn ≤ Y'.mc i := by simp only at hmc; omega
        obtain ⟨W5, hcopy, hrow5, hb5, hk5, hs5⟩ := run_tear (c := cn) hrowi hleni hmr hml hc32
        have hl := hlook wr.drew rfl
        unfold rowV at hl hsc
        have hsne : ∀ q, q ≠ Y'.sb i → W5.drew.cell? ⟨q, 0, none⟩ = wr.cell? ⟨q, 0, none⟩ := fun q hq => World.cell?_of_block (w := wr) (w' := W5.drew) (a := ⟨q, 0, none⟩) (hb5 q hq)
        have n1 : d ≠ Y'.sb i := DevIs.ne_row hdev.hd hrowi (by decide)
        have n2 : Y'.gs ≠ Y'.sb i := DevIs.ne_row hcur hrowi (by decide)
        have p0 : W5.drew.cell? ⟨d, 0, none⟩ = _ := (World.cell?_of_block (w := wr) (w' := W5.drew) (a := ⟨d, 0, none⟩) (hb5 d n1)).trans e0
        have p1 : W5.drew.cell? ⟨d, 1, none⟩ = _ := (World.cell?_of_block (w := wr) (w' := W5.drew) (a := ⟨d, 1, none⟩) (hb5 d n1)).trans e1
        have p2 : W5.drew.cell? ⟨Y'.gs, i, none⟩ = _ := (World.cell?_of_block (w := wr) (w' := W5.drew) (a := ⟨Y'.gs, i, none⟩) (hb5 _ n2)).trans hsc
        have hil : i < (crashS D keep torn cn k).length := by rw [crashS_len]; exact hin
        have hsi : (crashS D keep torn cn k)[i] = D.S.getD i [] := by
          have h1 := hold
          rw [List.getElem?_eq_getElem hil] at h1
          rw [List.getD_eq_getElem?_getD, ← h1]; rfl
        have hle32 : ((crashS D keep torn cn k)[i]'hil).length = 32 := hleni
        have hnext : crashS D keep torn cn (k + 1) = (crashS D keep torn cn k).set i (splice (crashS D keep torn cn k)[i] 0 ((D.M i).take cn)) := by
          rw [crashS, crash1, if_pos ht, hgd, hsi]
        have hnew := (hdev.less (live' := fun q => ∃ j, k + 1 ≤ j ∧ D.O[j]? = some q) (fun q ⟨j, hj, hq⟩ => ⟨j, by omega, hq⟩)).torn i (by simp only [hst.len]; exact hin) _ hrow5 (by rw [length_splice _ _ _ (by rw [List.length_take]; omega)]; exact hleni) (fun q _ hq => hb5 q hq) (by omega) (fun q ⟨j, hj, hq⟩ e => by
          obtain ⟨hj', hq'⟩ := List.getElem?_eq_some_iff.1 hq
          exact (List.pairwise_iff_getElem.1 HH.out.nd) k j hlt hj' (by omega) (by rw [HIK.out, hq', e]))
        have hst5 : CrSt w W5.drew F d D Y Y' (crashS D keep torn cn (k + 1)) (k + 1) := ⟨(by rw [hnext]; exact hnew.below ((Below.refl _ _).drew)), hst.same, crashS_len _ _ _ _ _, (hst.kp.trans hk5 (fun x hx => .inl (hx ▸ hdev.fr i (by simp only [hst.len]; exact hin)))).drewN 1⟩
        have HST5 := Hidden.mk hst5
        have KE0 := Hidden.mk (And.intro e0 (And.intro e1 hsc))
        have KP0 := Hidden.mk (And.intro p0 (And.intro p1 p2))
        clear hst5 hnew hnext hle32 hsi hil hsne n1 n2 hrow5 hb5 hk5 hs5 hrowi hmr hml hmc hleni ht hold hlook hcs hcsz hcur hdev hst hcells hlivek HST e2 e3 e4 hD1 hgsl hfr p0 p1 p2 hvx
        go_wp2_with fail
        go_region_held3 (fun W => W.cell? ⟨d, 0, none⟩ = some (.slice (some ⟨Y'.gs, 0, none⟩) D.S.length Y'.cs) ∧ W.cell? ⟨d, 1, none⟩ = some (.map (some Y'.gm)) ∧ W.cell? ⟨Y'.gs, i, none⟩ = some (.slice (some ⟨Y'.sb i, 0, none⟩) 32 (Y'.sc i))) (first | exact KE0.out | exact KP0.out)
          (go_simp)
        go_wp2_with fail
        go_roundg (D.O.length - (k + 1))
        case measure => omega
        case rel => exact ⟨k + 1, Y', by omega, rfl, by go_num, HST5.out⟩
      · have t1 : ((k : Int) == torn) = false := by simpa using ht
        have hil : i < (crashS D keep torn cn k).length := by rw [crashS_len]; exact hin
        have hsi : (crashS D keep torn cn k)[i] = D.S.getD i [] := by
          have h1 := hold
          rw [List.getElem?_eq_getElem hil] at h1
          rw [List.getD_eq_getElem?_getD, ← h1]; rfl
        have hse : (crashS D keep torn cn k).set i (D.S.getD i []) = crashS D keep torn cn k := by rw [← hsi]; exact List.set_getElem_self hil
        by_cases hkk : k < nk
        · have hkb : wr.heap.size = wr.heap.size := rfl
          obtain ⟨pb, offb, hAe, hcb⟩ := HRD.out k (by rw [HN.out]; exact hkk)
          subst hAe
          have hcb2 := (World.cell?_of_block (w := w) (w' := wr) (a := ⟨pb, offb + k, none⟩) (hst.kp.block pb (block_lt_of_cell hcb) (hA (by omega) _ rfl))).trans hcb
          have hkl : k < keep.length := by rw [HN.out]; exact hkk
          have hkg : keep.getD k false = keep[k] := by simp [hkl]
          have i4 : (k : Int) < nk := by omega
          cases hkf : keep[k]'hkl with
          | false =>
            rw [hkf] at hcb2
            have hnext : crashS D keep torn cn (k + 1) = crashS D keep torn cn k := by
              rw [crashS, crash1, if_neg ht, hkg, hkf, hgd]
              simpa using hse
            clear hkb hcb hkg
            have hst5 : CrSt w wr F d D Y Y' (crashS D keep torn cn (k + 1)) (k + 1) := ⟨by rw [hnext]; exact hdev.less (fun q ⟨j, hj, hq⟩ => ⟨j, by omega, hq⟩), hst.same, crashS_len _ _ _ _ _, hst.kp⟩
            have HST5 := Hidden.mk hst5
            clear hst5 hnext hse hsi hil ht hold hlook hcs hcsz hcur hdev hst hcells hlivek HST e0 e1 e2 e3 e4 hD1 hgsl hfr hvx hkf
            go_wp2_with fail
            go_roundg (D.O.length - (k + 1))
            case measure => omega
            case rel => exact ⟨k + 1, Y', by omega, rfl, by go_num, HST5.out⟩
          | true =>
            rw [hkf] at hcb2
            have hnext : crashS D keep torn cn (k + 1) = (crashS D keep torn cn k).set i (D.M i) := by
              rw [crashS, crash1, if_neg ht, hkg, hkf, hgd]
              simp
            have hl := hlook wr.drew rfl
            unfold rowV at hl
            have hmv := hdev.moved i hlivek cur hcur (heap_set5 (k := i) hcur _) (fun q _ hq => Below.heap_setCell _ ⟨Y'.gs, i, none⟩ (rowV (Y'.mb i) (Y'.mc i)) q hq) (by simp)
            have hmv2 := hmv.less (live' := fun q => ∃ j, k + 1 ≤ j ∧ D.O[j]? = some q) (fun q ⟨j, hj, hq⟩ => ⟨⟨j, by omega, hq⟩, fun e => by
              obtain ⟨hj', hq'⟩ := List.getElem?_eq_some_iff.1 hq
              exact (List.pairwise_iff_getElem.1 HH.out.nd) k j hlt hj' (by omega) (by rw [HIK.out, hq', e])⟩)
            unfold rowV at hmv2 hsc
            have HST5 : Hidden (∃ Yn, CrSt w ((wr.setCell ⟨Y'.gs, i, none⟩ (.slice (some ⟨Y'.mb i, 0, none⟩) 32 (Y'.mc i))).drew) F d D Y Yn (crashS D keep torn cn (k + 1)) (k + 1)) :=
              ⟨⟨⟨Y'.gs, Y'.cs, Y'.gm, Y'.vo, fun q => if q = i then Y'.mb i else Y'.sb q, fun q => if q = i then Y'.mc i else Y'.sc q, Y'.mb, Y'.mc⟩, (by rw [hnext]; exact hmv2.below ((Below.refl _ _).drew)), hst.same, crashS_len _ _ _ _ _, (hst.kp.setCell (.inl hdev.fs) _).drewN 1⟩⟩
            have p0 : ((wr.setCell ⟨Y'.gs, i, none⟩ (.slice (some ⟨Y'.mb i, 0, none⟩) 32 (Y'.mc i))).drew).cell? ⟨d, 0, none⟩ = _ := (World.cell?_of_block (w := wr) (a := ⟨d, 0, none⟩) (Below.heap_setCell wr _ _ d hD1)).trans e0
            have p1 : ((wr.setCell ⟨Y'.gs, i, none⟩ (.slice (some ⟨Y'.mb i, 0, none⟩) 32 (Y'.mc i))).drew).cell? ⟨d, 1, none⟩ = _ := (World.cell?_of_block (w := wr) (a := ⟨d, 1, none⟩) (Below.heap_setCell wr _ _ d hD1)).trans e1
            have hfri := hfr i
            have KE0 := Hidden.mk (And.intro e0 e1)
            have KP0 := Hidden.mk (And.intro p0 p1)
            clear hmv hmv2 hkb hcb hkg hnext hse hsi hil ht hold hlook hcs hcsz hcur hdev hst hcells hlivek HST e2 e3 e4 hD1 hgsl hfr hvx hkf p0 p1
            go_wp2_with fail
            go_region_held3 (fun W => W.cell? ⟨d, 0, none⟩ = some (.slice (some ⟨Y'.gs, 0, none⟩) D.S.length Y'.cs) ∧ W.cell? ⟨d, 1, none⟩ = some (.map (some Y'.gm))) (first | exact KE0.out | exact KP0.out)
              (go_simp)
            go_wp2_with fail
            obtain ⟨Y5, hst5⟩ := HST5.out
            have HST6 := Hidden.mk hst5
            clear hst5
            go_roundg (D.O.length - (k + 1))
            case measure => omega
            case rel => exact ⟨k + 1, Y5, by omega, rfl, by go_num, HST6.out⟩
        · have i4 : (nk : Int) ≤ k := by omega
          have t4 : decide (k < nk) = false := by simp; omega
          have hkf : keep.getD k false = false := by
            have h0 : keep.length ≤ k := by rw [HN.out]; omega
            simp [h0]
          have hnext : crashS D keep torn cn (k + 1) = crashS D keep torn cn k := by
            rw [crashS, crash1, if_neg ht, hkf, hgd]
            simpa using hse
          have hst5 : CrSt w wr F d D Y Y' (crashS D keep torn cn (k + 1)) (k + 1) := ⟨by rw [hnext]; exact hdev.less (fun q ⟨j, hj, hq⟩ => ⟨j, by omega, hq⟩), hst.same, crashS_len _ _ _ _ _, hst.kp⟩
          have HST5 := Hidden.mk hst5
          clear hst5 hnext hse hsi hil ht hold hlook hcs hcsz hcur hdev hst hcells hlivek HST e0 e1 e2 e3 e4 hD1 hgsl hfr hvx hkf
          go_wp2_with fail
          go_roundg (D.O.length - (k + 1))
          case measure => omega
          case rel => exact ⟨k + 1, Y', by omega, rfl, by go_num, HST5.out⟩
    · obtain rfl : k = D.O.length := by omega
      have hdev := hst.dev
      obtain ⟨⟨e0, e1, e2, e3, e4⟩, -⟩ := five hdev.hd
      rw [hst.same.2.2.2.1, hvo] at e2
      have HD := Hidden.mk hdev
      have HK := Hidden.mk hst.kp
      clear hst hdev e0 e1 e3 e4 HST
      go_wp2_with fail
      refine (dforget_any _ F d _ Y' _ HD.out).mono ?_
      rintro e w5 ⟨rfl, hdev5, hkp5, hsz5⟩
      obtain ⟨⟨e0, e1, e2', e3, e4⟩, ff⟩ := five hdev5.hd
      have f3 := ff 3
      have f4 := ff 4
      obtain ⟨hd6, hk6, hs6⟩ := hdev5.set34 (-1) (by omega) (by omega) false
      have H6 : Hidden ((∃ Y', DevIs ((w5.setCell ⟨d, 4, none⟩ (.bool false)).setCell ⟨d, 3, none⟩ (.int .i64 (-1))) F d (crashD D keep torn cn) Y' (InO (crashD D keep torn cn))) ∧ Keep F w ((w5.setCell ⟨d, 4, none⟩ (.bool false)).setCell ⟨d, 3, none⟩ (.int .i64 (-1)))) :=
        ⟨⟨_, hd6.live_of fun q => ⟨fun h => by simp [InO, crashD] at h, fun h => h.elim⟩⟩, (HK.out.trans hkp5 (fun x hx => .inl hx)).trans hk6 (fun x hx => .inl hx)⟩
      clear hdev5 hkp5 hsz5 ff hd6 hk6 hs6 e0 e1 e2'
      go_wp2_with fail
      go_ret
      exact ⟨rfl, H6.out⟩
end Go.Proofs.YtbnobjlphmkgeaaGreatDoor
/- A device that a call has made: the contracts once more, with what they leave of the rest. -/
namespace Go.Proofs.YtbnobjlphmkgeaaGreatDoor
open Go.RowKit Go.Maps Go.ChangeMaps

/-- block d is a device that was made behind w0 -/
structure DevB (w0 w : World) (F : Nat → Prop) (d : Nat) (D : Dv) : Prop where
  dev : ∃ Y, DevIs w F d D Y (InO D)
  new : ∀ k, F k → w0.heap.size ≤ k
  bel : Below w0.heap.size w0 w
section
variable {w0 w : World} {F : Nat → Prop} {d : Nat} {D : Dv}
theorem DevB.flt (h : DevB w0 w F d D) : ∀ k, F k → k < w.heap.size := by
  obtain ⟨Y, hY⟩ := h.dev
  exact hY.flt
theorem DevB.below {w' : World} (h : DevB w0 w F d D) (hb : Below w.heap.size w w') : DevB w0 w' F d D := by
  obtain ⟨Y, hY⟩ := h.dev
  exact ⟨⟨Y, hY.below hb⟩, h.new, h.bel.trans (hb.mono h.bel.size)⟩
theorem DevB.keep {G : Nat → Prop} {w' : World} (h : DevB w0 w F d D) (hk : Keep G w w') (hG : ∀ k, F k → ¬ G k) (hn : ∀ k, G k → w0.heap.size ≤ k) : DevB w0 w' F d D := by
  obtain ⟨Y, hY⟩ := h.dev
  exact ⟨⟨Y, hY.keep hk hG⟩, h.new, h.bel.trans (hk.below h.bel.size hn)⟩
theorem DevB.lens (h : DevB w0 w F d D) : 1 ≤ D.S.length ∧ D.S.length ≤ 300 ∧ D.O.length ≤ 300 ∧ (∀ i ∈ D.O, i < D.S.length) ∧ D.O.Nodup ∧ (∀ i (hi : i < D.S.length), D.S[i].length = 32) ∧ (∀ i ∈ D.O, (D.M i).length = 32) ∧ -1 ≤ D.left := by
  obtain ⟨Y, hY⟩ := h.dev
  exact ⟨hY.n0, hY.n1, hY.ord_le, fun i hi => (hY.mlen i hi).1, hY.nd, fun i hi => (hY.row i hi).2, fun i hi => (hY.mlen i hi).2, hY.l0⟩
theorem dnewB (n : Nat) (w : World) (h1 : 1 ≤ n) (h3 : n ≤ 300) :
    Calls Tryz.prog 34 #[.int .i64 (n : Int)] w fun e w' => ∃ d F, e = .returned (.tuple #[.pointer (some ⟨d, 0, none⟩), .nilIface]) ∧ DevB w w' F d (newD n) :=
  (dnew_ok n w h1 h3).mono fun _ _ ⟨d, F, Y, he, h, hF, hb⟩ => ⟨d, F, he, ⟨Y, h⟩, hF, hb⟩
theorem DevB.down (h : DevB w0 w F d D) : Calls Tryz.prog 110 #[.pointer (some ⟨d, 0, none⟩)] w fun e w' => e = .returned (.bool D.down) ∧ w = w' := by
  obtain ⟨Y, hY⟩ := h.dev
  exact ddown_any w F d D Y _ hY
theorem DevB.len (h : DevB w0 w F d D) : Calls Tryz.prog 98 #[.pointer (some ⟨d, 0, none⟩)] w fun e w' => e = .returned (.int .i64 D.S.length) ∧ w = w' := by
  obtain ⟨Y, hY⟩ := h.dev
  exact dlen_any w F d D Y _ hY
theorem DevB.read_e9 (h : DevB w0 w F d D) (i : Nat) (hi : i < D.S.length) (hd : D.down = true) :
    Calls Tryz.prog 107 #[.pointer (some ⟨d, 0, none⟩), .int .i64 (i : Int)] w fun e w' => e = .returned (.tuple #[.slice none 0 0, .iface 111 (.int .i64 9)]) ∧ w = w' := by
  obtain ⟨Y, hY⟩ := h.dev
  exact dread_e9 i w F d D Y _ hY hi hd
theorem DevB.read (h : DevB w0 w F d D) (i : Nat) (hi : i < D.S.length) (hd : D.down = false) :
    Calls Tryz.prog 107 #[.pointer (some ⟨d, 0, none⟩), .int .i64 (i : Int)] w fun e w' => ∃ g cap, e = .returned (.tuple #[.slice (some ⟨g, 0, none⟩) 32 cap, .nilIface]) ∧ w.heap.size ≤ g ∧ Row w' 5 g cap (readD D i) ∧ (readD D i).length = 32 ∧ Below w.heap.size w w' ∧ DevB w0 w' F d D := by
  obtain ⟨Y, hY⟩ := h.dev
  exact (dread_ok i w F d D Y hY hi hd).mono fun _ _ ⟨g, cap, he, hg, hr, hl, hb⟩ => ⟨g, cap, he, hg, hr, hl, hb, h.below hb⟩
theorem DevB.write_e1 (h : DevB w0 w F d D) (i : Int) (A : Option Addr) (n c : Nat) (hi : i < 0 ∨ (D.S.length : Int) ≤ i) :
    Calls Tryz.prog 101 #[.pointer (some ⟨d, 0, none⟩), .int .i64 i, .slice A n c] w fun e w' => e = .returned (.iface 111 (.int .i64 1)) ∧ w = w' := by
  obtain ⟨Y, hY⟩ := h.dev
  exact dwrite_e1 i A n c w F d D Y _ hY hi
theorem DevB.write_e3 (h : DevB w0 w F d D) (i : Nat) (A : Option Addr) (n c : Nat) (hi : i < D.S.length) (hn : n ≠ 32) :
    Calls Tryz.prog 101 #[.pointer (some ⟨d, 0, none⟩), .int .i64 (i : Int), .slice A n c] w fun e w' => e = .returned (.iface 111 (.int .i64 3)) ∧ w = w' := by
  obtain ⟨Y, hY⟩ := h.dev
  exact dwrite_e3 i A n c w F d D Y _ hY hi hn
theorem DevB.write_e9 (h : DevB w0 w F d D) (i : Nat) (A : Option Addr) (c : Nat) (hi : i < D.S.length) (hd : D.down = true) :
    Calls Tryz.prog 101 #[.pointer (some ⟨d, 0, none⟩), .int .i64 (i : Int), .slice A 32 c] w fun e w' => e = .returned (.iface 111 (.int .i64 9)) ∧ w = w' := by
  obtain ⟨Y, hY⟩ := h.dev
  exact dwrite_e9 i A c w F d D Y _ hY hi hd
theorem DevB.write (h : DevB w0 w F d D) (i : Nat) (A : Option Addr) (c : Nat) (b : Bytes) (hi : i < D.S.length) (hd : D.down = false) (hbl : b.length = 32) (hrd : Rd w A b) (hAF : ∀ ad, A = some ad → ¬ F ad.block) :
    Calls Tryz.prog 101 #[.pointer (some ⟨d, 0, none⟩), .int .i64 (i : Int), .slice A 32 c] w fun e w' => e = .returned (powV D.left) ∧ ∃ F', DevB w0 w' F' d (stepD (putD D i b)) ∧ Keep F w w' ∧ ∀ k, F' k → F k ∨ w.heap.size ≤ k := by
  obtain ⟨Y, hY⟩ := h.dev
  refine (dwrite_ok i A c b w F d D Y hY hi hd hbl hrd hAF).mono fun _ w' ⟨he, hd', hk⟩ => ⟨he, growF F w w', ⟨hd', fun k hk' => ?_, h.bel.trans (hk.below h.bel.size h.new)⟩, hk, fun k hk' => hk'.1⟩
  have := h.bel.size
  rcases hk'.1 with h' | h'
  · exact h.new k h'
  · omega
theorem DevB.flush_dn (h : DevB w0 w F d D) (hd : D.down = true) :
    Calls Tryz.prog 102 #[.pointer (some ⟨d, 0, none⟩)] w fun e w' => e = .returned (.iface 111 (.int .i64 9)) ∧ w = w' := by
  obtain ⟨Y, hY⟩ := h.dev
  exact dflush_dn w F d D Y _ hY hd
theorem DevB.flush_lost (h : DevB w0 w F d D) (hd : D.down = false) (hl : D.left = 0) :
    Calls Tryz.prog 102 #[.pointer (some ⟨d, 0, none⟩)] w fun e w' => e = .returned (.iface 111 (.int .i64 9)) ∧ DevB w0 w' F d (stepD D) ∧ Keep F w w' := by
  obtain ⟨Y, hY⟩ := h.dev
  exact (dflush_lost w F d D Y _ hY hd hl).mono fun _ _ ⟨he, hd', hk⟩ => ⟨he, ⟨⟨Y, hd'⟩, h.new, h.bel.trans (hk.below h.bel.size h.new)⟩, hk⟩
theorem DevB.flush (h : DevB w0 w F d D) (hd : D.down = false) (hl : D.left ≠ 0) :
    Calls Tryz.prog 102 #[.pointer (some ⟨d, 0, none⟩)] w fun e w' => e = .returned .nilIface ∧ DevB w0 w' F d (flushD (stepD D)) ∧ Keep F w w' := by
  obtain ⟨Y, hY⟩ := h.dev
  exact (dflush_ok w F d D Y hY hd hl).mono fun _ _ ⟨he, hd', hk⟩ => ⟨he, ⟨hd', h.new, h.bel.trans (hk.below h.bel.size h.new)⟩, hk⟩
theorem DevB.crash (h : DevB w0 w F d D) (A : Option Addr) (nk ck : Nat) (keep : List Bool) (torn cut : Int) (hn : keep.length = nk) (hrd : RdB w A keep) (hA : 0 < nk → ∀ ad, A = some ad → ¬ F ad.block) :
    Calls Tryz.prog 97 #[.pointer (some ⟨d, 0, none⟩), .slice A nk ck, .int .i64 torn, .int .i64 cut] w fun e w' => e = .returned (.int .i64 D.O.length) ∧ DevB w0 w' F d (crashD D keep torn (min 32 (max 0 cut)).toNat) ∧ Keep F w w' := by
  obtain ⟨Y, hY⟩ := h.dev
  exact (dcrash_any A nk ck keep torn cut w F d D Y hY hn hrd hA).mono fun _ _ ⟨he, hd', hk⟩ => ⟨he, ⟨hd', h.new, h.bel.trans (hk.below h.bel.size h.new)⟩, hk⟩
end
end Go.Proofs.YtbnobjlphmkgeaaGreatDoor
/- What comes in: arguments opened to the words of the text Base. No program in sight. -/
namespace Go.Proofs.YtbnobjlphmkgeaaGreatDoor
open Go.RowKit Go.ChangeShapes Go.WideShapes Go.ChangeAt
open Go.ChangeMaps (open_string shut_string)

section
variable {H : Type} {enc : TypeId × Value → H} {P : Program} {w : World}
theorem wf_u8 {n : Int} (h : (Lit.int .u8 n).wf = true) : 0 ≤ n ∧ n ≤ 255 := by
  simpa [Lit.wf, IntKind.min, IntKind.max, IntKind.bits, IntKind.signed] using h
theorem wf_i64' {n : Int} (h : (Lit.int .i64 n).wf = true) : -9223372036854775808 ≤ n ∧ n ≤ 9223372036854775807 := by
  simpa [Lit.wf, IntKind.min, IntKind.max, IntKind.bits, IntKind.signed] using h

def toBytes (zs : List Int) : Bytes := zs.map fun z => UInt8.ofNat z.toNat
theorem toBytes_at {zs : List Int} (hz : ∀ n ∈ zs, (Lit.int .u8 n).wf = true) (j : Nat) (hj : j < zs.length) : .int .u8 (zs.getD j 0) = bv ((toBytes zs)[j]'(by simpa [toBytes] using hj)) := by
  have h1 : zs.getD j 0 = zs[j] := by simp [hj]
  have h2 := wf_u8 (hz _ (List.getElem_mem hj))
  have h3 : (zs[j].toNat % 256 : Nat) = zs[j].toNat := Nat.mod_eq_of_lt (by omega)
  rw [h1]
  simp only [toBytes, List.getElem_map, bv]
  congr 1
  rw [UInt8.toNat_ofNat', show 2 ^ 8 = 256 from rfl, h3]
  omega

end
end Go.Proofs.YtbnobjlphmkgeaaGreatDoor
/- What comes in: slices of structs, of booleans. No program in sight. -/
namespace Go.Proofs.YtbnobjlphmkgeaaGreatDoor
open Go.RowKit Go.ChangeShapes Go.WideShapes Go.ChangeAt

/-- the slice at A has these elements, C cells each -/
def RdX {X : Type} (cells : X → List Value) (C : Nat) (w : World) (A : Option Addr) (L : List X) : Prop :=
  ∀ i (h : i < L.length), ∃ b off, A = some ⟨b, off, none⟩ ∧ ∀ q u, (cells L[i])[q]? = some u → w.cell? ⟨b, off + i * C + q, none⟩ = some u
section
variable {X : Type} {cells : X → List Value} {C : Nat} {w w' : World} {A : Option Addr} {L : List X}
theorem RdX.block (h : RdX cells C w A L) (hb : ∀ ad, A = some ad → ad.block < w.heap.size → w'.heap[ad.block]? = w.heap[ad.block]?) : RdX cells C w' A L := fun i hi => by
  obtain ⟨b, off, hA, hc⟩ := h i hi
  exact ⟨b, off, hA, fun q u hq => (World.cell?_of_block (w := w) (a := ⟨b, off + i * C + q, none⟩) (hb ⟨b, off, none⟩ hA (show b < w.heap.size from block_lt_of_cell (hc q u hq)))).trans (hc q u hq)⟩
theorem RdX.below (h : RdX cells C w A L) (hb : Below w.heap.size w w') : RdX cells C w' A L := h.block fun _ _ hlt => hb.block _ hlt
end
section
variable {H : Type} {enc : TypeId × Value → H} {P : Program} {w : World}
theorem weights_all {e : TypeId} : ∀ (l : List (DataW H)) (n : Nat), (DataW.weightsAll P e l).all (· ≤ n) = true → ∀ d ∈ l, (d.weights P e).all (· ≤ n) = true
  | [], _, _, d, hd => by simp at hd
  | x :: r, n, h, d, hd => by
    rw [DataW.weightsAll, List.all_append, Bool.and_eq_true] at h
    rcases List.mem_cons.1 hd with rfl | hd
    · exact h.1
    · exact weights_all r n h.2 d hd
theorem open_seq {X : Type} [Inhabited X] (cells : X → List Value) (C : Nat) (ok : World → X → Prop) {t e : TypeId} {v : Value} {d : DataW H} {ps : List MemPlace} {base : Nat} {r : Reach} (ht : P.underlying t = some (.slice e)) (hC : P.cellsOf e = C) (hC0 : 0 < C) (hb : 1 ≤ P.bytesOf e)
    (hel : ∀ n cs x, cs.length = C → DataW.trod enc P w 0 (fun _ => true) true n e cs = some x → (x.1.weights P e).all (· ≤ reachBytes) = true → ∃ y : X, cs = cells y ∧ ok w y)
    (hv : Value.okWide P w r base t v) (h : DataW.Trod enc P w 0 (fun _ => true) true t v d ps) (hz : (d.weights P t).all (· ≤ reachBytes) = true) :
    ∃ (A : Option Addr) (c : Nat) (L : List X), v = .slice A L.length c ∧ L.length ≤ c ∧ c ≤ 140737488351232 ∧ (∀ x ∈ L, ok w x) ∧ RdX cells C w A L := by
  obtain ⟨a0, len0, cap0, rfl⟩ := okWide_slice ht hv
  obtain ⟨fuel, hf⟩ := h
  rcases Go.Deep.open_slice ht hf with ⟨hcs, _⟩ | ⟨a, len, cap, m, n, D, Pl, hcs, _, hl, hm, hmm, hx, hi⟩
  · simp [Value.cells] at hcs
    obtain ⟨rfl, rfl, rfl⟩ := hcs
    exact ⟨none, 0, [], rfl, by simp, by omega, fun x hx => by simp at hx, fun i hi => by simp at hi⟩
  · simp [Value.cells] at hcs
    obtain ⟨rfl, rfl, rfl⟩ := hcs
    simp only [if_true] at hmm
    subst hmm
    simp only [Prod.mk.injEq] at hx
    obtain ⟨rfl, rfl⟩ := hx
    rw [DataW.weights, ht] at hz
    simp only [List.all_cons, List.all_append, Bool.and_eq_true, decide_eq_true_eq, List.length_map, List.length_range] at hz
    have hreach : m ≤ 140737488351232 := by
      have h3 : reachBytes = 140737488351232 := by decide
      have h4 := hz.1
      rw [h3] at h4
      have h5 : (len0 + (m - len0)) * 1 ≤ (len0 + (m - len0)) * P.bytesOf e := Nat.mul_le_mul_left _ hb
      omega
    have hex : ∀ i, i < len0 → ∃ y : X, ok w y ∧ w.cells? 0 (a.add (i * C)) C = some (cells y) := fun i hil => by
      obtain ⟨cs', h1, h2⟩ := hi i (by omega)
      obtain ⟨y, hy, hok⟩ := hel n cs' _ (by rw [← hC]; exact (World.cells?_some h1).2.1) h2 (weights_all _ _ hz.2.1 _ (List.mem_map.2 ⟨i, List.mem_range.2 hil, rfl⟩))
      refine ⟨y, hok, ?_⟩
      rw [← hy, ← hC]; exact h1
    obtain ⟨Y, hY⟩ := Go.Deep.choose_lt (α := X) (p := fun i y => ok w y ∧ w.cells? 0 (a.add (i * C)) C = some (cells y)) hex
    have hlen : ((List.range len0).map Y).length = len0 := by simp
    refine ⟨some a, m, (List.range len0).map Y, by rw [hlen], by rw [hlen]; exact hl, hreach, fun x hx => ?_, fun i hil => ?_⟩
    · obtain ⟨i, hi', rfl⟩ := List.mem_map.1 hx
      exact (hY i (List.mem_range.1 hi')).1
    · rw [hlen] at hil
      obtain ⟨_, h2⟩ := hY i hil
      obtain ⟨_, hcl, hat⟩ := World.cells?_some h2
      have hYi : ((List.range len0).map Y)[i]'(by rw [hlen]; exact hil) = Y i := by simp
      rw [hYi]
      obtain ⟨b, off, spot⟩ := a
      have hcell : ∀ q u, (cells (Y i))[q]? = some u → w.cell? ((⟨b, off, spot⟩ : Addr).add (i * C + q)) = some u := fun q u hq => by
        have hql : q < C := by have := (List.getElem?_eq_some_iff.1 hq).1; omega
        rw [← Go.Deep.add_add, hat q hql, hq]
      have hs : spot = none := by
        obtain ⟨_, h20⟩ := hY 0 (by omega)
        obtain ⟨_, hcl0, hat0⟩ := World.cells?_some h20
        have h0 := hat0 0 hC0
        rw [List.getElem?_eq_getElem (by omega), Nat.zero_mul] at h0
        simpa [Addr.add] using World.cell?_spot h0
      subst hs
      refine ⟨b, off, rfl, fun q u hq => ?_⟩
      have := hcell q u hq
      rw [Addr.add_lit, ← Nat.add_assoc] at this
      exact this
/-- a page: its number, its bytes -/
structure PgX where
  num : Int
  A : Option Addr
  cap : Nat
  body : Bytes
  deriving Inhabited
def pcells (x : PgX) : List Value := [.int .i64 x.num, .slice x.A x.body.length x.cap]
structure PgOk (w : World) (x : PgX) : Prop where
  lo : -9223372036854775808 ≤ x.num
  hi : x.num ≤ 9223372036854775807
  cap : x.body.length ≤ x.cap
  le : x.cap ≤ 140737488351232
  rd : Rd w x.A x.body
/-- bytes within something else -/
theorem open_bytes_in {t e : TypeId} {v : Value} {y : DataW H × List MemPlace} {n : Nat} (ht : P.underlying t = some (.slice e)) (he : P.underlying e = some (.int .u8)) (hc : P.cellsOf e = 1) (hb : P.bytesOf e = 1)
    (h : DataW.trod enc P w 0 (fun _ => true) true n t [v] = some y) (hz : (y.1.weights P t).all (· ≤ reachBytes) = true) :
    ∃ (A : Option Addr) (c : Nat) (l : Bytes), v = .slice A l.length c ∧ l.length ≤ c ∧ c ≤ 140737488351232 ∧ Rd w A l := by
  rcases open_ints ht he hc h with ⟨hcs, _⟩ | ⟨x, l, c, zs, hcs, _, hl, hm, hlen, hx, hcell, hwz⟩
  · simp at hcs
    exact ⟨none, 0, [], by simpa using hcs, by simp, by omega, Rd.nil_⟩
  · simp at hcs
    subst hcs
    have hd := congrArg Prod.fst hx
    simp only at hd
    rw [hd] at hz
    have hlen' : zs.length = c := by simpa using hlen
    have hreach : c ≤ 140737488351232 := by
      have := List.all_eq_true.1 hz ((zs.take l).length * 1 + (zs.drop l).length * 1) (by
        simp [DataW.weights, ht, hb, lits, Nat.mul_one, hlen'])
      have h2 := of_decide_eq_true this
      simp [hlen'] at h2
      have h3 : reachBytes = 140737488351232 := by decide
      omega
    refine ⟨some x, c, (toBytes zs).take l, ?_, ?_, hreach, ?_⟩
    · simp [toBytes]; omega
    · simp [toBytes]; omega
    · intro j hj
      have hj' : j < l := by simp [toBytes] at hj; omega
      have hc0 := hcell j (by omega)
      obtain ⟨b, off, spot⟩ := x
      have hs : spot = none := by
        have hc1 := hcell 0 (by omega)
        simpa [Addr.add] using World.cell?_spot hc1
      subst hs
      refine ⟨b, off, rfl, ?_⟩
      rw [Addr.add_lit] at hc0
      rw [hc0, toBytes_at hwz j (by omega)]
      simp
/-- two fields of one cell each -/
theorem open_two {e : TypeId} {f0 f1 : Field} {n : Nat} {cs : List Value} {x : DataW H × List MemPlace} (hs : P.underlying e = some (.struct #[f0, f1])) (o0 : f0.offset = 0 ∧ P.cellsOf f0.type = 1) (o1 : f1.offset = 1 ∧ P.cellsOf f1.type = 1) (hl : cs.length = 2)
    (h : DataW.trod enc P w 0 (fun _ => true) true n e cs = some x) (hz : (x.1.weights P e).all (· ≤ reachBytes) = true) :
    ∃ v0 v1 y0 y1 m, cs = [v0, v1] ∧ DataW.trod enc P w 0 (fun _ => true) true m f0.type [v0] = some y0 ∧ DataW.trod enc P w 0 (fun _ => true) true m f1.type [v1] = some y1 ∧ (y0.1.weights P f0.type).all (· ≤ reachBytes) = true ∧ (y1.1.weights P f1.type).all (· ≤ reachBytes) = true := by
  match cs, hl with
  | [c0, c1], _ =>
    obtain ⟨xs, m, _, hx, _, hlen, hg⟩ := DataW.trod_struct hs h
    match xs, hlen with
    | [y0, y1], _ =>
      have t0 : DataW.trod enc P w 0 (fun _ => true) true m f0.type [c0] = some y0 := by simpa [o0.1, o0.2] using hg 0 f0 rfl
      have t1 : DataW.trod enc P w 0 (fun _ => true) true m f1.type [c1] = some y1 := by simpa [o1.1, o1.2] using hg 1 f1 rfl
      rw [hx] at hz
      simp [DataW.weights, hs, DataW.weightsEach, List.all_append] at hz
      exact ⟨c0, c1, y0, y1, m, rfl, t0, t1, by simpa using hz.1, by simpa using hz.2⟩
end
end Go.Proofs.YtbnobjlphmkgeaaGreatDoor
/- A device under whatever writes: the plain words, and Write of whatever page. -/
namespace Go.Proofs.YtbnobjlphmkgeaaGreatDoor
open Go.RowKit Go.Maps Go.ChangeMaps

/-- the power is there, and stays -/
def Up (D : Dv) : Prop := D.left = -1 ∧ D.down = false
theorem up_flush {D : Dv} (h : Up D) : Up (flushD (stepD D)) ∧ (flushD (stepD D)).O = [] ∧ (flushD (stepD D)).S.length = D.S.length := by
  refine ⟨⟨?_, ?_⟩, rfl, by simp [flushD, stepD]⟩
  · show max (-1) (D.left - 1) = -1
    rw [h.1]; decide
  · show (D.left == 0) = false
    rw [h.1]; decide
section
variable {w0 w : World} {F : Nat → Prop} {d : Nat} {D : Dv}
theorem DevB.base {w1 : World} (h : DevB w1 w F d D) (hb : Below w0.heap.size w0 w1) : DevB w0 w F d D :=
  ⟨h.dev, fun k hk => Nat.le_trans hb.size (h.new k hk), hb.trans (h.bel.mono hb.size)⟩
end
theorem crashS_after (D : Dv) (keep : List Bool) (torn : Int) (c : Nat) (hn : D.O.Nodup) (a : Nat) (ha : a < D.O.length) (hin : D.O[a] < D.S.length) : ∀ k, a < k → k ≤ D.O.length → (crashS D keep torn c k)[D.O[a]]? = some (crash1 D keep torn c a)
  | 0, h, _ => by omega
  | k + 1, h, hk => by
    have hkl : k < D.O.length := by omega
    have hg : D.O.getD k 0 = D.O[k] := by simp [hkl]
    rw [crashS, hg]
    by_cases hka : k = a
    · subst hka
      rw [List.getElem?_set_self (by rw [crashS_len]; exact hin)]
    · rw [List.getElem?_set_ne, crashS_after D keep torn c hn a ha hin k (by omega) (by omega)]
      intro e
      rcases Nat.lt_or_gt_of_ne hka with h1 | h1
      · exact (List.pairwise_iff_getElem.1 hn) k a hkl ha h1 e
      · exact (List.pairwise_iff_getElem.1 hn) a k ha hkl h1 e.symm
/-- what is read behind a crash -/
theorem crash_read (D : Dv) (keep : List Bool) (torn : Int) (c i : Nat) (hn : D.O.Nodup) (hO : ∀ i ∈ D.O, i < D.S.length) :
    (i ∉ D.O → readD (crashD D keep torn c) i = D.S.getD i []) ∧ ∀ a, a < D.O.length → D.O[a]? = some i → readD (crashD D keep torn c) i = crash1 D keep torn c a := by
  have hr : readD (crashD D keep torn c) i = (crashS D keep torn c D.O.length).getD i [] := by unfold readD; rw [if_neg (by simp [crashD])]; rfl
  rw [hr]
  refine ⟨fun hi => ?_, fun a ha hai => ?_⟩
  · rw [List.getD_eq_getElem?_getD, crashS_old D keep torn c i D.O.length (fun j hj e => hi (by rw [← e]; simp [hj])), ← List.getD_eq_getElem?_getD]
  · obtain ⟨_, hai⟩ := List.getElem?_eq_some_iff.1 hai
    subst hai
    rw [List.getD_eq_getElem?_getD, crashS_after D keep torn c hn a ha (hO _ (List.getElem_mem ha)) D.O.length ha (Nat.le_refl _)]
    rfl
def pgs (L : List PgX) : List (Int × Bytes) := L.map fun x => (x.num, x.body)
theorem pgs_take (L : List PgX) (j : Nat) (hj : j < L.length) : (pgs L).take (j + 1) = (pgs L).take j ++ [(L[j].num, L[j].body)] := by
  have hl : j < (pgs L).length := by simpa [pgs] using hj
  rw [List.take_succ_eq_append_getElem hl]
  simp [pgs]
end Go.Proofs.YtbnobjlphmkgeaaGreatDoor
/- A byte stored into a row; the bytes of a number one by one. -/
namespace Go.Proofs.YtbnobjlphmkgeaaGreatDoor
open Go.RowKit

theorem Row.store {w : World} {e g cap : Nat} {l : Bytes} (h : Row w e g cap l) (p : Nat) (_hp : p < l.length) (x : UInt8) :
    Row (w.setCell ⟨g, p, none⟩ (bv x)) e g cap (l.set p x) := by
  obtain ⟨cur, hg, h1, h2, h3, h4⟩ := h
  rw [setCell_eq_setRow w g p cur e _ _ hg]
  refine ⟨_, setRow_heap w g cur _ e _ hg, by simpa using h1, h2, by simpa using h3, ?_⟩
  rw [Array.toList_setIfInBounds, List.length_set, List.take_set, h4, List.map_set]
theorem Row.frozen {w : World} {e g cap : Nat} {l : Bytes} (h : Row w e g cap l) (p : Nat) : w.frozen? ⟨g, p, none⟩ = false := by
  obtain ⟨cur, hg, _⟩ := h
  exact frozen_of_row w g p cur e hg
theorem splice_rd (l x : Bytes) (o p : Nat) (h : o + x.length ≤ l.length) : (splice l o x)[p]? = if o ≤ p ∧ p < o + x.length then x[p - o]? else l[p]? := by
  unfold splice
  have hl : (l.take o).length = o := by simp; omega
  by_cases h1 : p < o
  · rw [if_neg (by omega), List.getElem?_append_left (by omega), List.getElem?_take, if_pos h1]
  · rw [List.getElem?_append_right (by omega), hl]
    by_cases h2 : p < o + x.length
    · rw [if_pos (by omega), List.getElem?_append_left (by omega)]
    · rw [if_neg (by omega), List.getElem?_append_right (by omega), List.getElem?_drop]
      congr 1; omega
theorem ofB_inj : ∀ (a b : Bytes), a.length = b.length → ofB a = ofB b → a = b
  | [], [], _, _ => rfl
  | [], _ :: _, h, _ => by simp at h
  | _ :: _, [], h, _ => by simp at h
  | x :: a, y :: b, h, he => by
    simp only [ofB] at he
    have hx := u8_lt x
    have hy := u8_lt y
    have h1 : x.toNat = y.toNat := by omega
    rw [UInt8.toNat_inj.1 h1, ofB_inj a b (by simpa using h) (by omega)]
end Go.Proofs.YtbnobjlphmkgeaaGreatDoor
/- The contract of num.Same. -/
namespace Go.Proofs.YtbnobjlphmkgeaaGreatDoor
open Go.RowKit

end Go.Proofs.YtbnobjlphmkgeaaGreatDoor
/- Contracts over strings and bytes: slices.IndexFunc and ContainsFunc at whatever pure predicate. -/
namespace Go.Proofs.YtbnobjlphmkgeaaGreatDoor
open Go.RowKit

/-- function F answers as p, of whatever byte, and leaves the world alone -/
def Pred (F : FuncId) (p : UInt8 → Bool) : Prop := ∀ (x : UInt8) (w : World), Calls Tryz.prog F #[bv x] w fun e w' => e = .returned (.bool (p x)) ∧ w = w'

def idxP (p : UInt8 → Bool) (l : Bytes) : Int := match l.findIdx? p with | some k => k | none => -1
theorem idxP_at (p : UInt8 → Bool) (l : Bytes) (k : Nat) (hk : k < l.length) (hn : ∀ x ∈ l.take k, p x = false) (he : p l[k] = true) : idxP p l = k := by
  have : l.findIdx? p = some k := by
    rw [List.findIdx?_eq_some_iff_getElem]
    refine ⟨hk, he, fun j hj => ?_⟩
    have := hn l[j] (by rw [List.mem_take_iff_getElem]; exact ⟨j, by omega, rfl⟩)
    simpa using this
  unfold idxP; rw [this]
theorem idxP_none (p : UInt8 → Bool) (l : Bytes) (hn : ∀ x ∈ l, p x = false) : idxP p l = -1 := by
  have : l.findIdx? p = none := by rw [List.findIdx?_eq_none_iff]; exact hn
  unfold idxP; rw [this]
theorem idxP_any (p : UInt8 → Bool) (l : Bytes) : decide (0 ≤ idxP p l) = l.any p := by
  unfold idxP
  cases h : l.findIdx? p with
  | none =>
    rw [List.findIdx?_eq_none_iff] at h
    simp only [Int.reduceNeg, Int.reduceLE, decide_false]
    symm
    simpa using h
  | some k =>
    rw [List.findIdx?_eq_some_iff_getElem] at h
    obtain ⟨hk, he, _⟩ := h
    have : l.any p = true := List.any_eq_true.2 ⟨l[k], List.getElem_mem hk, he⟩
    rw [this]
    simp
theorem forall_take_succ {p : UInt8 → Bool} {l : Bytes} {k : Nat} (hk : k < l.length) (hn : ∀ x ∈ l.take k, p x = false) (he : p l[k] = false) : ∀ x ∈ l.take (k + 1), p x = false := by
  rw [List.take_succ_eq_append_getElem hk]
  intro x hx
  rw [List.mem_append, List.mem_singleton] at hx
  rcases hx with hx | rfl
  · exact hn x hx
  · exact he

theorem ret_bool {a b : Bool} (h : a = b) : Ending.returned (.bool a) = .returned (.bool b) := by rw [h]
def notLower (c : UInt8) : Bool := decide (c.toNat < 97) || decide (122 < c.toNat)
def nonZero (c : UInt8) : Bool := c != 0
theorem pred_name : Pred 192 notLower := by
  intro x w
  by_cases h : x.toNat < 97
  · go_enter Tryz.func192, Tryz.ntmps192
    go_wp2
    go_ret
    exact ⟨ret_bool (by simp [notLower, h]), rfl⟩
  · go_enter Tryz.func192, Tryz.ntmps192
    go_wp2
    go_ret
    exact ⟨ret_bool (by unfold notLower; congr 1 <;> (rw [decide_eq_decide]; omega)), rfl⟩
theorem bv_bne (x : UInt8) : ((x.toNat : Int) != 0) = nonZero x := by
  unfold nonZero
  have := bv_beq x 0
  simp only [bne, ← this]; rfl
theorem pred_zero : Pred 195 nonZero := by
  intro x w
  have hb := Hidden.mk (bv_bne x)
  go_enter Tryz.func195, Tryz.ntmps195
  go_wp2
  go_ret
  exact ⟨ret_bool hb.out, rfl⟩
theorem idxf_name (A : Option Addr) (n c : Nat) (l : Bytes) (w : World) (hn : l.length = n) (hl : n ≤ maxLen) (hr : Rd w A l) :
    Calls Tryz.prog 220 #[.slice A n c, .func (.func 192) #[] #[]] w fun e w' => e = .returned (.int .i64 (idxP notLower l)) ∧ w = w' := by
  subst hn
  unfold maxLen at hl
  have HP := Hidden.mk pred_name
  generalize notLower = p at HP ⊢
  go_enter Tryz.func220, Tryz.ntmps220
  go_wp2
  go_loopw [8] (fun i wr => w = wr ∧ ∃ k : Nat, k ≤ l.length ∧ i = .int .i64 k ∧ Hidden (∀ x ∈ l.take k, p x = false)) (fun i _ => l.length - (intOf i).toNat)
  case atStart => exact ⟨rfl, 0, Nat.zero_le _, rfl, ⟨by simp⟩⟩
  case round =>
    obtain ⟨rfl, k, hk, rfl, hnot⟩ := hrel
    by_cases hlt : k < l.length
    · obtain ⟨b, off, rfl, hc⟩ := hr k hlt
      go_wp2_with fail
      refine (HP.out _ _).mono ?_
      rintro e w1 ⟨rfl, rfl⟩
      cases he : p l[k] with
      | true =>
        have hi : Hidden (idxP p l = k) := ⟨idxP_at p l k hlt hnot.out he⟩
        clear he
        go_wp2
        go_ret
        exact ⟨ret_i64 hi.out.symm, rfl⟩
      | false =>
        have hnk : Hidden (∀ x ∈ l.take (k + 1), p x = false) := ⟨forall_take_succ hlt hnot.out he⟩
        clear he hnot
        go_wp2
        go_roundw
        case rel => exact ⟨by trivial, k + 1, by omega, by go_num, hnk⟩
        case measure => simp [intOf]; omega
    · have hi : Hidden (idxP p l = -1) := ⟨idxP_none p l (by have := hnot.out; rwa [List.take_of_length_le (by omega)] at this)⟩
      go_wp2
      go_ret
      exact ⟨ret_i64 hi.out.symm, rfl⟩
theorem containsf_name (A : Option Addr) (n c : Nat) (l : Bytes) (w : World) (hn : l.length = n) (hl : n ≤ maxLen) (hr : Rd w A l) :
    Calls Tryz.prog 191 #[.slice A n c, .func (.func 192) #[] #[]] w fun e w' => e = .returned (.bool (l.any notLower)) ∧ w = w' := by
  have hv := Hidden.mk (idxP_any notLower l)
  go_enter Tryz.func191, Tryz.ntmps191
  go_wp2_with fail
  refine (idxf_name A n c l _ hn hl hr).mono ?_
  rintro e w1 ⟨rfl, rfl⟩
  go_wp2
  go_ret
  exact ⟨congrArg (fun b => Ending.returned (.bool b)) hv.out, rfl⟩
theorem idxf_zero (A : Option Addr) (n c : Nat) (l : Bytes) (w : World) (hn : l.length = n) (hl : n ≤ maxLen) (hr : Rd w A l) :
    Calls Tryz.prog 220 #[.slice A n c, .func (.func 195) #[] #[]] w fun e w' => e = .returned (.int .i64 (idxP nonZero l)) ∧ w = w' := by
  subst hn
  unfold maxLen at hl
  have HP := Hidden.mk pred_zero
  generalize nonZero = p at HP ⊢
  go_enter Tryz.func220, Tryz.ntmps220
  go_wp2
  go_loopw [8] (fun i wr => w = wr ∧ ∃ k : Nat, k ≤ l.length ∧ i = .int .i64 k ∧ Hidden (∀ x ∈ l.take k, p x = false)) (fun i _ => l.length - (intOf i).toNat)
  case atStart => exact ⟨rfl, 0, Nat.zero_le _, rfl, ⟨by simp⟩⟩
  case round =>
    obtain ⟨rfl, k, hk, rfl, hnot⟩ := hrel
    by_cases hlt : k < l.length
    · obtain ⟨b, off, rfl, hc⟩ := hr k hlt
      go_wp2_with fail
      refine (HP.out _ _).mono ?_
      rintro e w1 ⟨rfl, rfl⟩
      cases he : p l[k] with
      | true =>
        have hi : Hidden (idxP p l = k) := ⟨idxP_at p l k hlt hnot.out he⟩
        clear he
        go_wp2
        go_ret
        exact ⟨ret_i64 hi.out.symm, rfl⟩
      | false =>
        have hnk : Hidden (∀ x ∈ l.take (k + 1), p x = false) := ⟨forall_take_succ hlt hnot.out he⟩
        clear he hnot
        go_wp2
        go_roundw
        case rel => exact ⟨by trivial, k + 1, by omega, by go_num, hnk⟩
        case measure => simp [intOf]; omega
    · have hi : Hidden (idxP p l = -1) := ⟨idxP_none p l (by have := hnot.out; rwa [List.take_of_length_le (by omega)] at this)⟩
      go_wp2
      go_ret
      exact ⟨ret_i64 hi.out.symm, rfl⟩
theorem containsf_zero (A : Option Addr) (n c : Nat) (l : Bytes) (w : World) (hn : l.length = n) (hl : n ≤ maxLen) (hr : Rd w A l) :
    Calls Tryz.prog 191 #[.slice A n c, .func (.func 195) #[] #[]] w fun e w' => e = .returned (.bool (l.any nonZero)) ∧ w = w' := by
  have hv := Hidden.mk (idxP_any nonZero l)
  go_enter Tryz.func191, Tryz.ntmps191
  go_wp2_with fail
  refine (idxf_zero A n c l _ hn hl hr).mono ?_
  rintro e w1 ⟨rfl, rfl⟩
  go_wp2
  go_ret
  exact ⟨congrArg (fun b => Ending.returned (.bool b)) hv.out, rfl⟩
end Go.Proofs.YtbnobjlphmkgeaaGreatDoor
/- The contracts of num.name, PutName, GetName. -/
namespace Go.Proofs.YtbnobjlphmkgeaaGreatDoor
open Go.RowKit

def isName (l : Bytes) : Bool := !l.isEmpty && decide (l.length ≤ 8) && !l.any notLower

/-- a text as bytes: a new block -/
theorem conv_bytes (w : World) (l : Bytes) : ∃ cap W', (convert 9 22 (sv l)).run Tryz.prog w = .ok (.slice (some ⟨w.heap.size, 0, none⟩) l.length cap) W' ∧
    l.length ≤ cap ∧ Rd W' (some ⟨w.heap.size, 0, none⟩) l ∧ Below w.heap.size w W' := by
  refine ⟨_, _, Lib.run_convert_string_bytes w 9 22 5 ⟨l.toArray⟩ Tryz.underlying9 Tryz.underlying22 Tryz.underlying5, ?_, ?_, ?_⟩
  · exact grownCap_ge _ _ _ _
  · intro j hj
    refine ⟨_, 0, rfl, ?_⟩
    rw [Nat.zero_add, Lib.bytesWorld_cell w 5 ⟨l.toArray⟩ j hj]
    simp [hj]
  · exact ⟨rfl, rfl, rfl, by rw [Lib.bytesWorld_size]; omega, fun k hk => Lib.bytesWorld_at_old w _ ⟨l.toArray⟩ k hk⟩

set_option maxRecDepth 100000 in
theorem name_any (l : Bytes) (w : World) (hs : l.length ≤ 140737488351232) :
    Calls Tryz.prog 150 #[sv l] w fun e w' => e = .returned (.bool (isName l)) ∧ Below w.heap.size w w' := by
  by_cases h0 : l = []
  · subst h0
    go_enter Tryz.func150, Tryz.ntmps150
    go_wp2
    go_ret
    exact ⟨rfl, Below.refl _ _⟩
  · have h0' : l.isEmpty = false := by
      cases l with
      | nil => exact absurd rfl h0
      | cons a b => rfl
    clear h0
    by_cases h8 : (l.length : Int) ≤ 8
    · obtain ⟨cap, W1, hrun, hcap, hrd, hbel⟩ := conv_bytes w l
      have hv : Hidden ((!l.any notLower) = isName l) := ⟨by simp [isName, h0']; intros; omega⟩
      go_enter Tryz.func150, Tryz.ntmps150
      go_wp2_with fail
      refine (containsf_name _ _ _ l _ rfl (by simp only [maxLen]; omega) hrd).mono ?_
      rintro e w1 ⟨rfl, rfl⟩
      go_wp2
      go_ret
      exact ⟨ret_bool hv.out, hbel⟩
    · have hv : Hidden (false = isName l) := ⟨by simp [isName, h0']; intros; omega⟩
      go_enter Tryz.func150, Tryz.ntmps150
      go_wp2
      go_ret
      exact ⟨ret_bool hv.out, Below.refl _ _⟩

theorem splice_zeros (n : Nat) (l : Bytes) : splice (List.replicate n 0) 0 l = l ++ List.replicate (n - l.length) 0 := by
  simp only [splice, List.take_zero, List.nil_append, Nat.zero_add, List.drop_replicate]
/-- the bytes of a name: zeros behind it -/
def nameB (l : Bytes) : Bytes := l ++ List.replicate (8 - l.length) 0

theorem putName_no (l : Bytes) (w : World) (hs : l.length ≤ 140737488351232) (hn : isName l = false) :
    Calls Tryz.prog 82 #[sv l] w fun e w' => e = .returned (.tuple #[.slice none 0 0, .iface 111 (.int .i64 2)]) ∧ Below w.heap.size w w' := by
  go_enter Tryz.func82, Tryz.ntmps82
  go_wp2_with fail
  refine (name_any l _ hs).mono ?_
  rintro e w1 ⟨rfl, hb⟩
  rw [hn]
  go_wp2
  go_ret2
  exact ⟨rfl, hb⟩
set_option maxRecDepth 100000 in
theorem putName_ok (l : Bytes) (w : World) (hn : isName l = true) :
    Calls Tryz.prog 82 #[sv l] w fun e w' => ∃ g, e = .returned (.tuple #[.slice (some ⟨g, 0, none⟩) 8 8, .nilIface]) ∧ w.heap.size ≤ g ∧ Row w' 5 g 8 (nameB l) ∧ Below w.heap.size w w' := by
  have h8 : l.length ≤ 8 := by simp [isName] at hn; omega
  go_enter Tryz.func82, Tryz.ntmps82
  go_wp2_with fail
  refine (name_any l _ (by omega)).mono ?_
  rintro e w1 ⟨rfl, hb⟩
  rw [hn]
  have hmk := mk_bytes 8 8 rfl (by omega) w1
  have hz := row_zeros w1 8 (by simp [maxLen])
  have hblk : (w1.alloc (.cells (zeroRow 8) 5)).heap[w1.heap.size]? = some (.cells (zeroRow 8) 5 (0, 0)) := heap_alloc_new w1 _
  have hcopy := fun ty => run_copy_text (w1.alloc (.cells (zeroRow 8) 5)) w1.heap.size 0 8 8 l.length l (zeroRow 8) 5 hblk (Nat.min_eq_left h8).symm (by rw [zeroRow_size]; omega) ty
  have hres := hz.set_ 0 l (by simp; omega) _ hblk
  have hBB : Below w.heap.size w ((w1.alloc (.cells (zeroRow 8) 5)).setRow w1.heap.size (setB (zeroRow 8) 0 (l.map bv))) := below_setRow (hb.alloc hb.size _) hb.size _
  rw [List.take_of_length_le (Nat.le_refl _)] at hcopy
  generalize (w1.alloc (.cells (zeroRow 8) 5)).setRow w1.heap.size (setB (zeroRow 8) 0 (l.map bv)) = W2 at hcopy hres hBB
  clear hz hblk
  go_wp2_with fail
  go_ret2
  refine ⟨_, rfl, hb.size, ?_, hBB⟩
  rw [splice_zeros] at hres
  exact hres
end Go.Proofs.YtbnobjlphmkgeaaGreatDoor
/- The contract of num.GetName. -/
namespace Go.Proofs.YtbnobjlphmkgeaaGreatDoor
open Go.RowKit

/-- bytes as a text -/
theorem conv_text (w : World) (A : Option Addr) (n c : Nat) (l : Bytes) (hn : l.length = n) (hr : Rd w A l) : (convert 22 9 (.slice A n c)).run Tryz.prog w = .ok (sv l) w := by
  subst hn
  rcases A with _ | ad
  · have h0 : l = [] := by
      cases l with
      | nil => rfl
      | cons x r => obtain ⟨b, off, h, _⟩ := hr 0 (by simp); cases h
    subst h0
    have he := Tryz.underlying5
    simp [convert, run_underlying Tryz.underlying22, run_underlying Tryz.underlying9, run_underlying he, Conv.bytesToString]
    rfl
  · exact run_convert_bytes_back w _ _ _ ad c l Tryz.underlying22 Tryz.underlying5 Tryz.underlying9 (fun j hj => by
      have := hr.cells j (bv l[j]) (by simp [hj])
      exact this)

def nameAt (l : Bytes) : Bytes := l.take (l.idxOf 0)
def nameRest (l : Bytes) : Bytes := l.drop (l.idxOf 0)
def gotName (l : Bytes) : Bool := isName (nameAt l) && !(nameRest l).any nonZero

set_option maxRecDepth 100000 in
theorem getName_any (A : Option Addr) (c : Nat) (l : Bytes) (w : World) (h8 : l.length = 8) (hc : 8 ≤ c) (hr : Rd w A l) :
    Calls Tryz.prog 153 #[.slice A 8 c] w fun e w' => e = .returned (.tuple (if gotName l = true then #[sv (nameAt l), .nilIface] else #[sv [], .iface 111 (.int .i64 2)])) ∧ Below w.heap.size w w' := by
  generalize hres : (if gotName l = true then #[sv (nameAt l), .nilIface] else #[sv [], .iface 111 (.int .i64 2)]) = res
  have HRES := Hidden.mk hres
  clear hres
  go_enter Tryz.func153, Tryz.ntmps153
  go_wp2_with fail
  refine (index_any A 8 c l 0 _ h8 (by simp [maxLen]) hr).mono ?_
  rintro e w1 ⟨rfl, rfl⟩
  by_cases hz : (0 : UInt8) ∈ l
  · have hk : l.idxOf 0 < l.length := List.idxOf_lt_length_of_mem hz
    have hi : idxB l 0 = (l.idxOf 0 : Nat) := if_pos hz
    rw [hi]
    have hna : Rd w A (nameAt l) := hr.take _ (by omega)
    have hlen : (nameAt l).length = l.idxOf 0 := by simp [nameAt]; omega
    have HN : Hidden (nameRest l = l.drop (l.idxOf 0)) := ⟨rfl⟩
    generalize l.idxOf 0 = k at *
    have hcv := conv_text w A k c (nameAt l) hlen hna
    go_wp2_with fail
    refine (name_any (nameAt l) _ (by omega)).mono ?_
    rintro e w2 ⟨rfl, hb2⟩
    cases hnm : isName (nameAt l) with
    | false =>
      have hr2 : Hidden (#[sv [], .iface 111 (.int .i64 2)] = res) := ⟨by rw [← HRES.out]; simp [gotName, hnm]⟩
      clear hnm
      go_wp2_with fail
      go_ret2
      exact ⟨congrArg (fun r => Ending.returned (.tuple r)) hr2.out, hb2⟩
    | true =>
      have hrest : Rd w2 (A.map (·.add k)) ((l.drop k).take (8 - k)) := (hr.below hb2).cut k (8 - k) (by omega)
      rw [List.take_of_length_le (by simp; omega), ← HN.out] at hrest
      have hlr : (nameRest l).length = 8 - k := by rw [HN.out]; simp; omega
      go_wp2_with fail
      refine (containsf_zero _ _ _ (nameRest l) _ hlr (by simp only [maxLen]; omega) hrest).mono ?_
      rintro e w3 ⟨rfl, rfl⟩
      cases hz2 : (nameRest l).any nonZero with
      | true =>
        have hr2 : Hidden (#[sv [], .iface 111 (.int .i64 2)] = res) := ⟨by rw [← HRES.out]; simp [gotName, hz2]⟩
        clear hnm hz2
        go_wp2_with fail
        go_ret2
        exact ⟨congrArg (fun r => Ending.returned (.tuple r)) hr2.out, hb2⟩
      | false =>
        have hr2 : Hidden (#[sv (nameAt l), .nilIface] = res) := ⟨by rw [← HRES.out]; simp [gotName, hnm, hz2]⟩
        clear hnm hz2
        go_wp2_with fail
        go_ret2
        exact ⟨congrArg (fun r => Ending.returned (.tuple r)) hr2.out, hb2⟩
  · have hi : idxB l 0 = -1 := if_neg hz
    rw [hi]
    have hk : l.idxOf 0 = 8 := by rw [List.idxOf_eq_length hz, h8]
    have hna : Rd w A (nameAt l) := hr.take _ (by omega)
    have hlen : (nameAt l).length = 8 := by simp [nameAt]; omega
    have hrest0 : nameRest l = [] := by simp [nameRest, hk]; omega
    have hcv := conv_text w A 8 c (nameAt l) hlen hna
    clear hk hz hi
    go_wp2_with fail
    refine (name_any (nameAt l) _ (by omega)).mono ?_
    rintro e w2 ⟨rfl, hb2⟩
    cases hnm : isName (nameAt l) with
    | false =>
      have hr2 : Hidden (#[sv [], .iface 111 (.int .i64 2)] = res) := ⟨by rw [← HRES.out]; simp [gotName, hnm]⟩
      clear hnm hrest0
      go_wp2_with fail
      go_ret2
      exact ⟨congrArg (fun r => Ending.returned (.tuple r)) hr2.out, hb2⟩
    | true =>
      have hr2 : Hidden (#[sv (nameAt l), .nilIface] = res) := ⟨by rw [← HRES.out]; simp [gotName, hnm, hrest0]⟩
      clear hnm hrest0
      go_wp2_with fail
      all_goals
        refine (containsf_zero _ _ _ [] _ rfl (by simp) Rd.nil_).mono ?_
        rintro e w3 ⟨rfl, rfl⟩
        go_wp2_with fail
        go_ret2
        exact ⟨congrArg (fun r => Ending.returned (.tuple r)) hr2.out, hb2⟩
end Go.Proofs.YtbnobjlphmkgeaaGreatDoor
/- The contracts of stamp.Make and bytes.Equal. -/
namespace Go.Proofs.YtbnobjlphmkgeaaGreatDoor
open Go.RowKit

/-- a sector of a stamp and a body -/
def makeB (st : Nat) (b : Bytes) : Bytes := numB st 4 ++ (b ++ List.replicate (24 - b.length) 0) ++ numB st 4
theorem makeB_len (st : Nat) (b : Bytes) (h : b.length ≤ 24) : (makeB st b).length = 32 := by simp [makeB, numB_length]; omega
theorem splice_app (a b c d : Bytes) (h : b.length = d.length) : splice (a ++ (b ++ c)) a.length d = a ++ (d ++ c) := by
  simp only [splice, List.take_left, ← h]
  rw [← List.append_assoc a b c, ← List.length_append, List.drop_left]
theorem makeB_steps (st : Nat) (b : Bytes) (h : b.length ≤ 24) : splice (splice (splice (List.replicate 32 0) 0 (numB st 4)) 4 b) 28 (numB st 4) = makeB st b := by
  have hl := numB_length st 4
  rw [splice_zeros, hl, show 32 - 4 = b.length + ((24 - b.length) + 4) from by omega, ← List.replicate_append_replicate]
  have e1 := splice_app (numB st 4) (List.replicate b.length 0) (List.replicate ((24 - b.length) + 4) 0) b (by simp)
  rw [hl] at e1
  rw [e1, ← List.replicate_append_replicate]
  have e2 := splice_app (numB st 4 ++ (b ++ List.replicate (24 - b.length) 0)) (List.replicate 4 0) [] (numB st 4) (by simp [hl])
  have hlen : (numB st 4 ++ (b ++ List.replicate (24 - b.length) 0)).length = 28 := by simp [hl]; omega
  rw [hlen] at e2
  simp only [List.append_nil] at e2
  rw [← List.append_assoc b, ← List.append_assoc (numB st 4), e2, makeB]

theorem make_e1 (st : Int) (A : Option Addr) (n c : Nat) (w : World) (h : st < 1 ∨ 4294967295 < st) :
    Calls Tryz.prog 111 #[.int .i64 st, .slice A n c] w fun e w' => e = .returned (.tuple #[.slice none 0 0, .iface 111 (.int .i64 1)]) ∧ w = w' := by
  by_cases h1 : st < 1
  · clear h
    go_enter Tryz.func111, Tryz.ntmps111
    go_wp2
    go_ret2
    exact ⟨rfl, rfl⟩
  · have h2 : 4294967295 < st := by omega
    clear h
    go_enter Tryz.func111, Tryz.ntmps111
    go_wp2
    go_ret2
    exact ⟨rfl, rfl⟩
set_option maxRecDepth 100000 in
theorem make_ok (st : Int) (A : Option Addr) (n c : Nat) (b : Bytes) (w : World) (hbn : b.length = n) (h1 : 1 ≤ st) (h2 : st ≤ 4294967295) (hn : n ≤ 24) (hr : Rd w A b) :
    Calls Tryz.prog 111 #[.int .i64 st, .slice A n c] w fun e w' => ∃ g, e = .returned (.tuple #[.slice (some ⟨g, 0, none⟩) 32 32, .nilIface]) ∧ w.heap.size ≤ g ∧ Row w' 5 g 32 (makeB st.toNat b) ∧ Below w.heap.size w w' := by
  obtain ⟨s, rfl⟩ := Int.eq_ofNat_of_zero_le (show 0 ≤ st by omega)
  have hmk := mk_bytes 32 32 rfl (by omega) w
  have hz := row_zeros w 32 (by simp [maxLen])
  have hblk : (w.alloc (.cells (zeroRow 32) 5)).heap[w.heap.size]? = some (.cells (zeroRow 32) 5 (0, 0)) := heap_alloc_new w _
  have hB1 : Below w.heap.size w (w.alloc (.cells (zeroRow 32) 5)) := (Below.refl _ _).alloc (Nat.le_refl _) _
  have hl := numB_length s 4
  go_enter Tryz.func111, Tryz.ntmps111
  go_wp2_with fail
  refine (set_any w.heap.size 0 32 32 5 (zeroRow 32) 0 s 4 _ hblk (by omega) (by omega) (by simp [maxLen]) (by rw [zeroRow_size]; omega)).mono ?_
  rintro e w1 ⟨rfl, hw1⟩
  have hrow1 := hz.set_ 0 (numB s 4) (by simp [hl]) _ hblk
  have hblk1 : w1.heap[w.heap.size]? = some (.cells (setB (zeroRow 32) 0 ((numB s 4).map bv)) 5 (0, 0)) := by rw [hw1]; exact setRow_heap _ _ _ _ _ _ hblk
  rw [Nat.zero_add] at hw1
  rw [← hw1] at hrow1
  have hB2 : Below w.heap.size w w1 := by rw [hw1]; exact below_setRow hB1 (Nat.le_refl _) _
  have hsz1 : (setB (zeroRow 32) 0 ((numB s 4).map bv)).size = 32 := by rw [setB_size _ _ _ (by simp [hl, zeroRow_size]), zeroRow_size]
  generalize setB (zeroRow 32) 0 ((numB s 4).map bv) = cur1 at hblk1 hsz1
  clear hw1 hmk hz hblk hB1
  have hcopy := fun ty => run_copy_rd w1 w.heap.size 4 28 28 n c n A b cur1 5 hblk1 hbn (hr.below hB2) (Nat.min_eq_left (by omega)).symm (by omega) ty
  rw [List.take_of_length_le (by omega)] at hcopy
  have hrow2 := hrow1.set_ 4 b (by rw [splice_len _ _ _ (by simp [hl])]; simp; omega) _ hblk1
  have hblk2 := setRow_heap w1 w.heap.size cur1 (setB cur1 4 (b.map bv)) 5 (0, 0) hblk1
  have hB3 : Below w.heap.size w (w1.setRow w.heap.size (setB cur1 4 (b.map bv))) := below_setRow hB2 (Nat.le_refl _) _
  have hsz2 : (setB cur1 4 (b.map bv)).size = 32 := by rw [setB_size _ _ _ (by simp; omega), hsz1]
  generalize w1.setRow w.heap.size (setB cur1 4 (b.map bv)) = w2 at hcopy hrow2 hblk2 hB3
  generalize setB cur1 4 (b.map bv) = cur2 at hblk2 hsz2
  go_wp2_with fail
  refine (set_any w.heap.size 0 32 32 5 cur2 28 s 4 _ hblk2 (by omega) (by omega) (by simp [maxLen]) (by omega)).mono ?_
  rintro e w3 ⟨rfl, rfl⟩
  go_wp2_with fail
  go_ret2
  refine ⟨_, rfl, Nat.le_refl _, ?_, below_setRow hB3 (Nat.le_refl _) _⟩
  have hrow3 := hrow2.set_ 28 (numB s 4) (by rw [splice_len _ _ _ (by rw [splice_len _ _ _ (by simp [hl])]; simp; omega), splice_len _ _ _ (by simp [hl])]; simp [hl]) _ hblk2
  rw [makeB_steps s b (by omega)] at hrow3
  simpa using hrow3

/-- bytes.Equal -/
theorem equal_any (A B : Option Addr) (n m c d : Nat) (a b : Bytes) (w : World) (hn : a.length = n) (hm : b.length = m) (ha : Rd w A a) (hb : Rd w B b) :
    Calls Tryz.prog 125 #[.slice A n c, .slice B m d] w fun e w' => e = .returned (.bool (a == b)) ∧ w = w' := by
  have c1 := conv_text w A n c a hn ha
  have c2 := conv_text w B m d b hm hb
  go_enter Tryz.func125, Tryz.ntmps125
  go_wp2
  go_ret
  exact ⟨rfl, rfl⟩
end Go.Proofs.YtbnobjlphmkgeaaGreatDoor
/- The contracts of stamp.Open and vaultref1.Zero. -/
namespace Go.Proofs.YtbnobjlphmkgeaaGreatDoor
open Go.RowKit

theorem open_e3 (A : Option Addr) (n c : Nat) (w : World) (h : n ≠ 32) :
    Calls Tryz.prog 166 #[.slice A n c] w fun e w' => e = .returned (.tuple #[.int .i64 0, .slice none 0 0, .iface 111 (.int .i64 3)]) ∧ w = w' := by
  have h' : ((n : Int) != 32) = true := by simp; omega
  clear h
  go_enter Tryz.func166, Tryz.ntmps166
  go_wp2
  go_ret3
  exact ⟨rfl, rfl⟩
def stampOf (l : Bytes) : Nat := ofB (l.take 4)
def bodyOf (l : Bytes) : Bytes := (l.drop 4).take 24
theorem open_e6 (A : Option Addr) (c : Nat) (l : Bytes) (w : World) (hl : l.length = 32) (hc : 32 ≤ c) (hr : Rd w A l) (hne : l.take 4 ≠ l.drop 28) :
    Calls Tryz.prog 166 #[.slice A 32 c] w fun e w' => e = .returned (.tuple #[.int .i64 0, .slice none 0 0, .iface 111 (.int .i64 6)]) ∧ ∃ n, w' = w.drewN n := by
  have hr1 := hr.take 4 (by omega)
  have hr2 := hr.cut 28 4 (by omega)
  rw [List.take_of_length_le (by simp; omega)] at hr2
  have hb : (l.take 4 == l.drop 28) = false := by simpa using hne
  have HB := Hidden.mk hb
  clear hb hne
  go_enter Tryz.func166, Tryz.ntmps166
  go_wp2_with fail
  go_quiet (fail)
  go_wp2_with fail
  refine (of_any _ _ _ (l.take 4) _ (by simp; omega) (by omega) (hr1.drewN _)).mono ?_
  rintro e w1 ⟨rfl, rfl⟩
  go_wp2_with fail
  refine (equal_any _ _ _ _ _ _ (l.take 4) (l.drop 28) _ (by simp; omega) (by simp; omega) (hr1.drewN _) (hr2.drewN _)).mono ?_
  rintro e w1 ⟨rfl, rfl⟩
  rw [HB.out]
  go_wp2_with fail
  go_ret3
  exact ⟨rfl, _, rfl⟩
theorem open_e5 (A : Option Addr) (c : Nat) (l : Bytes) (w : World) (hl : l.length = 32) (hc : 32 ≤ c) (hr : Rd w A l) (he : l.take 4 = l.drop 28) (h0 : stampOf l = 0) :
    Calls Tryz.prog 166 #[.slice A 32 c] w fun e w' => e = .returned (.tuple #[.int .i64 0, .slice none 0 0, .iface 111 (.int .i64 5)]) ∧ ∃ n, w' = w.drewN n := by
  have hr1 := hr.take 4 (by omega)
  have hr2 := hr.cut 28 4 (by omega)
  rw [List.take_of_length_le (by simp; omega)] at hr2
  have hb : (l.take 4 == l.drop 28) = true := by simpa using he
  have HB := Hidden.mk hb
  have H0 := Hidden.mk h0
  clear hb he h0
  go_enter Tryz.func166, Tryz.ntmps166
  go_wp2_with fail
  go_quiet (fail)
  go_wp2_with fail
  refine (of_any _ _ _ (l.take 4) _ (by simp; omega) (by omega) (hr1.drewN _)).mono ?_
  rintro e w1 ⟨rfl, rfl⟩
  rw [show ofB (l.take 4) = 0 from H0.out]
  go_wp2_with fail
  refine (equal_any _ _ _ _ _ _ (l.take 4) (l.drop 28) _ (by simp; omega) (by simp; omega) (hr1.drewN _) (hr2.drewN _)).mono ?_
  rintro e w1 ⟨rfl, rfl⟩
  rw [HB.out]
  go_wp2_with fail
  go_ret3
  exact ⟨rfl, _, rfl⟩
theorem open_ok (A : Option Addr) (c : Nat) (l : Bytes) (w : World) (hl : l.length = 32) (hc : 32 ≤ c) (hr : Rd w A l) (he : l.take 4 = l.drop 28) (h0 : stampOf l ≠ 0) :
    Calls Tryz.prog 166 #[.slice A 32 c] w fun e w' => ∃ g cap, e = .returned (.tuple #[.int .i64 (stampOf l), .slice (some ⟨g, 0, none⟩) 24 cap, .nilIface]) ∧
      w.heap.size ≤ g ∧ Row w' 5 g cap (bodyOf l) ∧ Below w.heap.size w w' := by
  have hr1 := hr.take 4 (by omega)
  have hr2 := hr.cut 28 4 (by omega)
  have hr3 := hr.cut 4 24 (by omega)
  rw [List.take_of_length_le (by simp; omega)] at hr2
  obtain ⟨p, off, rfl, _⟩ := hr.lt (by omega)
  have hb : (l.take 4 == l.drop 28) = true := by simpa using he
  have HB := Hidden.mk hb
  have h0' : ((stampOf l : Int) == 0) = false := by simp; omega
  clear hb he h0
  go_enter Tryz.func166, Tryz.ntmps166
  go_wp2_with fail
  go_quiet (fail)
  go_wp2_with fail
  refine (of_any _ _ _ (l.take 4) _ (by simp; omega) (by omega) (hr1.drewN _)).mono ?_
  rintro e w1 ⟨rfl, rfl⟩
  rw [show ofB (l.take 4) = stampOf l from rfl]
  go_wp2_with fail
  refine (equal_any _ _ _ _ _ _ (l.take 4) (l.drop 28) _ (by simp; omega) (by simp; omega) (hr1.drewN _) (hr2.drewN _)).mono ?_
  rintro e w1 ⟨rfl, rfl⟩
  rw [HB.out]
  go_wp2_with fail
  refine (clone_some _ 24 _ (bodyOf l) _ (by simp [bodyOf]; omega) (by omega) (hr3.drewN _)).mono ?_
  rintro e w1 ⟨g, cap, rfl, hg, hrow, hb⟩
  go_wp2_with fail
  go_ret3
  exact ⟨g, cap, rfl, hg, hrow, (below_drewN (Below.refl _ _) _).trans hb⟩

end Go.Proofs.YtbnobjlphmkgeaaGreatDoor
/- The contracts of the reference's Number, Make and Open. -/
namespace Go.Proofs.YtbnobjlphmkgeaaGreatDoor
open Go.RowKit

/-- what a sector is: its stamp, its body, the fault -/
def openF (l : Bytes) : Nat × Bytes × Nat := if l.length ≠ 32 then (0, [], 3) else if l.take 4 ≠ l.drop 28 then (0, [], 6) else if stampOf l = 0 then (0, [], 5) else (stampOf l, bodyOf l, 0)
theorem open_any (A : Option Addr) (n c : Nat) (l : Bytes) (w : World) (hn : l.length = n) (hc : n ≤ c) (hr : Rd w A l) :
    Calls Tryz.prog 166 #[.slice A n c] w fun e w' => ∃ A' c', e = .returned (.tuple #[.int .i64 (openF l).1, .slice A' (openF l).2.1.length c', errV (openF l).2.2]) ∧ Rd w' A' (openF l).2.1 ∧ Below w.heap.size w w' := by
  subst hn
  unfold openF
  by_cases h1 : l.length ≠ 32
  · rw [if_pos h1]
    refine (open_e3 A _ c w h1).mono ?_
    rintro e w' ⟨rfl, rfl⟩
    exact ⟨none, 0, rfl, Rd.nil_, Below.refl _ _⟩
  · rw [if_neg h1]
    have h32 : l.length = 32 := by omega
    rw [h32] at hc ⊢
    by_cases h2 : l.take 4 ≠ l.drop 28
    · rw [if_pos h2]
      refine (open_e6 A c l w h32 hc hr h2).mono ?_
      rintro e w' ⟨rfl, n, rfl⟩
      exact ⟨none, 0, rfl, Rd.nil_, below_drewN (Below.refl _ _) _⟩
    · rw [if_neg h2]
      have h2' : l.take 4 = l.drop 28 := Decidable.not_not.1 h2
      by_cases h3 : stampOf l = 0
      · rw [if_pos h3]
        refine (open_e5 A c l w h32 hc hr h2' h3).mono ?_
        rintro e w' ⟨rfl, n, rfl⟩
        exact ⟨none, 0, rfl, Rd.nil_, below_drewN (Below.refl _ _) _⟩
      · rw [if_neg h3]
        refine (open_ok A c l w h32 hc hr h2' h3).mono ?_
        rintro e w' ⟨g, cap, rfl, hg, hrow, hb⟩
        exact ⟨some ⟨g, 0, none⟩, cap, by rw [show (bodyOf l).length = 24 from by simp [bodyOf, h32]]; rfl, hrow.rd, hb⟩

end Go.Proofs.YtbnobjlphmkgeaaGreatDoor
/- NumLow: plain facts on numbers as bytes; the contract of pow. -/
namespace Go.Proofs.YtbnobjlphmkgeaaGreatDoor
open Go.RowKit

theorem ofB_append (a b : Bytes) : ofB (a ++ b) = ofB a + 2 ^ (8 * a.length) * ofB b := by
  induction a with
  | nil => simp [ofB]
  | cons d a ih =>
    simp only [List.cons_append, ofB, ih, List.length_cons]
    rw [show 8 * (a.length + 1) = 8 * a.length + 8 from by omega, Nat.pow_add, Nat.mul_add, Nat.add_assoc]
    congr 2
    rw [← Nat.mul_assoc, Nat.mul_comm 256, show 2 ^ 8 = 256 from rfl]
theorem ofB_numB (n s : Nat) : ofB (numB n s) = n % 2 ^ (8 * s) := by
  induction s generalizing n with
  | zero => simp [numB, ofB, Nat.mod_one]
  | succ s ih =>
    simp only [numB, ofB, ofNat_mod, ih]
    rw [show 8 * (s + 1) = 8 + 8 * s from by omega, Nat.pow_add, show 2 ^ 8 = 256 from rfl, Nat.mod_mul]
theorem numB_take (n s i : Nat) (h : i ≤ s) : (numB n s).take i = numB n i := by
  induction s generalizing n i with
  | zero => have : i = 0 := by omega
            subst this; rfl
  | succ s ih =>
    cases i with
    | zero => simp [numB]
    | succ i => simp only [numB, List.take_succ_cons]; rw [ih _ _ (by omega)]
end Go.Proofs.YtbnobjlphmkgeaaGreatDoor
/- NumBack: the walk. -/
namespace Go.Proofs.YtbnobjlphmkgeaaGreatDoor
open Go.RowKit

theorem nameB_len (s : Bytes) (h : isName s = true) : (nameB s).length = 8 := by
  have h8 : s.length ≤ 8 := by simp [isName] at h; omega
  simp [nameB]; omega
theorem nameB_back (s : Bytes) (h : isName s = true) : gotName (nameB s) = true ∧ nameAt (nameB s) = s := by
  have h8 : s.length ≤ 8 := by simp [isName] at h; omega
  have hz : (0 : UInt8) ∉ s := by
    intro h0
    simp only [isName, Bool.and_eq_true, Bool.not_eq_true', List.any_eq_false] at h
    exact h.2 0 h0 (by decide)
  have hi : (nameB s).idxOf 0 = s.length := by
    unfold nameB
    rw [List.idxOf_append, if_neg hz]
    rcases Nat.lt_or_ge s.length 8 with hlt | hge
    · obtain ⟨m, hm⟩ : ∃ m, 8 - s.length = m + 1 := ⟨7 - s.length, by omega⟩
      rw [hm, List.replicate_succ]
      simp
    · have : 8 - s.length = 0 := by omega
      simp [this]
  have h1 : nameAt (nameB s) = s := by unfold nameAt; rw [hi]; simp [nameB]
  have h2 : nameRest (nameB s) = List.replicate (8 - s.length) 0 := by unfold nameRest; rw [hi]; simp [nameB]
  refine ⟨?_, h1⟩
  unfold gotName
  rw [h1, h2, h]
  simp [nonZero]

end Go.Proofs.YtbnobjlphmkgeaaGreatDoor
/- StampRow: the walk. -/
namespace Go.Proofs.YtbnobjlphmkgeaaGreatDoor
open Go.RowKit

theorem ofB_numB4 (n : Nat) (h : n ≤ 4294967295) : ofB (numB n 4) = n := by rw [ofB_numB]; exact Nat.mod_eq_of_lt (by omega)
theorem makeB_take (n : Nat) (b : Bytes) : (makeB n b).take 4 = numB n 4 := by
  unfold makeB
  rw [List.append_assoc, List.take_append_of_le_length (by rw [numB_length]; omega), List.take_of_length_le (by rw [numB_length]; omega)]
theorem makeB_drop (n : Nat) (b : Bytes) (h : b.length ≤ 24) : (makeB n b).drop 28 = numB n 4 := by
  unfold makeB
  have hl : (numB n 4 ++ (b ++ List.replicate (24 - b.length) 0)).length = 28 := by simp [numB_length]; omega
  rw [List.drop_append_of_le_length (by omega), List.drop_of_length_le (by omega), List.nil_append]
theorem makeB_body (n : Nat) (b : Bytes) (h : b.length ≤ 24) : bodyOf (makeB n b) = b ++ List.replicate (24 - b.length) 0 := by
  unfold bodyOf makeB
  rw [List.append_assoc, List.drop_append_of_le_length (by rw [numB_length]; omega), List.drop_of_length_le (by rw [numB_length]; omega), List.nil_append,
    List.take_append_of_le_length (by simp; omega), List.take_of_length_le (by simp; omega)]
theorem makeB_stamp (n : Nat) (b : Bytes) (hn : n ≤ 4294967295) : stampOf (makeB n b) = n := by unfold stampOf; rw [makeB_take, ofB_numB4 n hn]
end Go.Proofs.YtbnobjlphmkgeaaGreatDoor
