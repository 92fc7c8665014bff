/- Contracts and plain laws, put together: Base, Num1, Num2, Num3, ErrI, Mem, Num4, Str1, Str2, Img1, Img2, Str3, NumLow1, NumBack1, Stamp1, Img3, DiffP, DiffQ, CheckP, Img4, Chk1, Open, Open2, App, Rows2, Ext1, SortP, LayX, Ext2, Keep, Ext3. -/
import Derived.WalkKit
import Derived.WalkSpells
import Derived.Deep.QuietTactic
import Derived.BigQuiet
import Derived.Deep.Draws
import Derived.Test.YtnceheienlekaaaDoorChecked
import Derived.Laws.CopyOwn
import Derived.Laws.MakeOwn
import Derived.Lib.ConvBytes
import Derived.Deep.RegionHeld3
import Derived.ProofKit
import Derived.OpenShut
import Derived.ShutString
import Derived.ChangeOld
import Derived.SizedLaws
import Derived.Lib.SmallJoins
import Derived.Deep.Slices
import Derived.Deep.Fields
import Derived.Maps.AppendAt
import Derived.Deep.AppendLies
import Derived.OwnWalk
import Derived.Deep.LoopGhost
import Derived.Shelf.SlSortCmp.WholeK
import Derived.Shelf.SlGeneric
import Derived.Ground.SlsfProg
import Derived.Shelf.SlSortCmp.NoneTotal
/- Words for memory that the other texts use: slices of bytes as lists; no program in sight. -/
namespace Go.Proofs.YtnceheienlekaaaDoor
open Go.RowKit

/-- a fact that the walk does not see -/
structure Hidden (p : Prop) : Prop where
  out : p
abbrev Bytes := List UInt8
/-- a byte as a cell -/
abbrev bv (c : UInt8) : Value := .int .u8 (c.toNat : Int)

/-- a text as a value -/
abbrev sv (l : Bytes) : Value := .string ⟨l.toArray⟩

/-- the slice that begins at A reads as the bytes l -/
def Rd (w : World) (A : Option Addr) (l : Bytes) : Prop :=
  ∀ j (h : j < l.length), ∃ b off, A = some ⟨b, off, none⟩ ∧ w.cell? ⟨b, off + j, none⟩ = some (bv l[j])

section
variable {w w' : World} {A : Option Addr} {l : Bytes}
theorem Rd.nil_ : Rd w A [] := fun j h => absurd h (by simp)
theorem Rd.below (h : Rd w A l) (hb : Below w.heap.size w w') : Rd w' A l := fun j hj => by
  obtain ⟨b, off, hA, hc⟩ := h j hj
  exact ⟨b, off, hA, (hb.cell (block_lt_of_cell hc)).trans hc⟩
theorem Rd.below' {B : Nat} (h : Rd w A l) (hA : ∀ ad, A = some ad → ad.block < B) (hb : Below B w w') : Rd w' A l := fun j hj => by
  obtain ⟨b, off, rfl, hc⟩ := h j hj
  exact ⟨b, off, rfl, (hb.cell (p := ⟨b, off + j, none⟩) (hA ⟨b, off, none⟩ rfl)).trans hc⟩
theorem Rd.drewN (h : Rd w A l) (n : Nat) : Rd (w.drewN n) A l := h
theorem Rd.lt (h : Rd w A l) (hl : 0 < l.length) : ∃ b off, A = some ⟨b, off, none⟩ ∧ b < w.heap.size := by
  obtain ⟨b, off, hA, hc⟩ := h 0 hl
  exact ⟨b, off, hA, block_lt_of_cell hc⟩
theorem Rd.cut (h : Rd w A l) (a s : Nat) (hs : a + s ≤ l.length) : Rd w (A.map (·.add a)) ((l.drop a).take s) := fun j hj => by
  have hj' : j < s := by simp at hj; omega
  obtain ⟨b, off, rfl, hc⟩ := h (a + j) (by omega)
  refine ⟨b, off + a, by simp [Addr.add_lit], ?_⟩
  rw [Nat.add_assoc, hc]
  simp
theorem Rd.cutIf (h : Rd w A l) (a s c : Nat) (hs : a + s ≤ l.length) (hc : l.length ≤ c) : Rd w (if c = a then A else A.map (·.add a)) ((l.drop a).take s) := by
  by_cases hca : c = a
  · have : s = 0 := by omega
    subst this
    simpa using Rd.nil_
  · rw [if_neg hca]; exact h.cut a s hs
theorem Rd.take (h : Rd w A l) (s : Nat) (hs : s ≤ l.length) : Rd w A (l.take s) := fun j hj => by
  obtain ⟨b, off, rfl, hc⟩ := h j (by simp at hj; omega)
  refine ⟨b, off, rfl, ?_⟩
  rw [hc]; simp
theorem Rd.at_ {b off : Nat} (h : Rd w (some ⟨b, off, none⟩) l) (j : Nat) (hj : j < l.length) : w.cell? ⟨b, off + j, none⟩ = some (bv l[j]) := by
  obtain ⟨b', off', hA, hc⟩ := h j hj
  injection hA with hA
  injection hA with h1 h2
  subst h1 h2
  exact hc
theorem Rd.cells {ad : Addr} (h : Rd w (some ad) l) (j : Nat) (u : Value) (hu : (l.map bv)[j]? = some u) : w.cell? (ad.add j) = some u := by
  have hj : j < l.length := by
    have := (List.getElem?_eq_some_iff.1 hu).1
    simpa using this
  obtain ⟨b, off, hA, hc⟩ := h j hj
  injection hA with hA
  subst hA
  rw [Addr.add_lit, hc, ← hu]
  simp [hj]
end
theorem Rd.tail {w : World} {A : Option Addr} {l : Bytes} (h : Rd w A l) (k c : Nat) (hk : k ≤ l.length) (hc : l.length ≤ c) : Rd w (if c = k then A else A.map (·.add k)) (l.drop k) := by
  have := h.cutIf k (l.length - k) c (by omega) hc
  rwa [List.take_of_length_le (by simp)] at this
theorem one_bv {l : Bytes} : ∀ u ∈ l.map bv, u.oneCell' = true := by
  intro u hu
  obtain ⟨c, _, rfl⟩ := List.mem_map.1 hu
  rfl

/-- the slice v is the call's own (blocks from base on), and reads as l; e: the number of the type byte -/
def Own (w : World) (base e : Nat) (v : Value) (l : Bytes) : Prop := w.ownsRow base e 1 v l.length (l.map bv)

theorem Own.slice {w : World} {base e : Nat} {v : Value} {l : Bytes} (h : Own w base e v l) : ∃ A c, v = .slice A l.length c ∧ l.length ≤ c ∧ c ≤ maxLen ∧ Rd w A l := by
  rcases h.2 with ⟨rfl, h0⟩ | ⟨g, cap, cur, rfl, _, hh, hc, hm, hz, ht⟩
  · rw [h0]
    have : l = [] := List.eq_nil_of_length_eq_zero h0
    subst this
    exact ⟨none, 0, rfl, by simp, by simp, Rd.nil_⟩
  · refine ⟨_, cap, rfl, hc, hm, fun j hj => ⟨g, 0, rfl, ?_⟩⟩
    rw [Nat.zero_add, cell_of_row w g j cur e (0, 0) hh]
    have h1 : (l.map bv)[j]? = some (bv l[j]) := by simp [hj]
    rw [← ht, List.getElem?_take, if_pos (by omega)] at h1
    simpa using h1
theorem below_drewN {B : Nat} {a w : World} (h : Below B a w) (n : Nat) : Below B a (w.drewN n) := ⟨h.os, h.tape, h.output, h.size, h.block⟩
theorem grown_below {a w : World} (h : Below a.heap.size a w) (row : Option Nat) : a.grownBy w row := ⟨h.os, h.tape, h.output, h.size, fun i hi _ => h.block i hi⟩
theorem own_below {w w' : World} {base : Nat} {e : TypeId} {size : Nat} {v : Value} {n : Nat} {xs : List Value} (h : w.ownsRow base e size v n xs) (hb : Below w.heap.size w w') : w'.ownsRow base e size v n xs :=
  h.kept (grown_below hb none) (by cases hv : v.ownBlock <;> simp)
theorem grown_trans' {a b c : World} {row : Option Nat} (h : Below a.heap.size a b) (k : b.grownBy c row) : a.grownBy c row :=
  ⟨k.os.trans h.os, k.tape.trans h.tape, k.output.trans h.output, Nat.le_trans h.size k.size, fun i hi hne => (k.block i (Nat.lt_of_lt_of_le hi h.size) hne).trans (h.block i hi)⟩
end Go.Proofs.YtnceheienlekaaaDoor
/- The contracts of package num and of what it calls in package slices, over bytes. -/
namespace Go.Proofs.YtnceheienlekaaaDoor
open Go.RowKit

/-- what so many bytes have at most -/
def mostN (n : Int) : Int := 2 ^ (8 * n.toNat) - 1

/-- slices.Index: the first place, or -1 -/
def idxB (l : Bytes) (x : UInt8) : Int := if x ∈ l then (l.idxOf x : Int) else -1
theorem idxB_at (l : Bytes) (x : UInt8) (k : Nat) (hk : k < l.length) (hn : x ∉ l.take k) (he : l[k] = x) : idxB l x = k := by
  have hm : x ∈ l := by rw [← he]; exact List.getElem_mem hk
  unfold idxB
  rw [if_pos hm]
  have : l.idxOf x = k := by
    conv => lhs; rw [← List.take_append_drop k l]
    rw [List.idxOf_append, if_neg hn]
    have hd : l.drop k = x :: l.drop (k + 1) := by rw [List.drop_eq_getElem_cons hk, he]
    rw [hd]
    simp; omega
  rw [this]
theorem idxB_none (l : Bytes) (x : UInt8) (hn : x ∉ l) : idxB l x = -1 := if_neg hn
theorem bv_beq (x y : UInt8) : ((x.toNat : Int) == (y.toNat : Int)) = (x == y) := by
  rw [Bool.eq_iff_iff]
  simp only [beq_iff_eq]
  rw [← UInt8.toNat_inj]
  omega
theorem not_take_succ {l : Bytes} {x : UInt8} {k : Nat} (hk : k < l.length) (hn : x ∉ l.take k) (he : ¬ l[k] = x) : x ∉ l.take (k + 1) := by
  rw [List.take_succ_eq_append_getElem hk]
  simp only [List.mem_append, List.mem_singleton, not_or]
  exact ⟨hn, fun h => he h.symm⟩

/-- the number that bytes have, the low one first -/
def ofB : Bytes → Nat
  | [] => 0
  | c :: l => c.toNat + 256 * ofB l
theorem ofB_snoc (l : Bytes) (c : UInt8) : ofB (l ++ [c]) = ofB l + 2 ^ (8 * l.length) * c.toNat := by
  induction l with
  | nil => simp [ofB]
  | cons d l ih =>
    simp only [List.cons_append, ofB, ih, List.length_cons]
    rw [show 8 * (l.length + 1) = 8 * l.length + 8 from by omega, Nat.pow_add]
    rw [Nat.mul_add, Nat.add_assoc]
    congr 2
    rw [← Nat.mul_assoc, Nat.mul_comm 256, show 2 ^ 8 = 256 from rfl]
theorem ofB_lt (l : Bytes) : ofB l < 2 ^ (8 * l.length) := by
  induction l with
  | nil => simp [ofB]
  | cons d l ih =>
    simp only [ofB, List.length_cons]
    rw [show 8 * (l.length + 1) = 8 * l.length + 8 from by omega, Nat.pow_add]
    have := d.toNat_lt
    simp at this
    omega
theorem or_add (a b k : Nat) (h : a < 2 ^ k) : a ||| (2 ^ k * b) = a + 2 ^ k * b := by
  rw [Nat.or_comm, ← Nat.two_pow_add_eq_or_of_lt h]; omega
theorem i64_ofInt (a : Nat) (ha : a < 9223372036854775808) : (BitVec.ofInt 64 (a : Int)).toNat = a := by
  rw [BitVec.ofInt_natCast, BitVec.toNat_ofNat]; exact Nat.mod_eq_of_lt (by omega)
theorem i64_or (a b : Nat) (ha : a < 9223372036854775808) (hb : b < 9223372036854775808) : bits .or .i64 (a : Int) (b : Int) = ((a ||| b : Nat) : Int) := by
  have hx : a ||| b < 2 ^ 63 := Nat.or_lt_two_pow (by omega) (by omega)
  show IntKind.i64.wrap ((BitVec.ofInt 64 (a : Int) ||| BitVec.ofInt 64 (b : Int)).toNat : Int) = _
  rw [BitVec.toNat_or, i64_ofInt a ha, i64_ofInt b hb, IntKind.wrap_i64]
  omega
theorem u8_lt (c : UInt8) : c.toNat < 256 := c.toNat_lt
theorem wrap64_id (n : Int) (h0 : -9223372036854775808 ≤ n) (h : n ≤ 9223372036854775807) : wrap64 n = n := IntWalk.wrap64_in n ⟨h0, h⟩
theorem of_step (l : Bytes) (k : Nat) (hk : k < l.length) (hl : l.length ≤ 4) :
    bits .or .i64 (ofB (l.take k) : Int) (wrap64 (wrap64 (l[k].toNat : Int) * 2 ^ (8 * k))) = (ofB (l.take (k + 1)) : Int) := by
  have hc := u8_lt l[k]
  have h1 := ofB_lt (l.take k)
  have hlen : (l.take k).length = k := by simp; omega
  rw [hlen] at h1
  have hp : 2 ^ (8 * k) ≤ 16777216 := by
    have : k ≤ 3 := by omega
    calc 2 ^ (8 * k) ≤ 2 ^ 24 := Nat.pow_le_pow_right (by omega) (by omega)
      _ = 16777216 := by decide
  have hm : 2 ^ (8 * k) * l[k].toNat ≤ 16777216 * 256 := Nat.mul_le_mul hp (by omega)
  rw [wrap64_id (l[k].toNat : Int) (by omega) (by omega)]
  have hcast : (l[k].toNat : Int) * 2 ^ (8 * k) = ((2 ^ (8 * k) * l[k].toNat : Nat) : Int) := by
    rw [Int.natCast_mul, Int.mul_comm, Int.natCast_pow]; rfl
  rw [hcast, wrap64_id _ (by omega) (by omega), i64_or _ _ (by omega) (by omega), or_add _ _ _ h1, List.take_succ_eq_append_getElem hk, ofB_snoc, hlen]
theorem ret_i64 {a b : Int} (h : a = b) : Ending.returned (.int .i64 a) = .returned (.int .i64 b) := by rw [h]
theorem int_i64 {a b : Int} (h : a = b) : Value.int .i64 a = .int .i64 b := by rw [h]

theorem of_any (A : Option Addr) (n c : Nat) (l : Bytes) (w : World) (hn : l.length = n) (hl : n ≤ 4) (hr : Rd w A l) :
    Calls Tryd.prog 86 #[.slice A n c] w fun e w' => e = .returned (.int .i64 (ofB l)) ∧ w = w' := by
  subst hn
  go_enter Tryd.func86, Tryd.ntmps86
  go_wp2
  go_loop [3, 8] (fun n i => ∃ k : Nat, k ≤ l.length ∧ i = .int .i64 k ∧ n = .int .i64 (ofB (l.take k))) (fun _ i => l.length - (intOf i).toNat)
  case atStart => exact ⟨0, Nat.zero_le _, rfl, rfl⟩
  case round =>
    obtain ⟨k, hk, rfl, rfl⟩ := hrel
    by_cases hlt : k < l.length
    · obtain ⟨b, off, rfl, hc⟩ := hr k hlt
      go_wp2
      go_round
      case rel => exact ⟨k + 1, by omega, by go_num, int_i64 (of_step l k hlt hl)⟩
      case measure => simp [intOf]; omega
    · go_wp2
      go_ret
      exact ⟨ret_i64 (by rw [List.take_of_length_le (by omega)]), rfl⟩

end Go.Proofs.YtnceheienlekaaaDoor
/- The contract of num.Set: it writes the bytes of a number into a block. -/
namespace Go.Proofs.YtnceheienlekaaaDoor
open Go.RowKit

/-- a row in which other values stand from i on -/
def setB (cur : Array Value) (i : Nat) (l : List Value) : Array Value := (splice cur.toList i l).toArray
theorem setB_size (cur : Array Value) (i : Nat) (l : List Value) (h : i + l.length ≤ cur.size) : (setB cur i l).size = cur.size := by
  simp only [setB, List.size_toArray]; rw [length_splice _ _ _ (by simpa using h)]; simp
theorem setB_nil (cur : Array Value) (i : Nat) : setB cur i [] = cur := by simp [setB, splice]
theorem setB_snoc (cur : Array Value) (i : Nat) (l : List Value) (v : Value) (h : i + l.length < cur.size) :
    (setB cur i l).setIfInBounds (i + l.length) v = setB cur i (l ++ [v]) := by
  apply Array.ext'
  obtain ⟨cur⟩ := cur
  simp only [List.size_toArray] at h
  simp only [setB, splice, List.setIfInBounds_toArray]
  rw [List.set_append_right _ _ (by simp; omega)]
  have h1 : i + l.length - (cur.take i).length = l.length := by simp; omega
  rw [h1, List.set_append_right _ _ (by omega), Nat.sub_self]
  rw [List.drop_eq_getElem_cons h]
  simp [List.append_assoc, Nat.add_assoc]
theorem setB_at (cur : Array Value) (i : Nat) (l : List Value) (j : Nat) (h : i + l.length ≤ cur.size) :
    (setB cur i l)[j]? = if i ≤ j ∧ j < i + l.length then l[j - i]? else cur[j]? := by
  obtain ⟨cur⟩ := cur
  simp only [List.size_toArray] at h
  simp only [setB, splice, List.getElem?_toArray]
  have hl : (cur.take i).length = i := by simp; omega
  by_cases h1 : j < i
  · rw [if_neg (by omega), List.getElem?_append_left (by omega), List.getElem?_take, if_pos h1]
  · rw [List.getElem?_append_right (by omega), hl]
    by_cases h2 : j < i + l.length
    · rw [if_pos (by omega), List.getElem?_append_left (by omega)]
    · rw [if_neg (by omega), List.getElem?_append_right (by omega), List.getElem?_drop]
      congr 1; omega

/-- block g is a row of bytes of which the first are l; cap: how many cells; e: the type byte -/
def Row (w : World) (e g cap : Nat) (l : Bytes) : Prop :=
  ∃ cur, w.heap[g]? = some (.cells cur e (0, 0)) ∧ l.length ≤ cap ∧ cap ≤ maxLen ∧ cur.size = cap ∧ cur.toList.take l.length = l.map bv
section
variable {w w' : World} {e g cap : Nat} {l : Bytes}
theorem Row.own (h : Row w e g cap l) {base : Nat} (hb : base ≤ g) : Own w base e (.slice (some ⟨g, 0, none⟩) l.length cap) l := by
  obtain ⟨cur, hg, h1, h2, h3, h4⟩ := h
  exact ⟨by simp, .inr ⟨g, cap, cur, rfl, hb, hg, h1, h2, by omega, by simpa using h4⟩⟩
theorem Row.of_own {base : Nat} {v : Value} (h : Own w base e v l) (hn : v ≠ .slice none 0 0) : ∃ g cap, v = .slice (some ⟨g, 0, none⟩) l.length cap ∧ base ≤ g ∧ Row w e g cap l := by
  rcases h.2 with ⟨rfl, _⟩ | ⟨g, cap, cur, rfl, hb, hg, h1, h2, h3, h4⟩
  · exact absurd rfl hn
  · exact ⟨g, cap, rfl, hb, cur, hg, h1, h2, by omega, by simpa using h4⟩
theorem Row.cell (h : Row w e g cap l) (j : Nat) (hj : j < l.length) : w.cell? ⟨g, j, none⟩ = some (bv l[j]) := by
  obtain ⟨cur, hg, h1, h2, h3, h4⟩ := h
  rw [cell_of_row w g j cur e (0, 0) hg]
  have h5 : (l.map bv)[j]? = some (bv l[j]) := by simp [hj]
  rw [← h4, List.getElem?_take, if_pos (by omega)] at h5
  simpa using h5
theorem Row.rd (h : Row w e g cap l) : Rd w (some ⟨g, 0, none⟩) l := fun j hj => ⟨g, 0, rfl, by rw [Nat.zero_add]; exact h.cell j hj⟩
theorem Row.below {B : Nat} (h : Row w e g cap l) (hb : Below B w w') (hg : g < B) : Row w' e g cap l := by
  obtain ⟨cur, h0, h1⟩ := h
  exact ⟨cur, (hb.block g hg).trans h0, h1⟩
theorem Row.lt (h : Row w e g cap l) : g < w.heap.size := by
  obtain ⟨cur, h0, _⟩ := h
  exact (Array.getElem?_eq_some_iff.1 h0).1
theorem Row.le (h : Row w e g cap l) : l.length ≤ cap ∧ cap ≤ maxLen := by
  obtain ⟨cur, _, h1, h2, _⟩ := h
  exact ⟨h1, h2⟩
theorem splice_len (l bs : Bytes) (i : Nat) (h : i + bs.length ≤ l.length) : (splice l i bs).length = l.length := length_splice l i bs h
theorem Row.set_ (h : Row w e g cap l) (i : Nat) (bs : Bytes) (hi : i + bs.length ≤ l.length) (cur : Array Value) (hc : w.heap[g]? = some (.cells cur e (0, 0))) :
    Row (w.setRow g (setB cur i (bs.map bv))) e g cap (splice l i bs) := by
  obtain ⟨cur', hg, h1, h2, h3, h4⟩ := h
  rw [hc] at hg
  injection hg with hg
  injection hg with hg
  subst hg
  refine ⟨_, setRow_heap w g cur _ e _ hc, by rw [splice_len _ _ _ hi]; exact h1, h2, by rw [setB_size _ _ _ (by simp; omega)]; exact h3, ?_⟩
  have hlen := splice_len l bs i hi
  apply List.ext_getElem?
  intro j
  rw [hlen, List.getElem?_take]
  by_cases hj : j < l.length
  · rw [if_pos hj]
    have h5 : cur[j]? = (l.map bv)[j]? := by rw [← h4, List.getElem?_take, if_pos hj]; simp
    have h6 : (setB cur i (bs.map bv)).toList[j]? = (setB cur i (bs.map bv))[j]? := by simp
    rw [h6, setB_at _ _ _ _ (by simp; omega), h5]
    simp only [splice, List.length_map]
    have hl : (l.take i).length = i := by simp; omega
    rw [List.getElem?_map, List.getElem?_map, List.getElem?_map]
    by_cases h7 : j < i
    · rw [if_neg (by omega), List.getElem?_append_left (by omega), List.getElem?_take, if_pos h7]
    · rw [List.getElem?_append_right (by omega), hl]
      by_cases h8 : j < i + bs.length
      · rw [if_pos (by omega), List.getElem?_append_left (by omega)]
      · rw [if_neg (by omega), List.getElem?_append_right (by omega), List.getElem?_drop]
        congr 2; omega
  · rw [if_neg hj, List.getElem?_eq_none (by simp; omega)]
end

/-- the bytes of a number, the low one first -/
def numB (n : Nat) : Nat → Bytes
  | 0 => []
  | k + 1 => UInt8.ofNat (n % 256) :: numB (n / 256) k
theorem numB_length (n k : Nat) : (numB n k).length = k := by
  induction k generalizing n with
  | zero => rfl
  | succ k ih => simp [numB, ih]
theorem numB_succ (n k : Nat) : numB n (k + 1) = numB n k ++ [UInt8.ofNat (n / 2 ^ (8 * k) % 256)] := by
  induction k generalizing n with
  | zero => simp [numB]
  | succ k ih =>
    rw [numB, ih (n / 256)]
    conv => rhs; rw [numB]
    simp only [List.cons_append, List.cons.injEq, List.append_cancel_left_eq, true_and, and_true]
    rw [Nat.div_div_eq_div_mul, show 8 * (k + 1) = 8 + 8 * k from by omega, Nat.pow_add]

theorem ofNat_mod (n : Nat) : (UInt8.ofNat (n % 256)).toNat = n % 256 := by simp [UInt8.toNat_ofNat']

theorem set_any (g off len cap T : Nat) (cur : Array Value) (at_ n size : Nat) (w : World) (hb : w.heap[g]? = some (.cells cur T (0, 0)))
    (hs : size ≤ 4) (hat : at_ + size ≤ len) (hlen : len ≤ maxLen) (hcur : off + len ≤ cur.size) :
    Calls Tryd.prog 68 #[.slice (some ⟨g, off, none⟩) len cap, .int .i64 at_, .int .i64 n, .int .i64 size] w
      fun e w' => e = .returned (.tuple #[]) ∧ w' = w.setRow g (setB cur (off + at_) ((numB n size).map bv)) := by
  unfold maxLen at hlen
  go_enter Tryd.func68, Tryd.ntmps68
  go_wp2
  go_loopw [10] (fun i wr => ∃ k : Nat, k ≤ size ∧ i = .int .i64 k ∧ wr = w.setRow g (setB cur (off + at_) ((numB n k).map bv))) (fun i _ => size - (intOf i).toNat)
  case atStart => exact ⟨0, Nat.zero_le _, rfl, by simp [numB, setB_nil, setRow_self w g cur T _ hb]⟩
  case round =>
    obtain ⟨k, hk, rfl, hwr⟩ := hrel
    by_cases hlt : k < size
    · have hsz : off + at_ + ((numB n k).map bv).length ≤ cur.size := by simp [numB_length]; omega
      have hg : wr.heap[g]? = some (.cells (setB cur (off + at_) ((numB n k).map bv)) T (0, 0)) := by rw [hwr]; exact setRow_heap w g cur _ T _ hb
      have hi : off + (at_ + k) < (setB cur (off + at_) ((numB n k).map bv)).size := by rw [setB_size _ _ _ hsz]; omega
      have hcell : wr.cell? ⟨g, off + (at_ + k), none⟩ = some (setB cur (off + at_) ((numB n k).map bv))[off + (at_ + k)] := by
        rw [cell_of_row wr g _ _ _ _ hg]; exact Array.getElem?_eq_getElem hi
      have hfr : wr.frozen? ⟨g, off + (at_ + k), none⟩ = false := frozen_of_row wr g _ _ T hg
      have hnext : wr.setCell ⟨g, off + (at_ + k), none⟩ (.int .u8 ((n : Int) / 2 ^ (8 * k) % 256)) = w.setRow g (setB cur (off + at_) ((numB n (k + 1)).map bv)) := by
        rw [setCell_eq_setRow wr g _ _ T _ _ hg, hwr, setRow_setRow]
        congr 1
        have h1 := setB_snoc cur (off + at_) ((numB n k).map bv) (.int .u8 ((n : Int) / 2 ^ (8 * k) % 256)) (by simp [numB_length]; omega)
        rw [show off + (at_ + k) = off + at_ + ((numB n k).map bv).length from by simp [numB_length]; omega, h1, numB_succ, List.map_append]
        congr 2
        simp only [List.map_cons, List.map_nil, bv, ofNat_mod]
        rfl
      have HN := Hidden.mk hnext
      clear hnext hg hwr hsz
      generalize (setB cur (off + at_) ((numB n k).map bv))[off + (at_ + k)] = u at hcell
      clear hi
      go_wp2
      go_roundw
      case rel => exact ⟨k + 1, by omega, by go_num, HN.out⟩
      case measure => simp [intOf]; omega
    · obtain rfl : k = size := by omega
      subst hwr
      go_wp2
      go_end0
      exact ⟨rfl, rfl⟩
end Go.Proofs.YtnceheienlekaaaDoor
/- The contracts of num.Get, slices.Clone and num.Put. -/
namespace Go.Proofs.YtnceheienlekaaaDoor
open Go.RowKit

/-- an error of the program: nil, or a number of api.Errno -/
def errV (n : Nat) : Value := if n = 0 then .nilIface else .iface 85 (.int .i64 n)
def getE (n : Nat) (at_ size : Int) : Nat := if 1 ≤ size ∧ size ≤ 4 then (if at_ < 0 ∨ (n : Int) - size < at_ then 3 else 0) else 1
def getN (l : Bytes) (at_ size : Int) : Nat := ofB ((l.drop at_.toNat).take size.toNat)

theorem byte_info : (Tryd.prog.info? 5).map (fun i => (i.zero, i.size, i.bytes)) = some (some (.int .u8 0), 1, 1) := by kernel_rfl

/-- slices.Clone of bytes: nil stays nil, else the call's own -/
theorem clone_nil (n c : Nat) (w : World) : Calls Tryd.prog 60 #[.slice none n c] w fun e w' => e = .returned (.slice none 0 0) ∧ w = w' := by
  have he := fun W => Lib.run_eql_slice_nil (P := Tryd.prog) W 41 5 none n c 0 0 Tryd.underlying41
  go_enter Tryd.func60, Tryd.ntmps60
  go_wp2
  go_ret
  exact ⟨rfl, rfl⟩
theorem clone_some (ad : Addr) (n c : Nat) (l : Bytes) (w : World) (hn : l.length = n) (hl : n ≤ 140737488351232) (hr : Rd w (some ad) l) :
    Calls Tryd.prog 60 #[.slice (some ad) n c] w fun e w' => ∃ g cap, e = .returned (.slice (some ⟨g, 0, none⟩) n cap) ∧ w.heap.size ≤ g ∧ Row w' 5 g cap l ∧ Below w.heap.size w w' := by
  subst hn
  have he := fun W => Lib.run_eql_slice_nil (P := Tryd.prog) W 41 5 (some ad) l.length c 0 0 Tryd.underlying41
  obtain ⟨i0, hi0, hz0, hz1, hz2⟩ := info_parts byte_info
  go_enter Tryd.func60, Tryd.ntmps60
  have hown := World.ownsRow_lit (base := w.heap.size) (e := 5) (size := 1) w #[] 0 (Nat.le_refl _) (by simp) rfl
  have hr1 : Rd (w.alloc (.cells #[] 5)) (some ad) l := hr.below ((Below.refl _ _).alloc (Nat.le_refl _) _)
  go_wp2_with (at_builtin; refine wpList_append_own _ rfl (.tmp 5) (.tmp 6) _ rfl w.heap.size 5 i0 _ 1 1 Tryd.underlying41 hi0 hz0 hz1 hz2 rfl (by decide) (.slice (some ⟨w.heap.size, 0, none⟩) 0 0) 0 [] rfl hown ad l.length c (l.map bv) rfl (by simp) hr1.cells one_bv (by simp only [maxLen]; omega) (by omega) (by simp) ?_; intro v1 w1 hown1 hg1 hnn)
  go_ret
  have hnn' : v1 ≠ .slice none 0 0 := fun h => by have := hnn.1 h; simp at this
  obtain ⟨g, cap, rfl, hbg, hrow⟩ := Row.of_own (l := l) (by simpa [Own] using hown1) hnn'
  refine ⟨g, cap, rfl, hbg, hrow, ?_⟩
  · exact ((Below.refl _ _).alloc (Nat.le_refl _) _).grown hg1 (by simp) (fun k hk => by simp [Value.ownBlock] at hk; omega)

def putE (n : Nat) (at_ x size : Int) : Nat := if 1 ≤ size ∧ size ≤ 4 ∧ 0 ≤ x ∧ x ≤ mostN size then (if at_ < 0 ∨ (n : Int) - size < at_ then 3 else 0) else 1
def putB (l : Bytes) (at_ x size : Int) : Bytes := splice l at_.toNat (numB x.toNat size.toNat)
theorem isNil_err (n : Nat) : errV (n + 1) ≠ .nilIface := by simp [errV]
end Go.Proofs.YtnceheienlekaaaDoor
/- Is an error nil? As equations, for a walk. -/
namespace Go.Proofs.YtnceheienlekaaaDoor
open Go.RowKit

/-- is an error nil? -/
def ErrIs (err : Value) (b : Bool) : Prop := (∀ (W : World) (x : Operand), (eqGuard .eql 27 x (.const .nilIface) err .nilIface).run Tryd.prog W = .ok () W) ∧ (∀ (W : World) (x : Operand), (eqGuard .neq 27 x (.const .nilIface) err .nilIface).run Tryd.prog W = .ok () W) ∧ (∀ W : World, (binOp .eql 27 err .nilIface).run Tryd.prog W = .ok (.bool b) W) ∧ (∀ W : World, (binOp .neq 27 err .nilIface).run Tryd.prog W = .ok (.bool (!b)) W)
theorem errIs_nil : ErrIs .nilIface true := ⟨fun W x => by go_simp, fun W x => by go_simp, fun W => by go_simp, fun W => by go_simp⟩
theorem errIs_some (k : Int) : ErrIs (.iface 85 (.int .i64 k)) false := ⟨fun W x => by go_simp, fun W x => by go_simp, fun W => by go_simp, fun W => by go_simp⟩
theorem errIs_errV (k : Nat) : ErrIs (errV k) (k == 0) := by
  by_cases h : k = 0
  · subst h; exact errIs_nil
  · have : (k == 0) = false := by simpa using h
    rw [this]
    unfold errV
    rw [if_neg h]
    exact errIs_some k
end Go.Proofs.YtnceheienlekaaaDoor
/- Runs of make and copy over bytes, as equations for a walk. -/
namespace Go.Proofs.YtnceheienlekaaaDoor
open Go.RowKit

/-- so many zeros, as cells -/
def zeroRow (n : Nat) : Array Value := Array.replicate n (.int .u8 0)
theorem zeroRow_size (n : Nat) : (zeroRow n).size = n := by simp [zeroRow]
theorem zeroRow_list (n : Nat) : (zeroRow n).toList = (List.replicate n (0 : UInt8)).map bv := by simp [zeroRow]
/-- make([]byte, n) -/
theorem mk_bytes (z : Int) (n : Nat) (hz : z = n) (hn : n ≤ 281474976710656) (w : World) :
    (Instr.makeSlice 41 (.int .i64 z) (.int .i64 z)).run Tryd.prog w = .ok (.slice (some ⟨w.heap.size, 0, none⟩) n n) (w.alloc (.cells (zeroRow n) 5)) := by
  subst hz
  obtain ⟨i0, hi0, hz0, hz1, hz2⟩ := info_parts byte_info
  have hr := run_make (P := Tryd.prog) w 41 5 i0 _ Tryd.underlying41 hi0 hz0 .i64 .i64 n n (by omega) (by omega) (by rw [hz2]; omega) (by omega)
  simp only [Int.toNat_natCast, hz1, Nat.mul_one] at hr
  have hcells : madeCells (Value.int IntKind.u8 0).cells n = zeroRow n := by
    apply Array.ext'
    rw [show (Value.int IntKind.u8 0).cells = #[Value.int IntKind.u8 0] from rfl, toList_madeCells_one, zeroRow]
    simp
  rw [hcells] at hr
  exact hr
theorem row_zeros (w : World) (n : Nat) (hn : n ≤ maxLen) : Row (w.alloc (.cells (zeroRow n) 5)) 5 w.heap.size n (List.replicate n 0) :=
  ⟨_, heap_alloc_new w _, by simp, hn, zeroRow_size n, by rw [List.take_of_length_le (by rw [Array.length_toList, zeroRow_size]; simp), zeroRow_list]⟩

/-- copy of a text into a row -/
theorem run_copy_text (w : World) (g o dLen dCap k : Nat) (l : Bytes) (cur : Array Value) (T : Nat) (hg : w.heap[g]? = some (.cells cur T (0, 0))) (hk : k = Nat.min l.length dLen) (hfit : o + k ≤ cur.size) (ty : TypeId) :
    (Builtin.copy_ #[41, 9] ty #[.slice (some ⟨g, o, none⟩) dLen dCap, .string ⟨l.toArray⟩]).run Tryd.prog w = .ok (.int .i64 (k : Int)) (w.setRow g (setB cur o ((l.take k).map bv))) := by
  obtain ⟨i0, hi0, hz0, hz1, hz2⟩ := info_parts byte_info
  have hkl : k ≤ l.length := by rw [hk]; exact Nat.min_le_left _ _
  have hlen : ((l.take k).map bv).length = k := by simp; omega
  have hst := run_storeCells_at Tryd.prog g o T ((l.take k).map bv) 0 cur w hg (by rw [hlen]; simpa using hfit) one_bv
  have hsz : (⟨l.toArray⟩ : ByteArray).size = l.length := by simp [ByteArray.size]
  generalize hcs : (l.take k).map bv = cs at hst hlen ⊢
  subst hlen
  have hcs2 : List.take cs.length (List.map (fun b => Value.int IntKind.u8 (b.toNat : Int)) l) = cs := by rw [← List.map_take]; exact hcs
  simp only [Nat.add_zero] at hst
  simp [Builtin.copy_, run_underlying Tryd.underlying41, Builtin.lenOf, Builtin.firstCells, sizeOf, typeInfo, hi0, hsz, ← hk, goInt, setB, splice]
  rw [hcs2, hst]
  simp
/-- copy of bytes into a row -/
theorem run_copy_rd (w : World) (g o dLen dCap n c k : Nat) (A : Option Addr) (l : Bytes) (cur : Array Value) (T : Nat) (hg : w.heap[g]? = some (.cells cur T (0, 0))) (hn : l.length = n) (hr : Rd w A l)
    (hk : k = Nat.min n dLen) (hfit : o + k ≤ cur.size) (ty : TypeId) :
    (Builtin.copy_ #[41, 41] ty #[.slice (some ⟨g, o, none⟩) dLen dCap, .slice A n c]).run Tryd.prog w = .ok (.int .i64 (k : Int)) (w.setRow g (setB cur o ((l.take k).map bv))) := by
  subst hn
  obtain ⟨i0, hi0, hz0, hz1, hz2⟩ := info_parts byte_info
  have hkl : k ≤ l.length := by rw [hk]; exact Nat.min_le_left _ _
  have hlen : ((l.take k).map bv).length = k := by simp; omega
  rcases A with _ | ad
  · have h0 : l = [] := by
      cases l with
      | nil => rfl
      | cons x r => obtain ⟨b, off, h, _⟩ := hr 0 (by simp); cases h
    subst h0
    have hk0 : k = 0 := by simp at hkl; exact hkl
    subst hk0
    simp only [List.take_nil, List.map_nil, setB_nil, setRow_self w g cur T _ hg]
    simp [Builtin.copy_, run_underlying Tryd.underlying41, Builtin.lenOf, Builtin.firstCells, sizeOf, typeInfo, hi0, goInt, storeCells]
  · have hr2 := run_copy_row (P := Tryd.prog) w 41 41 ty 5 g o dLen dCap ad l.length c cur T ((l.take k).map bv) Tryd.underlying41 (by rw [hi0]; simp [hz1]) hg (by rw [hlen, hk])
      (fun j v hj => (hr.take k hkl).cells j v hj) (by rw [hlen]; exact hfit) one_bv
    have he : ∀ X : List Value, (cur.toList.take o ++ X ++ cur.toList.drop (o + X.length)).toArray = setB cur o X := fun X => by simp [setB, splice]
    rw [he] at hr2
    rw [hr2, hlen]
    rfl
/-- s[i:k] of bytes -/
theorem run_cut (p off n c i k : Nat) (hik : i ≤ k) (hkc : k ≤ c) (hlt : i < c) (W : World) :
    (Instr.sliceAt 41 (.slice (some ⟨p, off, none⟩) n c) (some (.int .i64 i)) (some (.int .i64 k)) none).run Tryd.prog W = .ok (.slice (some ⟨p, off + i, none⟩) (k - i) (c - i)) W := by
  obtain ⟨i0, hi0, hz0, hz1, hz2⟩ := info_parts byte_info
  have h3 : ¬ c = i := by omega
  simp [Instr.sliceAt, Instr.slice, Instr.sliceBounds, Instr.sliceBound, run_underlying Tryd.underlying41, asIntOf, sizeOf, typeInfo, hi0, hz1, hik, hkc, h3, Addr.add_lit]
end Go.Proofs.YtnceheienlekaaaDoor
/- The contract of num.Same. -/
namespace Go.Proofs.YtnceheienlekaaaDoor
open Go.RowKit

/-- at how many places, from the first on, two lists are the same -/
def sameL : Bytes → Bytes → Nat
  | x :: a, y :: b => if x = y then sameL a b + 1 else 0
  | _, _ => 0
theorem sameL_le (a b : Bytes) : sameL a b ≤ a.length ∧ sameL a b ≤ b.length := by
  induction a generalizing b with
  | nil => simp [sameL]
  | cons x a ih =>
    cases b with
    | nil => simp [sameL]
    | cons y b =>
      simp only [sameL]
      have := ih b
      split <;> simp <;> omega
theorem sameL_at (k : Nat) : ∀ (a b : Bytes), a.take k = b.take k → k ≤ a.length → k ≤ b.length → (k = a.length ∨ k = b.length ∨ a[k]? ≠ b[k]?) → sameL a b = k := by
  induction k with
  | zero =>
    intro a b _ _ _ h
    cases a with
    | nil => simp [sameL]
    | cons x a =>
      cases b with
      | nil => simp [sameL]
      | cons y b => simp at h; simp [sameL, h]
  | succ k ih =>
    intro a b ht ha hb h
    cases a with
    | nil => simp at ha
    | cons x a =>
      cases b with
      | nil => simp at hb
      | cons y b =>
        simp only [List.take_succ_cons, List.cons.injEq] at ht
        have := ih a b ht.2 (by simpa using ha) (by simpa using hb) (by simpa using h)
        simp [sameL, ht.1, this]

end Go.Proofs.YtnceheienlekaaaDoor
/- Contracts over strings and bytes: slices.IndexFunc and ContainsFunc at whatever pure predicate. -/
namespace Go.Proofs.YtnceheienlekaaaDoor
open Go.RowKit

/-- function F answers as p, of whatever byte, and leaves the world alone -/
def Pred (F : FuncId) (p : UInt8 → Bool) : Prop := ∀ (x : UInt8) (w : World), Calls Tryd.prog F #[bv x] w fun e w' => e = .returned (.bool (p x)) ∧ w = w'

def idxP (p : UInt8 → Bool) (l : Bytes) : Int := match l.findIdx? p with | some k => k | none => -1
theorem idxP_at (p : UInt8 → Bool) (l : Bytes) (k : Nat) (hk : k < l.length) (hn : ∀ x ∈ l.take k, p x = false) (he : p l[k] = true) : idxP p l = k := by
  have : l.findIdx? p = some k := by
    rw [List.findIdx?_eq_some_iff_getElem]
    refine ⟨hk, he, fun j hj => ?_⟩
    have := hn l[j] (by rw [List.mem_take_iff_getElem]; exact ⟨j, by omega, rfl⟩)
    simpa using this
  unfold idxP; rw [this]
theorem idxP_none (p : UInt8 → Bool) (l : Bytes) (hn : ∀ x ∈ l, p x = false) : idxP p l = -1 := by
  have : l.findIdx? p = none := by rw [List.findIdx?_eq_none_iff]; exact hn
  unfold idxP; rw [this]
theorem idxP_any (p : UInt8 → Bool) (l : Bytes) : decide (0 ≤ idxP p l) = l.any p := by
  unfold idxP
  cases h : l.findIdx? p with
  | none =>
    rw [List.findIdx?_eq_none_iff] at h
    simp only [Int.reduceNeg, Int.reduceLE, decide_false]
    symm
    simpa using h
  | some k =>
    rw [List.findIdx?_eq_some_iff_getElem] at h
    obtain ⟨hk, he, _⟩ := h
    have : l.any p = true := List.any_eq_true.2 ⟨l[k], List.getElem_mem hk, he⟩
    rw [this]
    simp
theorem forall_take_succ {p : UInt8 → Bool} {l : Bytes} {k : Nat} (hk : k < l.length) (hn : ∀ x ∈ l.take k, p x = false) (he : p l[k] = false) : ∀ x ∈ l.take (k + 1), p x = false := by
  rw [List.take_succ_eq_append_getElem hk]
  intro x hx
  rw [List.mem_append, List.mem_singleton] at hx
  rcases hx with hx | rfl
  · exact hn x hx
  · exact he

theorem ret_bool {a b : Bool} (h : a = b) : Ending.returned (.bool a) = .returned (.bool b) := by rw [h]
def notLower (c : UInt8) : Bool := decide (c.toNat < 97) || decide (122 < c.toNat)
def nonZero (c : UInt8) : Bool := c != 0
theorem bv_bne (x : UInt8) : ((x.toNat : Int) != 0) = nonZero x := by
  unfold nonZero
  have := bv_beq x 0
  simp only [bne, ← this]; rfl
end Go.Proofs.YtnceheienlekaaaDoor
/- The contracts of num.name, PutName, GetName. -/
namespace Go.Proofs.YtnceheienlekaaaDoor
open Go.RowKit

def isName (l : Bytes) : Bool := !l.isEmpty && decide (l.length ≤ 8) && !l.any notLower

/-- a text as bytes: a new block -/
theorem conv_bytes (w : World) (l : Bytes) : ∃ cap W', (convert 9 41 (sv l)).run Tryd.prog w = .ok (.slice (some ⟨w.heap.size, 0, none⟩) l.length cap) W' ∧
    l.length ≤ cap ∧ Rd W' (some ⟨w.heap.size, 0, none⟩) l ∧ Below w.heap.size w W' := by
  refine ⟨_, _, Lib.run_convert_string_bytes w 9 41 5 ⟨l.toArray⟩ Tryd.underlying9 Tryd.underlying41 Tryd.underlying5, ?_, ?_, ?_⟩
  · exact grownCap_ge _ _ _ _
  · intro j hj
    refine ⟨_, 0, rfl, ?_⟩
    rw [Nat.zero_add, Lib.bytesWorld_cell w 5 ⟨l.toArray⟩ j hj]
    simp [hj]
  · exact ⟨rfl, rfl, rfl, by rw [Lib.bytesWorld_size]; omega, fun k hk => Lib.bytesWorld_at_old w _ ⟨l.toArray⟩ k hk⟩

theorem splice_zeros (n : Nat) (l : Bytes) : splice (List.replicate n 0) 0 l = l ++ List.replicate (n - l.length) 0 := by
  simp only [splice, List.take_zero, List.nil_append, Nat.zero_add, List.drop_replicate]
/-- the bytes of a name: zeros behind it -/
def nameB (l : Bytes) : Bytes := l ++ List.replicate (8 - l.length) 0

end Go.Proofs.YtnceheienlekaaaDoor
/- Contracts of package image: the small ones, and New. -/
namespace Go.Proofs.YtnceheienlekaaaDoor
open Go.RowKit

def rightB (n : Int) : Bool := decide (288 ≤ n) && decide (n ≤ 6400)
theorem rightB_true {n : Int} : rightB n = true ↔ 288 ≤ n ∧ n ≤ 6400 := by simp [rightB]
theorem rightB_false {n : Int} : rightB n = false ↔ n < 288 ∨ 6400 < n := by simp [rightB]; omega
def handleB (n : Int) : Bool := decide (1 ≤ n) && decide (n ≤ 40)
theorem handleB_true {n : Int} : handleB n = true ↔ 1 ≤ n ∧ n ≤ 40 := by simp [handleB]
theorem handleB_false {n : Int} : handleB n = false ↔ n < 1 ∨ 40 < n := by simp [handleB]; omega
def tagB (n : Int) : Bool := decide (0 ≤ n) && decide (n ≤ 15)
theorem tagB_true {n : Int} : tagB n = true ↔ 0 ≤ n ∧ n ≤ 15 := by simp [tagB]
theorem tagB_false {n : Int} : tagB n = false ↔ n < 0 ∨ 15 < n := by simp [tagB]; omega
def lenB (n : Int) : Bool := decide (1 ≤ n) && decide (n ≤ 1000)
theorem lenB_true {n : Int} : lenB n = true ↔ 1 ≤ n ∧ n ≤ 1000 := by simp [lenB]
theorem lenB_false {n : Int} : lenB n = false ↔ n < 1 ∨ 1000 < n := by simp [lenB]; omega
def withinB (n at_ len : Int) : Bool := decide (288 ≤ at_) && decide (len ≤ n) && decide (at_ ≤ n - len)
theorem withinB_true {n a l : Int} : withinB n a l = true ↔ 288 ≤ a ∧ l ≤ n ∧ a ≤ n - l := by simp [withinB, and_assoc]
end Go.Proofs.YtnceheienlekaaaDoor
/- The contract of image.Put. -/
namespace Go.Proofs.YtnceheienlekaaaDoor
open Go.RowKit

theorem splice_join (l x y : Bytes) (o : Nat) (h : o + x.length + y.length ≤ l.length) : splice (splice l o x) (o + x.length) y = splice l o (x ++ y) := by
  unfold splice
  have h1 : (l.take o).length = o := by simp; omega
  rw [List.take_append, h1, List.take_of_length_le (by omega), List.take_append, show o + x.length - o = x.length from by omega, List.take_of_length_le (Nat.le_refl _), Nat.sub_self, List.take_zero, List.append_nil]
  rw [List.drop_append, h1, List.drop_of_length_le (by omega), List.nil_append, List.drop_append, List.drop_of_length_le (by omega), List.nil_append, List.drop_drop]
  simp only [List.append_assoc, List.length_append]
  congr 4
  omega
/-- the five bytes of an entry -/
def entB (at_ len tag : Nat) : Bytes := UInt8.ofNat (tag + 1) :: (numB at_ 2 ++ numB len 2)
theorem entB_len (at_ len tag : Nat) : (entB at_ len tag).length = 5 := by simp [entB, numB_length]
def entO (h : Int) : Nat := (5 * (h - 1)).toNat

/-- an entry as a value -/
abbrev entV (h at_ len tag : Int) : Value := .agg #[.int .i64 h, .int .i64 at_, .int .i64 len, .int .i64 tag]
/-- a block of an entry's four cells -/
structure EntAt (w : World) (p : Nat) (h at_ len tag : Int) : Prop where
  c0 : w.cell? ⟨p, 0, none⟩ = some (.int .i64 h)
  c1 : w.cell? ⟨p, 1, none⟩ = some (.int .i64 at_)
  c2 : w.cell? ⟨p, 2, none⟩ = some (.int .i64 len)
  c3 : w.cell? ⟨p, 3, none⟩ = some (.int .i64 tag)
theorem EntAt.new (w : World) (h at_ len tag : Int) (t : TypeId) : EntAt (w.alloc (.cells #[.int .i64 h, .int .i64 at_, .int .i64 len, .int .i64 tag] t)) w.heap.size h at_ len tag :=
  ⟨World.cell?_alloc_mark w _ t (0, 0) 0, World.cell?_alloc_mark w _ t (0, 0) 1, World.cell?_alloc_mark w _ t (0, 0) 2, World.cell?_alloc_mark w _ t (0, 0) 3⟩
theorem EntAt.keep {w w' : World} {p : Nat} {h at_ len tag : Int} (e : EntAt w p h at_ len tag) (hk : w'.heap[p]? = w.heap[p]?) : EntAt w' p h at_ len tag :=
  ⟨(World.cell?_of_block (w := w) hk).trans e.c0, (World.cell?_of_block (w := w) hk).trans e.c1, (World.cell?_of_block (w := w) hk).trans e.c2, (World.cell?_of_block (w := w) hk).trans e.c3⟩

/-- an image with an entry -/
def putEnt (l : Bytes) (h at_ len tag : Int) : Bytes := splice l (entO h) (entB at_.toNat len.toNat tag.toNat)
theorem putEnt_len (l : Bytes) (h at_ len tag : Int) (h1 : 1 ≤ h) (h2 : h ≤ 40) (hl : 200 ≤ l.length) : (putEnt l h at_ len tag).length = l.length := by
  unfold putEnt; refine splice_len _ _ _ ?_; rw [entB_len]; unfold entO; omega

/-- what Put answers, whatever it is handed -/
def PutAns (w w' : World) (n : Nat) (l : Bytes) (h at_ len tag : Int) (v err : Value) : Prop :=
  (∃ k, err = .iface 85 (.int .i64 k)) ∨
  (err = .nilIface ∧ handleB h = true ∧ tagB tag = true ∧ lenB len = true ∧ withinB n at_ len = true ∧ ∃ g cap, v = .slice (some ⟨g, 0, none⟩) n cap ∧ w.heap.size ≤ g ∧ Row w' 5 g cap (putEnt l h at_ len tag))
theorem PutAns.isNil {w w' : World} {n : Nat} {l : Bytes} {h at_ len tag : Int} {v err : Value} (a : PutAns w w' n l h at_ len tag v err) : ∃ b, ErrIs err b ∧
    (b = true → handleB h = true ∧ tagB tag = true ∧ lenB len = true ∧ withinB n at_ len = true ∧ ∃ g cap, v = .slice (some ⟨g, 0, none⟩) n cap ∧ w.heap.size ≤ g ∧ Row w' 5 g cap (putEnt l h at_ len tag)) := by
  rcases a with ⟨k, rfl⟩ | ⟨rfl, h1⟩
  · exact ⟨false, errIs_some k, fun h => by cases h⟩
  · exact ⟨true, errIs_nil, fun _ => h1⟩
end Go.Proofs.YtnceheienlekaaaDoor
/- The contract of num.GetName. -/
namespace Go.Proofs.YtnceheienlekaaaDoor
open Go.RowKit

/-- bytes as a text -/
theorem conv_text (w : World) (A : Option Addr) (n c : Nat) (l : Bytes) (hn : l.length = n) (hr : Rd w A l) : (convert 41 9 (.slice A n c)).run Tryd.prog w = .ok (sv l) w := by
  subst hn
  rcases A with _ | ad
  · have h0 : l = [] := by
      cases l with
      | nil => rfl
      | cons x r => obtain ⟨b, off, h, _⟩ := hr 0 (by simp); cases h
    subst h0
    have he := Tryd.underlying5
    simp [convert, run_underlying Tryd.underlying41, run_underlying Tryd.underlying9, run_underlying he, Conv.bytesToString]
    rfl
  · exact run_convert_bytes_back w _ _ _ ad c l Tryd.underlying41 Tryd.underlying5 Tryd.underlying9 (fun j hj => by
      have := hr.cells j (bv l[j]) (by simp [hj])
      exact this)

def nameAt (l : Bytes) : Bytes := l.take (l.idxOf 0)
def nameRest (l : Bytes) : Bytes := l.drop (l.idxOf 0)
def gotName (l : Bytes) : Bool := isName (nameAt l) && !(nameRest l).any nonZero

end Go.Proofs.YtnceheienlekaaaDoor
/- NumLow: plain facts on numbers as bytes; the contract of pow. -/
namespace Go.Proofs.YtnceheienlekaaaDoor
open Go.RowKit

theorem ofB_append (a b : Bytes) : ofB (a ++ b) = ofB a + 2 ^ (8 * a.length) * ofB b := by
  induction a with
  | nil => simp [ofB]
  | cons d a ih =>
    simp only [List.cons_append, ofB, ih, List.length_cons]
    rw [show 8 * (a.length + 1) = 8 * a.length + 8 from by omega, Nat.pow_add, Nat.mul_add, Nat.add_assoc]
    congr 2
    rw [← Nat.mul_assoc, Nat.mul_comm 256, show 2 ^ 8 = 256 from rfl]
theorem ofB_numB (n s : Nat) : ofB (numB n s) = n % 2 ^ (8 * s) := by
  induction s generalizing n with
  | zero => simp [numB, ofB, Nat.mod_one]
  | succ s ih =>
    simp only [numB, ofB, ofNat_mod, ih]
    rw [show 8 * (s + 1) = 8 + 8 * s from by omega, Nat.pow_add, show 2 ^ 8 = 256 from rfl, Nat.mod_mul]
theorem numB_take (n s i : Nat) (h : i ≤ s) : (numB n s).take i = numB n i := by
  induction s generalizing n i with
  | zero => have : i = 0 := by omega
            subst this; rfl
  | succ s ih =>
    cases i with
    | zero => simp [numB]
    | succ i => simp only [numB, List.take_succ_cons]; rw [ih _ _ (by omega)]
theorem splice_mid (l bs : Bytes) (i : Nat) (s : Nat) (h : i + bs.length ≤ l.length) (hs : s ≤ bs.length) : ((splice l i bs).drop i).take s = bs.take s := by
  unfold splice
  have hl : (l.take i).length = i := by simp; omega
  rw [List.drop_append_of_le_length (by omega), List.drop_of_length_le (by omega), List.nil_append, List.take_append_of_le_length hs]
/-- what was put is got, in as many bytes or in fewer -/
theorem getN_putB (l : Bytes) (a x s i : Nat) (h : a + s ≤ l.length) (hi : i ≤ s) : getN (putB l a x s) a i = x % 2 ^ (8 * i) := by
  unfold getN putB
  simp only [Int.toNat_natCast]
  rw [splice_mid _ _ _ _ (by rw [numB_length]; omega) (by rw [numB_length]; omega), numB_take _ _ _ hi, ofB_numB]
theorem mostN_val (s : Nat) (h1 : 1 ≤ s) (h4 : s ≤ 4) : mostN s = ((2 ^ (8 * s) - 1 : Nat) : Int) := by
  have : s = 1 ∨ s = 2 ∨ s = 3 ∨ s = 4 := by omega
  rcases this with rfl | rfl | rfl | rfl <;> simp [mostN]
theorem mod_most (x s : Nat) (h1 : 1 ≤ s) (h4 : s ≤ 4) (hx : (x : Int) ≤ mostN s) : x % 2 ^ (8 * s) = x := by
  rw [mostN_val s h1 h4] at hx
  have : 0 < 2 ^ (8 * s) := Nat.pow_pos (by omega)
  exact Nat.mod_eq_of_lt (by omega)
theorem putB_len (l : Bytes) (a x s : Nat) (h : a + s ≤ l.length) : (putB l a x s).length = l.length := by
  unfold putB; simp only [Int.toNat_natCast]; exact splice_len _ _ _ (by rw [numB_length]; omega)
theorem putB_len' (l : Bytes) (a x s : Int) (hs : 1 ≤ s) (h0 : 0 ≤ a) (h : a + s ≤ l.length) : (putB l a x s).length = l.length := by
  unfold putB; exact splice_len _ _ _ (by rw [numB_length]; omega)
theorem splice_far (l bs : Bytes) (o i s : Nat) (h : o + bs.length ≤ l.length) (hd : i + s ≤ o ∨ o + bs.length ≤ i) : ((splice l o bs).drop i).take s = (l.drop i).take s := by
  apply List.ext_getElem?
  intro j
  rw [List.getElem?_take, List.getElem?_take]
  by_cases hj : j < s
  · rw [if_pos hj, if_pos hj, List.getElem?_drop, List.getElem?_drop]
    unfold splice
    have hl : (l.take o).length = o := by simp; omega
    by_cases h1 : i + j < o
    · rw [List.getElem?_append_left (by omega), List.getElem?_take, if_pos h1]
    · rw [List.getElem?_append_right (by omega), hl, List.getElem?_append_right (by omega), List.getElem?_drop]
      congr 1; omega
  · rw [if_neg hj, if_neg hj]
theorem getN_far (l : Bytes) (a s o : Nat) (ho : o + 1 ≤ l.length) (hd : o < a ∨ a + s ≤ o) : getN (putB l o (0 : Nat) (1 : Nat)) a s = getN l a s := by
  unfold getN putB
  simp only [Int.toNat_natCast]
  rw [splice_far _ _ _ _ _ (by rw [numB_length]; omega) (by rw [numB_length]; omega)]
theorem sameL_take (k : Nat) : ∀ (a b : Bytes), a.take k = b.take k → k ≤ a.length → k ≤ b.length → k ≤ sameL a b := by
  induction k with
  | zero => intros; omega
  | succ k ih =>
    intro a b ht ha hb
    cases a with
    | nil => simp at ha
    | cons x a =>
      cases b with
      | nil => simp at hb
      | cons y b =>
        simp only [List.take_succ_cons, List.cons.injEq] at ht
        have := ih a b ht.2 (by simpa using ha) (by simpa using hb)
        simp only [sameL, if_pos ht.1]
        omega
theorem sameL_put (l : Bytes) (o : Nat) (h : o + 1 ≤ l.length) : o ≤ sameL l (putB l o (0 : Nat) (1 : Nat)) := by
  refine sameL_take o _ _ ?_ (by omega) (by rw [putB_len _ _ _ _ h]; omega)
  unfold putB splice
  simp only [Int.toNat_natCast]
  have hl : (l.take o).length = o := by simp; omega
  rw [List.take_append_of_le_length (by omega), List.take_take, Nat.min_self]

end Go.Proofs.YtnceheienlekaaaDoor
/- NumBack: the walk. -/
namespace Go.Proofs.YtnceheienlekaaaDoor
open Go.RowKit

theorem two_row (w : World) : Row (w.alloc (.cells #[.int .u8 1, .int .u8 2] 5)) 5 w.heap.size 2 [1, 2] :=
  ⟨_, heap_alloc_new w _, by simp, by simp [maxLen], by simp, rfl⟩
theorem two_get : getN [1, 2] 0 2 = 513 := by decide
theorem putB_take (l : Bytes) (a x s : Nat) (h : a + s ≤ l.length) : (putB l a x s).take a = l.take a := by
  unfold putB splice
  simp only [Int.toNat_natCast]
  rw [List.take_append_of_le_length (by simp; omega), List.take_take, Nat.min_self]
theorem putB_drop (l : Bytes) (a x s : Nat) (h : a + s ≤ l.length) : (putB l a x s).drop (a + s) = l.drop (a + s) := by
  unfold putB splice
  simp only [Int.toNat_natCast, numB_length]
  rw [← List.append_assoc, List.drop_append_of_le_length (by simp [numB_length]; omega), List.drop_of_length_le (by simp [numB_length]; omega), List.nil_append]
theorem nameB_len (s : Bytes) (h : isName s = true) : (nameB s).length = 8 := by
  have h8 : s.length ≤ 8 := by simp [isName] at h; omega
  simp [nameB]; omega
theorem nameB_back (s : Bytes) (h : isName s = true) : gotName (nameB s) = true ∧ nameAt (nameB s) = s := by
  have h8 : s.length ≤ 8 := by simp [isName] at h; omega
  have hz : (0 : UInt8) ∉ s := by
    intro h0
    simp only [isName, Bool.and_eq_true, Bool.not_eq_true', List.any_eq_false] at h
    exact h.2 0 h0 (by decide)
  have hi : (nameB s).idxOf 0 = s.length := by
    unfold nameB
    rw [List.idxOf_append, if_neg hz]
    rcases Nat.lt_or_ge s.length 8 with hlt | hge
    · obtain ⟨m, hm⟩ : ∃ m, 8 - s.length = m + 1 := ⟨7 - s.length, by omega⟩
      rw [hm, List.replicate_succ]
      simp
    · have : 8 - s.length = 0 := by omega
      simp [this]
  have h1 : nameAt (nameB s) = s := by unfold nameAt; rw [hi]; simp [nameB]
  have h2 : nameRest (nameB s) = List.replicate (8 - s.length) 0 := by unfold nameRest; rw [hi]; simp [nameB]
  refine ⟨?_, h1⟩
  unfold gotName
  rw [h1, h2, h]
  simp [nonZero]

end Go.Proofs.YtnceheienlekaaaDoor
/- The contracts of stamp.Make and bytes.Equal. -/
namespace Go.Proofs.YtnceheienlekaaaDoor
open Go.RowKit

/-- a sector of a stamp and a body -/
def makeB (st : Nat) (b : Bytes) : Bytes := numB st 4 ++ (b ++ List.replicate (24 - b.length) 0) ++ numB st 4
theorem makeB_len (st : Nat) (b : Bytes) (h : b.length ≤ 24) : (makeB st b).length = 32 := by simp [makeB, numB_length]; omega
theorem splice_app (a b c d : Bytes) (h : b.length = d.length) : splice (a ++ (b ++ c)) a.length d = a ++ (d ++ c) := by
  simp only [splice, List.take_left, ← h]
  rw [← List.append_assoc a b c, ← List.length_append, List.drop_left]
theorem makeB_steps (st : Nat) (b : Bytes) (h : b.length ≤ 24) : splice (splice (splice (List.replicate 32 0) 0 (numB st 4)) 4 b) 28 (numB st 4) = makeB st b := by
  have hl := numB_length st 4
  rw [splice_zeros, hl, show 32 - 4 = b.length + ((24 - b.length) + 4) from by omega, ← List.replicate_append_replicate]
  have e1 := splice_app (numB st 4) (List.replicate b.length 0) (List.replicate ((24 - b.length) + 4) 0) b (by simp)
  rw [hl] at e1
  rw [e1, ← List.replicate_append_replicate]
  have e2 := splice_app (numB st 4 ++ (b ++ List.replicate (24 - b.length) 0)) (List.replicate 4 0) [] (numB st 4) (by simp [hl])
  have hlen : (numB st 4 ++ (b ++ List.replicate (24 - b.length) 0)).length = 28 := by simp [hl]; omega
  rw [hlen] at e2
  simp only [List.append_nil] at e2
  rw [← List.append_assoc b, ← List.append_assoc (numB st 4), e2, makeB]

theorem make_e1 (st : Int) (A : Option Addr) (n c : Nat) (w : World) (h : st < 1 ∨ 4294967295 < st) :
    Calls Tryd.prog 41 #[.int .i64 st, .slice A n c] w fun e w' => e = .returned (.tuple #[.slice none 0 0, .iface 85 (.int .i64 1)]) ∧ w = w' := by
  by_cases h1 : st < 1
  · clear h
    go_enter Tryd.func41, Tryd.ntmps41
    go_wp2
    go_ret2
    exact ⟨rfl, rfl⟩
  · have h2 : 4294967295 < st := by omega
    clear h
    go_enter Tryd.func41, Tryd.ntmps41
    go_wp2
    go_ret2
    exact ⟨rfl, rfl⟩
theorem make_e4 (st : Int) (A : Option Addr) (n c : Nat) (w : World) (h1 : 1 ≤ st) (h2 : st ≤ 4294967295) (hn : 24 < n) :
    Calls Tryd.prog 41 #[.int .i64 st, .slice A n c] w fun e w' => e = .returned (.tuple #[.slice none 0 0, .iface 85 (.int .i64 4)]) ∧ w = w' := by
  go_enter Tryd.func41, Tryd.ntmps41
  go_wp2
  go_ret2
  exact ⟨rfl, rfl⟩
set_option maxRecDepth 100000 in
theorem make_ok (st : Int) (A : Option Addr) (n c : Nat) (b : Bytes) (w : World) (hbn : b.length = n) (h1 : 1 ≤ st) (h2 : st ≤ 4294967295) (hn : n ≤ 24) (hr : Rd w A b) :
    Calls Tryd.prog 41 #[.int .i64 st, .slice A n c] w fun e w' => ∃ g, e = .returned (.tuple #[.slice (some ⟨g, 0, none⟩) 32 32, .nilIface]) ∧ w.heap.size ≤ g ∧ Row w' 5 g 32 (makeB st.toNat b) ∧ Below w.heap.size w w' := by
  obtain ⟨s, rfl⟩ := Int.eq_ofNat_of_zero_le (show 0 ≤ st by omega)
  have hmk := mk_bytes 32 32 rfl (by omega) w
  have hz := row_zeros w 32 (by simp [maxLen])
  have hblk : (w.alloc (.cells (zeroRow 32) 5)).heap[w.heap.size]? = some (.cells (zeroRow 32) 5 (0, 0)) := heap_alloc_new w _
  have hB1 : Below w.heap.size w (w.alloc (.cells (zeroRow 32) 5)) := (Below.refl _ _).alloc (Nat.le_refl _) _
  have hl := numB_length s 4
  go_enter Tryd.func41, Tryd.ntmps41
  go_wp2_with fail
  refine (set_any w.heap.size 0 32 32 5 (zeroRow 32) 0 s 4 _ hblk (by omega) (by omega) (by simp [maxLen]) (by rw [zeroRow_size]; omega)).mono ?_
  rintro e w1 ⟨rfl, hw1⟩
  have hrow1 := hz.set_ 0 (numB s 4) (by simp [hl]) _ hblk
  have hblk1 : w1.heap[w.heap.size]? = some (.cells (setB (zeroRow 32) 0 ((numB s 4).map bv)) 5 (0, 0)) := by rw [hw1]; exact setRow_heap _ _ _ _ _ _ hblk
  rw [Nat.zero_add] at hw1
  rw [← hw1] at hrow1
  have hB2 : Below w.heap.size w w1 := by rw [hw1]; exact below_setRow hB1 (Nat.le_refl _) _
  have hsz1 : (setB (zeroRow 32) 0 ((numB s 4).map bv)).size = 32 := by rw [setB_size _ _ _ (by simp [hl, zeroRow_size]), zeroRow_size]
  generalize setB (zeroRow 32) 0 ((numB s 4).map bv) = cur1 at hblk1 hsz1
  clear hw1 hmk hz hblk hB1
  have hcopy := fun ty => run_copy_rd w1 w.heap.size 4 28 28 n c n A b cur1 5 hblk1 hbn (hr.below hB2) (Nat.min_eq_left (by omega)).symm (by omega) ty
  rw [List.take_of_length_le (by omega)] at hcopy
  have hrow2 := hrow1.set_ 4 b (by rw [splice_len _ _ _ (by simp [hl])]; simp; omega) _ hblk1
  have hblk2 := setRow_heap w1 w.heap.size cur1 (setB cur1 4 (b.map bv)) 5 (0, 0) hblk1
  have hB3 : Below w.heap.size w (w1.setRow w.heap.size (setB cur1 4 (b.map bv))) := below_setRow hB2 (Nat.le_refl _) _
  have hsz2 : (setB cur1 4 (b.map bv)).size = 32 := by rw [setB_size _ _ _ (by simp; omega), hsz1]
  generalize w1.setRow w.heap.size (setB cur1 4 (b.map bv)) = w2 at hcopy hrow2 hblk2 hB3
  generalize setB cur1 4 (b.map bv) = cur2 at hblk2 hsz2
  go_wp2_with fail
  refine (set_any w.heap.size 0 32 32 5 cur2 28 s 4 _ hblk2 (by omega) (by omega) (by simp [maxLen]) (by omega)).mono ?_
  rintro e w3 ⟨rfl, rfl⟩
  go_wp2_with fail
  go_ret2
  refine ⟨_, rfl, Nat.le_refl _, ?_, below_setRow hB3 (Nat.le_refl _) _⟩
  have hrow3 := hrow2.set_ 28 (numB s 4) (by rw [splice_len _ _ _ (by rw [splice_len _ _ _ (by simp [hl])]; simp; omega), splice_len _ _ _ (by simp [hl])]; simp [hl]) _ hblk2
  rw [makeB_steps s b (by omega)] at hrow3
  simpa using hrow3

/-- bytes.Equal -/
theorem equal_any (A B : Option Addr) (n m c d : Nat) (a b : Bytes) (w : World) (hn : a.length = n) (hm : b.length = m) (ha : Rd w A a) (hb : Rd w B b) :
    Calls Tryd.prog 61 #[.slice A n c, .slice B m d] w fun e w' => e = .returned (.bool (a == b)) ∧ w = w' := by
  have c1 := conv_text w A n c a hn ha
  have c2 := conv_text w B m d b hm hb
  go_enter Tryd.func61, Tryd.ntmps61
  go_wp2
  go_ret
  exact ⟨rfl, rfl⟩
end Go.Proofs.YtnceheienlekaaaDoor
/- The contract of image.PutRoot. -/
namespace Go.Proofs.YtnceheienlekaaaDoor
open Go.RowKit

abbrev rootV (s : Bytes) (h : Int) : Value := .agg #[sv s, .int .i64 h]
def rootO (i : Int) : Nat := (200 + i * 11).toNat
/-- the eleven bytes of a root -/
def rootB (s : Bytes) (h : Int) : Bytes := nameB s ++ [0, 0, UInt8.ofNat h.toNat]
end Go.Proofs.YtnceheienlekaaaDoor
/- Plain facts on changes of bytes. No program in sight. -/
namespace Go.Proofs.YtnceheienlekaaaDoor

/-- a change: where, what stood there, what stands there then -/
structure Chg where
  at_ : Int
  old : Bytes
  new : Bytes

/-- how far two lists differ, from the first place on -/
def diffRun : Bytes → Bytes → Nat
  | x :: a, y :: b => if x = y then 0 else diffRun a b + 1
  | _, _ => 0
theorem diffRun_le (a b : Bytes) : diffRun a b ≤ a.length ∧ diffRun a b ≤ b.length := by
  induction a generalizing b with
  | nil => simp [diffRun]
  | cons x a ih =>
    cases b with
    | nil => simp [diffRun]
    | cons y b =>
      simp only [diffRun]
      have := ih b
      split <;> simp <;> omega
theorem diffRun_at (k : Nat) : ∀ (a b : Bytes), (∀ j, j < k → a[j]? ≠ b[j]?) → k ≤ a.length → k ≤ b.length → (k = a.length ∨ k = b.length ∨ a[k]? = b[k]?) → diffRun a b = k := by
  induction k with
  | zero =>
    intro a b _ _ _ h
    cases a with
    | nil => simp [diffRun]
    | cons x a =>
      cases b with
      | nil => simp [diffRun]
      | cons y b => simp at h; simp [diffRun, h]
  | succ k ih =>
    intro a b hne ha hb h
    cases a with
    | nil => simp at ha
    | cons x a =>
      cases b with
      | nil => simp at hb
      | cons y b =>
        have h0 := hne 0 (by omega)
        simp at h0
        have := ih a b (fun j hj => by have := hne (j + 1) (by omega); simpa using this) (by simpa using ha) (by simpa using hb) (by simpa using h)
        simp [diffRun, h0, this]
theorem diffRun_ne (a b : Bytes) (j : Nat) (h : j < diffRun a b) : a[j]? ≠ b[j]? := by
  induction a generalizing b j with
  | nil => simp [diffRun] at h
  | cons x a ih =>
    cases b with
    | nil => simp [diffRun] at h
    | cons y b =>
      simp only [diffRun] at h
      split at h
      · omega
      · rename_i hne
        cases j with
        | zero => simpa using hne
        | succ j => simpa using ih b j (by omega)
theorem diffRun_stop (a b : Bytes) (hl : a.length = b.length) (h : diffRun a b < a.length) : a[diffRun a b]? = b[diffRun a b]? := by
  induction a generalizing b with
  | nil => simp at h
  | cons x a ih =>
    cases b with
    | nil => simp at hl
    | cons y b =>
      simp only [diffRun] at h ⊢
      split
      · rename_i he; simp [he]
      · rename_i hne
        rw [if_neg hne] at h
        simpa using ih b (by simpa using hl) (by simpa using h)

/-- the run that begins at i -/
def runAt (a b : Bytes) (i : Nat) : Nat := diffRun (a.drop i) (b.drop i)
/-- the changes from i on; f: fuel -/
def diffF (a b : Bytes) : Nat → Nat → List Chg
  | 0, _ => []
  | f + 1, i =>
    if i < a.length then
      (if 0 < runAt a b i then [⟨i, (a.drop i).take (runAt a b i), (b.drop i).take (runAt a b i)⟩] else []) ++ diffF a b f (i + runAt a b i + 1)
    else []
theorem diffF_fuel (a b : Bytes) (f : Nat) : ∀ g i, a.length - i ≤ f → a.length - i ≤ g → diffF a b f i = diffF a b g i := by
  induction f with
  | zero =>
    intro g i hf hg
    cases g with
    | zero => rfl
    | succ g => simp only [diffF]; rw [if_neg (by omega)]
  | succ f ih =>
    intro g i hf hg
    cases g with
    | zero => simp only [diffF]; rw [if_neg (by omega)]
    | succ g =>
      simp only [diffF]
      split
      · rw [ih g _ (by omega) (by omega)]
      · rfl
/-- all changes -/
def diffL (a b : Bytes) : List Chg := diffF a b a.length 0
theorem diffF_step (a b : Bytes) (i : Nat) (h : i < a.length) : diffF a b (a.length - i) i =
    (if 0 < runAt a b i then [⟨i, (a.drop i).take (runAt a b i), (b.drop i).take (runAt a b i)⟩] else []) ++ diffF a b (a.length - (i + runAt a b i + 1)) (i + runAt a b i + 1) := by
  obtain ⟨f, hf⟩ : ∃ f, a.length - i = f + 1 := ⟨a.length - i - 1, by omega⟩
  rw [hf, diffF, if_pos h, diffF_fuel a b f (a.length - (i + runAt a b i + 1)) _ (by omega) (by omega)]
theorem runAt_le (a b : Bytes) (i : Nat) (hl : a.length = b.length) (hi : i ≤ a.length) : i + runAt a b i ≤ a.length := by
  have := (diffRun_le (a.drop i) (b.drop i)).1
  simp at this
  unfold runAt; omega
theorem runAt_ne (a b : Bytes) (i j : Nat) (h1 : i ≤ j) (h2 : j < i + runAt a b i) : a[j]? ≠ b[j]? := by
  have := diffRun_ne (a.drop i) (b.drop i) (j - i) (by unfold runAt at h2; omega)
  rw [List.getElem?_drop, List.getElem?_drop, show i + (j - i) = j from by omega] at this
  exact this
theorem runAt_stop (a b : Bytes) (i : Nat) (hl : a.length = b.length) (h : i + runAt a b i < a.length) : a[i + runAt a b i]? = b[i + runAt a b i]? := by
  have := diffRun_stop (a.drop i) (b.drop i) (by simp [hl]) (by unfold runAt at h; simp; omega)
  rw [List.getElem?_drop, List.getElem?_drop] at this
  exact this
/-- a walk that came to k has found the run -/
theorem runAt_at (a b : Bytes) (i k : Nat) (hl : a.length = b.length) (hik : i ≤ k) (hk : k ≤ a.length) (hne : ∀ j, i ≤ j → j < k → a[j]? ≠ b[j]?) (hstop : k = a.length ∨ a[k]? = b[k]?) : runAt a b i = k - i := by
  unfold runAt
  refine diffRun_at (k - i) _ _ (fun j hj => ?_) (by simp; omega) (by simp; omega) ?_
  · rw [List.getElem?_drop, List.getElem?_drop]; exact hne (i + j) (by omega) (by omega)
  · rcases hstop with h | h
    · left; simp; omega
    · right; right
      rw [List.getElem?_drop, List.getElem?_drop, show i + (k - i) = k from by omega]; exact h
end Go.Proofs.YtnceheienlekaaaDoor
/- Plain facts on where changes lie. No program in sight. -/
namespace Go.Proofs.YtnceheienlekaaaDoor

/-- what each change is -/
structure IsChg (a b : Bytes) (i : Nat) (c : Chg) (j r : Nat) : Prop where
  at_ : c.at_ = j
  lo : i ≤ j
  pos : 0 < r
  hi : j + r ≤ a.length
  old : c.old = (a.drop j).take r
  new : c.new = (b.drop j).take r
  ne : ∀ p, j ≤ p → p < j + r → a[p]? ≠ b[p]?
theorem diffF_mem (a b : Bytes) (hl : a.length = b.length) (f : Nat) : ∀ i, ∀ c ∈ diffF a b f i, ∃ j r, IsChg a b i c j r := by
  induction f with
  | zero => intro i c hc; simp [diffF] at hc
  | succ f ih =>
    intro i c hc
    simp only [diffF] at hc
    split at hc
    · rename_i hi
      rw [List.mem_append] at hc
      rcases hc with hc | hc
      · split at hc
        · rename_i hr
          rw [List.mem_singleton] at hc
          subst hc
          exact ⟨i, runAt a b i, rfl, Nat.le_refl _, hr, runAt_le a b i hl (by omega), rfl, rfl, fun p h1 h2 => runAt_ne a b i p h1 h2⟩
        · simp at hc
      · obtain ⟨j, r, h⟩ := ih _ c hc
        exact ⟨j, r, h.at_, by have := h.lo; omega, h.pos, h.hi, h.old, h.new, h.ne⟩
    · simp at hc
theorem diffL_mem (a b : Bytes) (hl : a.length = b.length) (c : Chg) (h : c ∈ diffL a b) : ∃ j r, IsChg a b 0 c j r := diffF_mem a b hl _ 0 c h
theorem IsChg.old_len {a b : Bytes} {i : Nat} {c : Chg} {j r : Nat} (h : IsChg a b i c j r) : c.old.length = r := by rw [h.old]; simp; have := h.hi; omega
theorem IsChg.new_len {a b : Bytes} {i : Nat} {c : Chg} {j r : Nat} (h : IsChg a b i c j r) (hl : a.length = b.length) : c.new.length = r := by rw [h.new]; simp; have := h.hi; omega
/-- where nothing differs from i on no change is told -/
theorem diffF_nil (a b : Bytes) (f : Nat) : ∀ i, a.length - i ≤ f → diffF a b f i = [] → ∀ p, i ≤ p → p < a.length → a.length = b.length → a[p]? = b[p]? := by
  induction f with
  | zero => intro i hf _ p hp hl _; omega
  | succ f ih =>
    intro i hf h p hp hpl hl
    simp only [diffF] at h
    rw [if_pos (by omega), List.append_eq_nil_iff] at h
    have h0 : runAt a b i = 0 := by
      rcases Nat.eq_zero_or_pos (runAt a b i) with h0 | h0
      · exact h0
      · have := h.1; rw [if_pos h0] at this; cases this
    rw [h0] at h
    rcases Nat.eq_or_lt_of_le hp with he | hlt
    · subst he
      have := runAt_stop a b i hl (by omega)
      rw [h0, Nat.add_zero] at this
      exact this
    · exact ih _ (by omega) h.2 p (by omega) hpl hl
theorem diffL_eq_nil (a b : Bytes) (hl : a.length = b.length) (h : diffL a b = []) : a = b := by
  apply List.ext_getElem? 
  intro p
  by_cases hp : p < a.length
  · exact diffF_nil a b _ 0 (by omega) h p (by omega) hp hl
  · rw [List.getElem?_eq_none (by omega), List.getElem?_eq_none (by omega)]
theorem diffL_self (a : Bytes) : diffL a a = [] := by
  cases h : diffL a a with
  | nil => rfl
  | cons c r =>
    obtain ⟨j, r', hc⟩ := diffL_mem a a rfl c (by rw [h]; simp)
    exact absurd rfl (hc.ne j (Nat.le_refl _) (by have := hc.pos; omega))
/-- what was put at a place changes no byte but there -/
theorem splice_same (l x : Bytes) (o p : Nat) (h : o + x.length ≤ l.length) (hp : p < o ∨ o + x.length ≤ p) : l[p]? = (splice l o x)[p]? := by
  unfold splice
  have hl : (l.take o).length = o := by simp; omega
  rcases hp with hp | hp
  · rw [List.getElem?_append_left (by omega), List.getElem?_take, if_pos hp]
  · rw [List.getElem?_append_right (by omega), hl, List.getElem?_append_right (by omega), List.getElem?_drop]
    congr 1; omega
theorem splice_get (l x : Bytes) (o q : Nat) (h : o + x.length ≤ l.length) (hq : q < x.length) : (splice l o x)[o + q]? = x[q]? := by
  unfold splice
  have hl : (l.take o).length = o := by simp; omega
  rw [List.getElem?_append_right (by omega), hl, List.getElem?_append_left (by omega)]
  congr 1; omega
theorem diff_splice (l x : Bytes) (o : Nat) (h : o + x.length ≤ l.length) (c : Chg) (hc : c ∈ diffL l (splice l o x)) : ∃ j r : Nat, c.at_ = j ∧ c.new.length = r ∧ o ≤ j ∧ j + r ≤ o + x.length := by
  have hl : l.length = (splice l o x).length := (length_splice l o x h).symm
  obtain ⟨j, r, hj⟩ := diffL_mem _ _ hl c hc
  refine ⟨j, r, hj.at_, hj.new_len hl, ?_, ?_⟩
  · rcases Nat.lt_or_ge j o with hlt | hge
    · exact absurd (splice_same l x o j h (.inl hlt)) (hj.ne j (Nat.le_refl _) (by have := hj.pos; omega))
    · exact hge
  · rcases Nat.lt_or_ge (o + x.length) (j + r) with hlt | hge
    · have := hj.pos
      exact absurd (splice_same l x o (j + r - 1) h (.inr (by omega))) (hj.ne (j + r - 1) (by omega) (by omega))
    · exact hge
end Go.Proofs.YtnceheienlekaaaDoor
/- Plain words for what is wrong with an image, and what mending makes of it. No walk here. -/
namespace Go.Proofs.YtnceheienlekaaaDoor

/-- the five bytes of the handle k + 1 -/
def rawE (l : Bytes) (k : Nat) : Bytes := (l.drop (5 * k)).take 5
/-- the eleven bytes of a root -/
def rawR (l : Bytes) (i : Nat) : Bytes := (l.drop (200 + 11 * i)).take 11
def rHd (r : Bytes) : UInt8 := r.headD 0
def rAt (r : Bytes) : Nat := ofB ((r.drop 1).take 2)
def rLen (r : Bytes) : Nat := ofB ((r.drop 3).take 2)
def rTag (r : Bytes) : Int := ((rHd r).toNat : Int) - 1
def hasE (r : Bytes) : Bool := rHd r != 0
def strayE (n : Nat) (r : Bytes) : Bool := !(tagB (rTag r) && lenB (rLen r) && withinB n (rAt r) (rLen r))
def zeroE (r : Bytes) : Bool := !r.any nonZero
def overE (r s : Bytes) : Bool := decide (rAt r < rAt s + rLen s) && decide (rAt s < rAt r + rLen r)
def wholeE (n : Nat) (r : Bytes) : Bool := hasE r && !strayE n r

/-- a fault -/
structure Flt where
  what : Nat
  which : Nat
/-- what a handle is: 0: none; 1, 2, 3: a fault; 6: right -/
def kindH (n : Nat) (R : Nat → Bytes) (k : Nat) : Nat :=
  if hasE (R k) = true then (if strayE n (R k) = true then 1 else if (List.range k).any (fun j => wholeE n (R j) && overE (R k) (R j)) = true then 2 else 6)
  else (if zeroE (R k) = true then 0 else 3)
def fltOf (kind which : Nat) : List Flt := if kind = 0 ∨ kind = 6 then [] else [⟨kind, which⟩]
def faultsH (n : Nat) (R : Nat → Bytes) (m : Nat) : List Flt := (List.range m).flatMap fun k => fltOf (kindH n R k) (k + 1)
def leadsE (n : Nat) (R : Nat → Bytes) (x : UInt8) : Bool := (List.range 40).any fun k => kindH n R k == 6 && x.toNat == k + 1
def nmR (r : Bytes) : Bytes := nameAt (r.take 8)
def badR (leads : UInt8 → Bool) (r : Bytes) : Bool := !gotName (r.take 8) || r.getD 8 0 != 0 || r.getD 9 0 != 0 || !leads (r.getD 10 0)
def okR (leads : UInt8 → Bool) (r : Bytes) : Bool := !zeroE r && !badR leads r
/-- what a root is: 0: none; 4, 5: a fault; 6: right -/
def kindR (leads : UInt8 → Bool) (S : Nat → Bytes) (i : Nat) : Nat :=
  if zeroE (S i) = true then 0 else if badR leads (S i) = true then 4 else if (List.range i).any (fun j => okR leads (S j) && (nmR (S i) == nmR (S j))) = true then 5 else 6
def faultsR (leads : UInt8 → Bool) (S : Nat → Bytes) (m : Nat) : List Flt := (List.range m).flatMap fun i => fltOf (kindR leads S i) i
/-- what is wrong with an image -/
def checkL (l : Bytes) : List Flt := faultsH l.length (rawE l) 40 ++ faultsR (leadsE l.length (rawE l)) (rawR l) 8

theorem faultsH_succ (n : Nat) (R : Nat → Bytes) (m : Nat) : faultsH n R (m + 1) = faultsH n R m ++ fltOf (kindH n R m) (m + 1) := by
  simp [faultsH, List.range_succ]
theorem faultsR_succ (leads : UInt8 → Bool) (S : Nat → Bytes) (m : Nat) : faultsR leads S (m + 1) = faultsR leads S m ++ fltOf (kindR leads S m) m := by
  simp [faultsR, List.range_succ]
theorem fltOf_len (a b : Nat) : (fltOf a b).length ≤ 1 := by unfold fltOf; split <;> simp
theorem faultsH_len (n : Nat) (R : Nat → Bytes) (m : Nat) : (faultsH n R m).length ≤ m := by
  induction m with
  | zero => simp [faultsH]
  | succ m ih => rw [faultsH_succ, List.length_append]; have := fltOf_len (kindH n R m) (m + 1); omega
theorem faultsR_len (leads : UInt8 → Bool) (S : Nat → Bytes) (m : Nat) : (faultsR leads S m).length ≤ m := by
  induction m with
  | zero => simp [faultsR]
  | succ m ih => rw [faultsR_succ, List.length_append]; have := fltOf_len (kindR leads S m) m; omega
theorem kindH_cases (n : Nat) (R : Nat → Bytes) (k : Nat) : kindH n R k = 0 ∨ kindH n R k = 1 ∨ kindH n R k = 2 ∨ kindH n R k = 3 ∨ kindH n R k = 6 := by
  unfold kindH; repeat' split
  all_goals simp
theorem kindR_cases (leads : UInt8 → Bool) (S : Nat → Bytes) (k : Nat) : kindR leads S k = 0 ∨ kindR leads S k = 4 ∨ kindR leads S k = 5 ∨ kindR leads S k = 6 := by
  unfold kindR; repeat' split
  all_goals simp
theorem mem_fltOf {a b : Nat} {f : Flt} : f ∈ fltOf a b ↔ ¬ (a = 0 ∨ a = 6) ∧ f = ⟨a, b⟩ := by
  unfold fltOf; split <;> simp_all
theorem mem_checkL {l : Bytes} {f : Flt} : f ∈ checkL l ↔ (∃ k, k < 40 ∧ ¬ (kindH l.length (rawE l) k = 0 ∨ kindH l.length (rawE l) k = 6) ∧ f = ⟨kindH l.length (rawE l) k, k + 1⟩) ∨
    (∃ i, i < 8 ∧ ¬ (kindR (leadsE l.length (rawE l)) (rawR l) i = 0 ∨ kindR (leadsE l.length (rawE l)) (rawR l) i = 6) ∧ f = ⟨kindR (leadsE l.length (rawE l)) (rawR l) i, i⟩) := by
  simp only [checkL, List.mem_append, faultsH, faultsR, List.mem_flatMap, List.mem_range, mem_fltOf]

/-- the same handles, once what is wrong is 0 -/
theorem zeros_has : hasE (List.replicate 5 0) = false := by decide
theorem zeros_zero (n : Nat) : zeroE (List.replicate n 0) = true := by
  simp [zeroE, nonZero]
theorem kindH_after (n : Nat) (R R' : Nat → Bytes) (h : ∀ k, k < 40 → R' k = if kindH n R k = 0 ∨ kindH n R k = 6 then R k else List.replicate 5 0) (k : Nat) (hk : k < 40) :
    kindH n R' k = if kindH n R k = 6 then 6 else 0 := by
  have hz : kindH n R k ≠ 0 → kindH n R k ≠ 6 → kindH n R' k = 0 := fun h0 h6 => by
    have := h k hk
    rw [if_neg (by omega)] at this
    unfold kindH
    rw [this, zeros_has, zeros_zero]; simp
  rcases kindH_cases n R k with h0 | h0 | h0 | h0 | h0
  · rw [if_neg (by omega)]
    have hR := h k hk
    rw [if_pos (by omega)] at hR
    unfold kindH at h0 ⊢
    rw [hR]
    split at h0
    · repeat' split at h0
      all_goals simp at h0
    · rename_i hh
      rw [if_neg hh]
      split at h0
      · rename_i hz; rw [if_pos hz]
      · simp at h0
  · rw [if_neg (by omega)]; exact hz (by omega) (by omega)
  · rw [if_neg (by omega)]; exact hz (by omega) (by omega)
  · rw [if_neg (by omega)]; exact hz (by omega) (by omega)
  · rw [if_pos h0]
    have hR := h k hk
    rw [if_pos (by omega)] at hR
    unfold kindH at h0 ⊢
    rw [hR]
    split at h0
    · rename_i hh
      rw [if_pos hh]
      split at h0
      · simp at h0
      · rename_i hs
        rw [if_neg hs]
        split at h0
        · simp at h0
        · rename_i ha
          rw [if_neg]
          intro hx
          apply ha
          rw [List.any_eq_true] at hx ⊢
          obtain ⟨j, hj, hw⟩ := hx
          refine ⟨j, hj, ?_⟩
          have hj' : j < k := List.mem_range.1 hj
          have hRj := h j (by omega)
          split at hRj
          · rw [← hRj]; exact hw
          · rw [hRj] at hw; simp only [wholeE, zeros_has, Bool.false_and, Bool.false_eq_true] at hw
    · split at h0 <;> simp at h0
theorem leadsE_after (n : Nat) (R R' : Nat → Bytes) (h : ∀ k, k < 40 → kindH n R' k = if kindH n R k = 6 then 6 else 0) : leadsE n R' = leadsE n R := by
  funext x
  have : ∀ k ∈ List.range 40, (kindH n R' k == 6 && x.toNat == k + 1) = (kindH n R k == 6 && x.toNat == k + 1) := fun k hk => by
    rw [h k (List.mem_range.1 hk)]
    split
    · rename_i h6; rw [h6]
    · rename_i h6; simp [h6]
  unfold leadsE
  rw [Bool.eq_iff_iff, List.any_eq_true, List.any_eq_true]
  constructor
  · rintro ⟨k, hk, h⟩; exact ⟨k, hk, (this k hk) ▸ h⟩
  · rintro ⟨k, hk, h⟩; exact ⟨k, hk, (this k hk).symm ▸ h⟩
theorem kindR_after (leads : UInt8 → Bool) (S S' : Nat → Bytes) (h : ∀ i, i < 8 → S' i = if kindR leads S i = 0 ∨ kindR leads S i = 6 then S i else List.replicate 11 0) (i : Nat) (hi : i < 8) :
    kindR leads S' i = if kindR leads S i = 6 then 6 else 0 := by
  have hz : kindR leads S i ≠ 0 → kindR leads S i ≠ 6 → kindR leads S' i = 0 := fun h0 h6 => by
    have := h i hi
    rw [if_neg (by omega)] at this
    unfold kindR
    rw [this, zeros_zero]; simp
  rcases kindR_cases leads S i with h0 | h0 | h0 | h0
  · rw [if_neg (by omega)]
    have hS := h i hi
    rw [if_pos (by omega)] at hS
    unfold kindR at h0 ⊢
    rw [hS]
    split at h0
    · rename_i hh; rw [if_pos hh]
    · repeat' split at h0
      all_goals simp at h0
  · rw [if_neg (by omega)]; exact hz (by omega) (by omega)
  · rw [if_neg (by omega)]; exact hz (by omega) (by omega)
  · rw [if_pos h0]
    have hS := h i hi
    rw [if_pos (by omega)] at hS
    unfold kindR at h0 ⊢
    rw [hS]
    split at h0
    · simp at h0
    · rename_i hh
      rw [if_neg hh]
      split at h0
      · simp at h0
      · rename_i hb
        rw [if_neg hb]
        split at h0
        · simp at h0
        · rename_i ha
          rw [if_neg]
          intro hx
          apply ha
          rw [List.any_eq_true] at hx ⊢
          obtain ⟨j, hj, hw⟩ := hx
          refine ⟨j, hj, ?_⟩
          have hj' : j < i := List.mem_range.1 hj
          have hSj := h j (by omega)
          split at hSj
          · rw [← hSj]; exact hw
          · rw [hSj] at hw; simp only [okR, zeros_zero, Bool.not_true, Bool.false_and, Bool.false_eq_true] at hw

/-- where a fault's bytes lie -/
def fltO (f : Flt) : Nat := if f.what = 4 ∨ f.what = 5 then 200 + 11 * f.which else 5 * (f.which - 1)
def fltN (f : Flt) : Nat := if f.what = 4 ∨ f.what = 5 then 11 else 5
def clearF (l : Bytes) (f : Flt) : Bytes := splice l (fltO f) (List.replicate (fltN f) 0)
def clearAll (l : Bytes) (fs : List Flt) : Bytes := fs.foldl clearF l
def FltIn (n : Nat) (f : Flt) : Prop := fltO f + fltN f ≤ n
theorem splice_at (l x : Bytes) (o p : Nat) (h : o + x.length ≤ l.length) : (splice l o x)[p]? = if o ≤ p ∧ p < o + x.length then x[p - o]? else l[p]? := by
  split
  · rename_i hp
    have := splice_get l x o (p - o) h (by omega)
    rw [show o + (p - o) = p from by omega] at this
    exact this
  · exact (splice_same l x o p h (by omega)).symm
theorem clearF_len (l : Bytes) (f : Flt) (h : FltIn l.length f) : (clearF l f).length = l.length := by
  unfold clearF; exact length_splice _ _ _ (by rw [List.length_replicate]; exact h)
theorem clearAll_len (fs : List Flt) : ∀ l : Bytes, (∀ f ∈ fs, FltIn l.length f) → (clearAll l fs).length = l.length := by
  induction fs with
  | nil => intro l _; rfl
  | cons f fs ih =>
    intro l h
    have h1 := clearF_len l f (h f (by simp))
    show (clearAll (clearF l f) fs).length = _
    rw [ih _ (fun g hg => by rw [h1]; exact h g (by simp [hg])), h1]
def Cleared (fs : List Flt) (p : Nat) : Prop := ∃ f ∈ fs, fltO f ≤ p ∧ p < fltO f + fltN f
theorem clearAll_out (fs : List Flt) (p : Nat) (hp : ¬ Cleared fs p) : ∀ l : Bytes, (∀ f ∈ fs, FltIn l.length f) → (clearAll l fs)[p]? = l[p]? := by
  induction fs with
  | nil => intro l _; rfl
  | cons f fs ih =>
    intro l h
    have h1 := clearF_len l f (h f (by simp))
    show (clearAll (clearF l f) fs)[p]? = _
    rw [ih (fun ⟨g, hg, hh⟩ => hp ⟨g, by simp [hg], hh⟩) _ (fun g hg => by rw [h1]; exact h g (by simp [hg]))]
    unfold clearF
    rw [splice_at _ _ _ _ (by rw [List.length_replicate]; exact h f (by simp)), if_neg]
    rw [List.length_replicate]
    exact fun hh => hp ⟨f, by simp, hh⟩
theorem clearAll_zero (fs : List Flt) (p : Nat) : ∀ l : Bytes, (∀ f ∈ fs, FltIn l.length f) → l[p]? = some 0 → (clearAll l fs)[p]? = some 0 := by
  induction fs with
  | nil => intro l _ h; exact h
  | cons f fs ih =>
    intro l h hz
    have h1 := clearF_len l f (h f (by simp))
    show (clearAll (clearF l f) fs)[p]? = _
    refine ih _ (fun g hg => by rw [h1]; exact h g (by simp [hg])) ?_
    unfold clearF
    rw [splice_at _ _ _ _ (by rw [List.length_replicate]; exact h f (by simp))]
    split
    · rename_i hh; rw [List.length_replicate] at hh; rw [List.getElem?_replicate, if_pos (by omega)]
    · exact hz
theorem clearAll_in (fs : List Flt) (p : Nat) (hp : Cleared fs p) : ∀ l : Bytes, (∀ f ∈ fs, FltIn l.length f) → (clearAll l fs)[p]? = some 0 := by
  induction fs with
  | nil => obtain ⟨f, hf, _⟩ := hp; simp at hf
  | cons f fs ih =>
    intro l h
    have h1 := clearF_len l f (h f (by simp))
    have h2 : ∀ g ∈ fs, FltIn (clearF l f).length g := fun g hg => by rw [h1]; exact h g (by simp [hg])
    show (clearAll (clearF l f) fs)[p]? = _
    by_cases hc : Cleared fs p
    · exact ih hc _ h2
    · refine clearAll_zero fs p _ h2 ?_
      obtain ⟨g, hg, hh⟩ := hp
      rcases List.mem_cons.1 hg with rfl | hg
      · unfold clearF
        rw [splice_at _ _ _ _ (by rw [List.length_replicate]; exact h g (by simp)), if_pos (by rw [List.length_replicate]; exact hh), List.getElem?_replicate, if_pos (by omega)]
      · exact absurd ⟨g, hg, hh⟩ hc
/-- an image without what is wrong -/
def mendL (l : Bytes) : Bytes := clearAll l (checkL l)
theorem flt_in {l : Bytes} (hl : 288 ≤ l.length) {f : Flt} (hf : f ∈ checkL l) : FltIn l.length f := by
  unfold FltIn fltO fltN
  rcases mem_checkL.1 hf with ⟨k, hk, hn, rfl⟩ | ⟨i, hi, hn, rfl⟩
  · have := kindH_cases l.length (rawE l) k
    rw [if_neg (by simp only; omega), if_neg (by simp only; omega)]
    simp only; omega
  · have := kindR_cases (leadsE l.length (rawE l)) (rawR l) i
    rw [if_pos (by simp only; omega), if_pos (by simp only; omega)]
    simp only; omega
theorem mendL_len {l : Bytes} (hl : 288 ≤ l.length) : (mendL l).length = l.length := clearAll_len _ l (fun _ hf => flt_in hl hf)
theorem cleared_h {l : Bytes} {k q : Nat} (hk : k < 40) (hq : q < 5) : Cleared (checkL l) (5 * k + q) ↔ ¬ (kindH l.length (rawE l) k = 0 ∨ kindH l.length (rawE l) k = 6) := by
  constructor
  · rintro ⟨f, hf, h1, h2⟩
    unfold fltO fltN at *
    rcases mem_checkL.1 hf with ⟨k', hk', hn, rfl⟩ | ⟨i, hi, hn, rfl⟩
    · have := kindH_cases l.length (rawE l) k'
      rw [if_neg (by simp only; omega)] at h1 h2
      rw [if_neg (by simp only; omega)] at h2
      simp only at h1 h2
      obtain rfl : k' = k := by omega
      exact hn
    · have := kindR_cases (leadsE l.length (rawE l)) (rawR l) i
      rw [if_pos (by simp only; omega)] at h1 h2
      simp only at h1; omega
  · intro hn
    refine ⟨_, mem_checkL.2 (.inl ⟨k, hk, hn, rfl⟩), ?_⟩
    have := kindH_cases l.length (rawE l) k
    unfold fltO fltN
    rw [if_neg (by simp only; omega), if_neg (by simp only; omega)]
    simp only; omega
theorem cleared_r {l : Bytes} {i q : Nat} (hi : i < 8) (hq : q < 11) : Cleared (checkL l) (200 + 11 * i + q) ↔ ¬ (kindR (leadsE l.length (rawE l)) (rawR l) i = 0 ∨ kindR (leadsE l.length (rawE l)) (rawR l) i = 6) := by
  constructor
  · rintro ⟨f, hf, h1, h2⟩
    unfold fltO fltN at *
    rcases mem_checkL.1 hf with ⟨k', hk', hn, rfl⟩ | ⟨i', hi', hn, rfl⟩
    · have := kindH_cases l.length (rawE l) k'
      rw [if_neg (by simp only; omega)] at h1 h2
      rw [if_neg (by simp only; omega)] at h2
      simp only at h1 h2
      omega
    · have := kindR_cases (leadsE l.length (rawE l)) (rawR l) i'
      rw [if_pos (by simp only; omega)] at h1 h2
      rw [if_pos (by simp only; omega)] at h2
      simp only at h1 h2
      obtain rfl : i' = i := by omega
      exact hn
  · intro hn
    refine ⟨_, mem_checkL.2 (.inr ⟨i, hi, hn, rfl⟩), ?_⟩
    have := kindR_cases (leadsE l.length (rawE l)) (rawR l) i
    unfold fltO fltN
    rw [if_pos (by simp only; omega), if_pos (by simp only; omega)]
    simp only; omega
theorem mend_rawE {l : Bytes} (hl : 288 ≤ l.length) (k : Nat) (hk : k < 40) : rawE (mendL l) k = if kindH l.length (rawE l) k = 0 ∨ kindH l.length (rawE l) k = 6 then rawE l k else List.replicate 5 0 := by
  have hin : ∀ f ∈ checkL l, FltIn l.length f := fun _ hf => flt_in hl hf
  apply List.ext_getElem?
  intro q
  unfold rawE
  rw [List.getElem?_take, List.getElem?_drop]
  by_cases hq : q < 5
  · rw [if_pos hq]
    by_cases hc : kindH l.length (rawE l) k = 0 ∨ kindH l.length (rawE l) k = 6
    · have := clearAll_out (checkL l) (5 * k + q) (fun h => (cleared_h hk hq).1 h hc) l hin
      show (clearAll l (checkL l))[5 * k + q]? = _
      unfold rawE at *
      rw [this, if_pos hc, List.getElem?_take, if_pos hq, List.getElem?_drop]
    · have := clearAll_in (checkL l) (5 * k + q) ((cleared_h hk hq).2 hc) l hin
      show (clearAll l (checkL l))[5 * k + q]? = _
      unfold rawE at *
      rw [this, if_neg hc, List.getElem?_replicate, if_pos hq]
  · rw [if_neg hq]
    split
    · rw [List.getElem?_take, if_neg hq]
    · rw [List.getElem?_replicate, if_neg hq]
theorem mend_rawR {l : Bytes} (hl : 288 ≤ l.length) (i : Nat) (hi : i < 8) : rawR (mendL l) i = if kindR (leadsE l.length (rawE l)) (rawR l) i = 0 ∨ kindR (leadsE l.length (rawE l)) (rawR l) i = 6 then rawR l i else List.replicate 11 0 := by
  have hin : ∀ f ∈ checkL l, FltIn l.length f := fun _ hf => flt_in hl hf
  apply List.ext_getElem?
  intro q
  have hL : (rawR (mendL l) i)[q]? = if q < 11 then (clearAll l (checkL l))[200 + 11 * i + q]? else none := by
    unfold rawR mendL; rw [List.getElem?_take, List.getElem?_drop]
  have hR : (rawR l i)[q]? = if q < 11 then l[200 + 11 * i + q]? else none := by
    unfold rawR; rw [List.getElem?_take, List.getElem?_drop]
  rw [hL]
  by_cases hq : q < 11
  · rw [if_pos hq]
    by_cases hc : kindR (leadsE l.length (rawE l)) (rawR l) i = 0 ∨ kindR (leadsE l.length (rawE l)) (rawR l) i = 6
    · rw [clearAll_out (checkL l) (200 + 11 * i + q) (fun h => (cleared_r hi hq).1 h hc) l hin, if_pos hc, hR, if_pos hq]
    · rw [clearAll_in (checkL l) (200 + 11 * i + q) ((cleared_r hi hq).2 hc) l hin, if_neg hc, List.getElem?_replicate, if_pos hq]
  · rw [if_neg hq]
    split
    · rw [hR, if_neg hq]
    · rw [List.getElem?_replicate, if_neg hq]
theorem mend_kindH {l : Bytes} (hl : 288 ≤ l.length) (k : Nat) (hk : k < 40) : kindH (mendL l).length (rawE (mendL l)) k = if kindH l.length (rawE l) k = 6 then 6 else 0 := by
  rw [mendL_len hl]; exact kindH_after _ _ _ (fun k hk => mend_rawE hl k hk) k hk
theorem mend_leads {l : Bytes} (hl : 288 ≤ l.length) : leadsE (mendL l).length (rawE (mendL l)) = leadsE l.length (rawE l) := by
  rw [mendL_len hl]
  exact leadsE_after _ _ _ (fun k hk => by have := mend_kindH hl k hk; rwa [mendL_len hl] at this)
theorem mend_clean {l : Bytes} (hl : 288 ≤ l.length) : checkL (mendL l) = [] := by
  rw [List.eq_nil_iff_forall_not_mem]
  intro f hf
  rcases mem_checkL.1 hf with ⟨k, hk, hn, rfl⟩ | ⟨i, hi, hn, rfl⟩
  · apply hn
    rw [mend_kindH hl k hk]
    split <;> simp
  · apply hn
    rw [mend_leads hl, kindR_after _ _ _ (fun i hi => mend_rawR hl i hi) i hi]
    split <;> simp
theorem mend_id {l : Bytes} (h : checkL l = []) : mendL l = l := by unfold mendL; rw [h]; rfl
theorem mend_eq {l : Bytes} (hl : 288 ≤ l.length) : checkL l = [] ↔ mendL l = l :=
  ⟨mend_id, fun h => by have := mend_clean hl; rwa [h] at this⟩
theorem mend_rest {l : Bytes} (hl : 288 ≤ l.length) : (mendL l).drop 288 = l.drop 288 := by
  apply List.ext_getElem?
  intro p
  rw [List.getElem?_drop, List.getElem?_drop]
  refine clearAll_out _ _ ?_ l (fun _ hf => flt_in hl hf)
  rintro ⟨f, hf, h1, h2⟩
  unfold fltO at h1 h2
  unfold fltN at h2
  rcases mem_checkL.1 hf with ⟨k, hk, hn, rfl⟩ | ⟨i, hi, hn, rfl⟩
  · have := kindH_cases l.length (rawE l) k
    rw [if_neg (by simp only; omega), if_neg (by simp only; omega)] at h2
    simp only at h2; omega
  · have := kindR_cases (leadsE l.length (rawE l)) (rawR l) i
    rw [if_pos (by simp only; omega), if_pos (by simp only; omega)] at h2
    simp only at h2; omega
end Go.Proofs.YtnceheienlekaaaDoor
/- image.find and image.Get: an entry read back. -/
namespace Go.Proofs.YtnceheienlekaaaDoor
open Go.RowKit

theorem rawE_len (l : Bytes) (k : Nat) (hk : k < 40) (hn : 200 ≤ l.length) : (rawE l k).length = 5 := by
  unfold rawE; simp; omega
theorem rawE_rd {w : World} {A : Option Addr} {l : Bytes} (h : Rd w A l) (k : Nat) (hk : k < 40) (hn : 200 ≤ l.length) : Rd w (A.map (·.add (5 * k))) (rawE l k) := h.cut (5 * k) 5 (by omega)
/-- the handle's number -/
theorem entO_k (k : Nat) : entO ((k : Int) + 1) = 5 * k := by unfold entO; omega
/-- the entry that stands in five bytes -/
def entR (h : Int) (r : Bytes) : Value := entV h (rAt r) (rLen r) (rTag r)

end Go.Proofs.YtnceheienlekaaaDoor
/- The contracts of check.stray, check.over and image.Zero. -/
namespace Go.Proofs.YtnceheienlekaaaDoor
open Go.RowKit

/-- do two stretches of bytes share one? -/
def overB (a al b bl : Int) : Bool := decide (a < b + bl) && decide (b < a + al)
theorem forall_take_succ' {α : Type} {l : List α} {k : Nat} {p : α → Bool} (hk : k < l.length) (h : ∀ x ∈ l.take k, p x = false) (hp : p l[k] = false) : ∀ x ∈ l.take (k + 1), p x = false := by
  intro x hx
  rw [List.take_succ_eq_append_getElem hk, List.mem_append, List.mem_singleton] at hx
  rcases hx with hx | rfl
  · exact h x hx
  · exact hp
/-- the slice at A has the entries L: the handle, the bytes -/
def RdEs (w : World) (A : Option Addr) (L : List (Int × Bytes)) : Prop := ∀ i (h : i < L.length), ∃ g off, A = some ⟨g, off, none⟩ ∧ w.cell? ⟨g, off + i * 4, none⟩ = some (.int .i64 L[i].1) ∧ w.cell? ⟨g, off + i * 4 + 1, none⟩ = some (.int .i64 (rAt L[i].2)) ∧
  w.cell? ⟨g, off + i * 4 + 2, none⟩ = some (.int .i64 (rLen L[i].2)) ∧ w.cell? ⟨g, off + i * 4 + 3, none⟩ = some (.int .i64 (rTag L[i].2))
theorem RdEs.below {w w' : World} {A : Option Addr} {L : List (Int × Bytes)} (h : RdEs w A L) (hb : Below w.heap.size w w') : RdEs w' A L := fun i hi => by
  obtain ⟨g, off, hA, c0, c1, c2, c3⟩ := h i hi
  exact ⟨g, off, hA, (hb.cell (block_lt_of_cell c0)).trans c0, (hb.cell (block_lt_of_cell c1)).trans c1, (hb.cell (block_lt_of_cell c2)).trans c2, (hb.cell (block_lt_of_cell c3)).trans c3⟩
end Go.Proofs.YtnceheienlekaaaDoor
/- What comes in: arguments opened to the words of the text Base. No program in sight. -/
namespace Go.Proofs.YtnceheienlekaaaDoor
open Go.RowKit Go.ChangeShapes Go.WideShapes Go.ChangeAt
open Go.ChangeMaps (open_string shut_string)

section
variable {H : Type} {enc : TypeId × Value → H} {P : Program} {w : World}
theorem wf_u8 {n : Int} (h : (Lit.int .u8 n).wf = true) : 0 ≤ n ∧ n ≤ 255 := by
  simpa [Lit.wf, IntKind.min, IntKind.max, IntKind.bits, IntKind.signed] using h
theorem wf_i64' {n : Int} (h : (Lit.int .i64 n).wf = true) : -9223372036854775808 ≤ n ∧ n ≤ 9223372036854775807 := by
  simpa [Lit.wf, IntKind.min, IntKind.max, IntKind.bits, IntKind.signed] using h

def toBytes (zs : List Int) : Bytes := zs.map fun z => UInt8.ofNat z.toNat
theorem toBytes_at {zs : List Int} (hz : ∀ n ∈ zs, (Lit.int .u8 n).wf = true) (j : Nat) (hj : j < zs.length) : .int .u8 (zs.getD j 0) = bv ((toBytes zs)[j]'(by simpa [toBytes] using hj)) := by
  have h1 : zs.getD j 0 = zs[j] := by simp [hj]
  have h2 := wf_u8 (hz _ (List.getElem_mem hj))
  have h3 : (zs[j].toNat % 256 : Nat) = zs[j].toNat := Nat.mod_eq_of_lt (by omega)
  rw [h1]
  simp only [toBytes, List.getElem_map, bv]
  congr 1
  rw [UInt8.toNat_ofNat', show 2 ^ 8 = 256 from rfl, h3]
  omega

/-- a slice of bytes that came in -/
theorem open_bytes {t e : TypeId} {v : Value} {d : DataW H} {ps : List MemPlace} {base : Nat} {r : Reach} (ht : P.underlying t = some (.slice e)) (he : P.underlying e = some (.int .u8)) (hc : P.cellsOf e = 1) (hb : P.bytesOf e = 1)
    (hv : Value.okWide P w r base t v) (h : DataW.Trod enc P w 0 (fun _ => true) true t v d ps) (hz : (d.weights P t).all (· ≤ reachBytes) = true) :
    ∃ (A : Option Addr) (c : Nat) (l : Bytes), v = .slice A l.length c ∧ l.length ≤ c ∧ c ≤ 140737488351232 ∧ Rd w A l := by
  obtain ⟨a0, len0, cap0, rfl⟩ := okWide_slice ht hv
  obtain ⟨fuel, hf⟩ := h
  rcases open_ints ht he hc hf with ⟨hcs, _⟩ | ⟨x, l, c, zs, hcs, _, hl, hm, hlen, hx, hcell, hwz⟩
  · simp [Value.cells] at hcs
    obtain ⟨rfl, rfl, rfl⟩ := hcs
    exact ⟨none, 0, [], rfl, by simp, by omega, Rd.nil_⟩
  · simp [Value.cells] at hcs
    obtain ⟨rfl, rfl, rfl⟩ := hcs
    simp only [Prod.mk.injEq] at hx
    obtain ⟨rfl, rfl⟩ := hx
    have hlen' : zs.length = cap0 := by simpa using hlen
    have hreach : cap0 ≤ 140737488351232 := by
      have := List.all_eq_true.1 hz ((zs.take len0).length * 1 + (zs.drop len0).length * 1) (by
        simp [DataW.weights, ht, hb, lits, Nat.mul_one, hlen'])
      have h2 := of_decide_eq_true this
      simp [hlen'] at h2
      have h3 : reachBytes = 140737488351232 := by decide
      omega
    have hlt : len0 ≤ zs.length := by omega
    refine ⟨some x, cap0, (toBytes zs).take len0, ?_, ?_, hreach, ?_⟩
    · simp [toBytes]; omega
    · simp [toBytes]; omega
    · intro j hj
      have hj' : j < len0 := by simp [toBytes] at hj; omega
      have hc0 := hcell j (by omega)
      obtain ⟨b, off, spot⟩ := x
      have hs : spot = none := by
        have hc1 := hcell 0 (by omega)
        simpa [Addr.add] using World.cell?_spot hc1
      subst hs
      refine ⟨b, off, rfl, ?_⟩
      rw [Addr.add_lit] at hc0
      rw [hc0, toBytes_at hwz j (by omega)]
      simp
/-- a text that came in -/
theorem open_str {t : TypeId} {v : Value} {d : DataW H} {ps : List MemPlace} {base : Nat} {r : Reach} (ht : P.underlying t = some .string)
    (hv : Value.okWide P w r base t v) (h : DataW.Trod enc P w 0 (fun _ => true) true t v d ps) (hz : (d.weights P t).all (· ≤ reachBytes) = true) :
    ∃ (s : Bytes), v = sv s ∧ s.length ≤ 140737488351232 := by
  obtain ⟨s, rfl, rfl, rfl, hs⟩ := open_string ht hv h
  refine ⟨s.data.toList, rfl, ?_⟩
  have h2 := of_decide_eq_true (List.all_eq_true.1 hz s.data.toList.length (by simp [DataW.weights]))
  have h3 : reachBytes = 140737488351232 := by decide
  omega
/-- a struct of four whole numbers that came in, the two in the middle a struct of their own -/
theorem open_entry {t : TypeId} {f0 f1 f2 g0 g1 : Field} {v : Value} {d : DataW H} {ps : List MemPlace} {base : Nat} {r : Reach} (hs : P.underlying t = some (.struct #[f0, f1, f2])) (hs1 : P.underlying f1.type = some (.struct #[g0, g1])) (hC : P.cellsOf t = 4)
    (o0 : f0.offset = 0 ∧ P.cellsOf f0.type = 1) (o1 : f1.offset = 1 ∧ P.cellsOf f1.type = 2) (o2 : f2.offset = 3 ∧ P.cellsOf f2.type = 1) (p0 : g0.offset = 0 ∧ P.cellsOf g0.type = 1) (p1 : g1.offset = 1 ∧ P.cellsOf g1.type = 1)
    (i0 : P.underlying f0.type = some (.int .i64)) (i1 : P.underlying g0.type = some (.int .i64)) (i2 : P.underlying g1.type = some (.int .i64)) (i3 : P.underlying f2.type = some (.int .i64))
    (hv : Value.okWide P w r base t v) (h : DataW.Trod enc P w 0 (fun _ => true) true t v d ps) :
    ∃ a b c e : Int, v = .agg #[.int .i64 a, .int .i64 b, .int .i64 c, .int .i64 e] ∧ (-9223372036854775808 ≤ a ∧ a ≤ 9223372036854775807) ∧ (-9223372036854775808 ≤ b ∧ b ≤ 9223372036854775807) ∧ (-9223372036854775808 ≤ c ∧ c ≤ 9223372036854775807) ∧ (-9223372036854775808 ≤ e ∧ e ≤ 9223372036854775807) := by
  obtain ⟨cs, rfl, hsz⟩ := okWide_struct hs hv
  obtain ⟨l⟩ := cs
  match l, hsz.trans hC with
  | [c0, c1, c2, c3], _ =>
    obtain ⟨fuel, hf⟩ := h
    obtain ⟨xs, n, _, hx, _, hlen, hg⟩ := DataW.trod_struct hs hf
    match xs, hlen with
    | [y0, y1, y2], _ =>
      have t0 : DataW.trod enc P w 0 (fun _ => true) true n f0.type [c0] = some y0 := by simpa [Value.cells, o0.1, o0.2] using hg 0 f0 rfl
      have t1 : DataW.trod enc P w 0 (fun _ => true) true n f1.type [c1, c2] = some y1 := by simpa [Value.cells, o1.1, o1.2] using hg 1 f1 rfl
      have t2 : DataW.trod enc P w 0 (fun _ => true) true n f2.type [c3] = some y2 := by simpa [Value.cells, o2.1, o2.2] using hg 2 f2 rfl
      obtain ⟨ys, n', _, hx', _, hlen', hg'⟩ := DataW.trod_struct hs1 t1
      match ys, hlen' with
      | [z0, z1], _ =>
        have u0 : DataW.trod enc P w 0 (fun _ => true) true n' g0.type [c1] = some z0 := by simpa [Value.cells, p0.1, p0.2] using hg' 0 g0 rfl
        have u1 : DataW.trod enc P w 0 (fun _ => true) true n' g1.type [c2] = some z1 := by simpa [Value.cells, p1.1, p1.2] using hg' 1 g1 rfl
        obtain ⟨a, ha, -, wa⟩ := DataW.trod_int i0 t0
        obtain ⟨b, hb, -, wb⟩ := DataW.trod_int i1 u0
        obtain ⟨c, hc, -, wc⟩ := DataW.trod_int i2 u1
        obtain ⟨e, he, -, we⟩ := DataW.trod_int i3 t2
        simp only [List.cons.injEq, and_true] at ha hb hc he
        subst ha hb hc he
        exact ⟨a, b, c, e, rfl, wf_i64' wa, wf_i64' wb, wf_i64' wc, wf_i64' we⟩
/-- a struct of a string and a whole number that came in -/
theorem open_root {t : TypeId} {f0 f1 : Field} {v : Value} {d : DataW H} {ps : List MemPlace} {base : Nat} {r : Reach} (hs : P.underlying t = some (.struct #[f0, f1])) (hone : Go.Deep.oneCellFields P #[f0, f1] = true) (hC : P.cellsOf t = 2)
    (i0 : P.underlying f0.type = some .string) (i1 : P.underlying f1.type = some (.int .i64))
    (hv : Value.okWide P w r base t v) (h : DataW.Trod enc P w 0 (fun _ => true) true t v d ps) (hz : (d.weights P t).all (· ≤ reachBytes) = true) :
    ∃ (s : Bytes) (b : Int), v = .agg #[sv s, .int .i64 b] ∧ s.length ≤ 140737488351232 ∧ (-9223372036854775808 ≤ b ∧ b ≤ 9223372036854775807) := by
  obtain ⟨v0, v1, y0, y1, n, rfl, rfl, -, t0, t1⟩ := Go.Joins.open_agg2 hs hone hC hv h
  obtain ⟨s, ha, hy, -⟩ := DataW.trod_string i0 t0
  obtain ⟨b, hb, -, wb⟩ := DataW.trod_int i1 t1
  simp only [List.cons.injEq, and_true] at ha hb
  subst ha hb hy
  have h2 := of_decide_eq_true (List.all_eq_true.1 hz s.data.toList.length (by simp [DataW.weights, hs, DataW.weightsEach]))
  have h3 : reachBytes = 140737488351232 := by decide
  exact ⟨s.data.toList, b, rfl, by omega, wf_i64' wb⟩
end
end Go.Proofs.YtnceheienlekaaaDoor
/- What comes in: slices of structs, of booleans. No program in sight. -/
namespace Go.Proofs.YtnceheienlekaaaDoor
open Go.RowKit Go.ChangeShapes Go.WideShapes Go.ChangeAt

/-- the slice at A has these elements, C cells each -/
def RdX {X : Type} (cells : X → List Value) (C : Nat) (w : World) (A : Option Addr) (L : List X) : Prop :=
  ∀ i (h : i < L.length), ∃ b off, A = some ⟨b, off, none⟩ ∧ ∀ q u, (cells L[i])[q]? = some u → w.cell? ⟨b, off + i * C + q, none⟩ = some u
section
variable {X : Type} {cells : X → List Value} {C : Nat} {w w' : World} {A : Option Addr} {L : List X}
theorem RdX.block (h : RdX cells C w A L) (hb : ∀ ad, A = some ad → ad.block < w.heap.size → w'.heap[ad.block]? = w.heap[ad.block]?) : RdX cells C w' A L := fun i hi => by
  obtain ⟨b, off, hA, hc⟩ := h i hi
  exact ⟨b, off, hA, fun q u hq => (World.cell?_of_block (w := w) (a := ⟨b, off + i * C + q, none⟩) (hb ⟨b, off, none⟩ hA (show b < w.heap.size from block_lt_of_cell (hc q u hq)))).trans (hc q u hq)⟩
theorem RdX.below (h : RdX cells C w A L) (hb : Below w.heap.size w w') : RdX cells C w' A L := h.block fun _ _ hlt => hb.block _ hlt
end
section
variable {H : Type} {enc : TypeId × Value → H} {P : Program} {w : World}
theorem weights_all {e : TypeId} : ∀ (l : List (DataW H)) (n : Nat), (DataW.weightsAll P e l).all (· ≤ n) = true → ∀ d ∈ l, (d.weights P e).all (· ≤ n) = true
  | [], _, _, d, hd => by simp at hd
  | x :: r, n, h, d, hd => by
    rw [DataW.weightsAll, List.all_append, Bool.and_eq_true] at h
    rcases List.mem_cons.1 hd with rfl | hd
    · exact h.1
    · exact weights_all r n h.2 d hd
theorem open_seq {X : Type} [Inhabited X] (cells : X → List Value) (C : Nat) (ok : World → X → Prop) {t e : TypeId} {v : Value} {d : DataW H} {ps : List MemPlace} {base : Nat} {r : Reach} (ht : P.underlying t = some (.slice e)) (hC : P.cellsOf e = C) (hC0 : 0 < C) (hb : 1 ≤ P.bytesOf e)
    (hel : ∀ n cs x, cs.length = C → DataW.trod enc P w 0 (fun _ => true) true n e cs = some x → (x.1.weights P e).all (· ≤ reachBytes) = true → ∃ y : X, cs = cells y ∧ ok w y)
    (hv : Value.okWide P w r base t v) (h : DataW.Trod enc P w 0 (fun _ => true) true t v d ps) (hz : (d.weights P t).all (· ≤ reachBytes) = true) :
    ∃ (A : Option Addr) (c : Nat) (L : List X), v = .slice A L.length c ∧ L.length ≤ c ∧ c ≤ 140737488351232 ∧ (∀ x ∈ L, ok w x) ∧ RdX cells C w A L := by
  obtain ⟨a0, len0, cap0, rfl⟩ := okWide_slice ht hv
  obtain ⟨fuel, hf⟩ := h
  rcases Go.Deep.open_slice ht hf with ⟨hcs, _⟩ | ⟨a, len, cap, m, n, D, Pl, hcs, _, hl, hm, hmm, hx, hi⟩
  · simp [Value.cells] at hcs
    obtain ⟨rfl, rfl, rfl⟩ := hcs
    exact ⟨none, 0, [], rfl, by simp, by omega, fun x hx => by simp at hx, fun i hi => by simp at hi⟩
  · simp [Value.cells] at hcs
    obtain ⟨rfl, rfl, rfl⟩ := hcs
    simp only [if_true] at hmm
    subst hmm
    simp only [Prod.mk.injEq] at hx
    obtain ⟨rfl, rfl⟩ := hx
    rw [DataW.weights, ht] at hz
    simp only [List.all_cons, List.all_append, Bool.and_eq_true, decide_eq_true_eq, List.length_map, List.length_range] at hz
    have hreach : m ≤ 140737488351232 := by
      have h3 : reachBytes = 140737488351232 := by decide
      have h4 := hz.1
      rw [h3] at h4
      have h5 : (len0 + (m - len0)) * 1 ≤ (len0 + (m - len0)) * P.bytesOf e := Nat.mul_le_mul_left _ hb
      omega
    have hex : ∀ i, i < len0 → ∃ y : X, ok w y ∧ w.cells? 0 (a.add (i * C)) C = some (cells y) := fun i hil => by
      obtain ⟨cs', h1, h2⟩ := hi i (by omega)
      obtain ⟨y, hy, hok⟩ := hel n cs' _ (by rw [← hC]; exact (World.cells?_some h1).2.1) h2 (weights_all _ _ hz.2.1 _ (List.mem_map.2 ⟨i, List.mem_range.2 hil, rfl⟩))
      refine ⟨y, hok, ?_⟩
      rw [← hy, ← hC]; exact h1
    obtain ⟨Y, hY⟩ := Go.Deep.choose_lt (α := X) (p := fun i y => ok w y ∧ w.cells? 0 (a.add (i * C)) C = some (cells y)) hex
    have hlen : ((List.range len0).map Y).length = len0 := by simp
    refine ⟨some a, m, (List.range len0).map Y, by rw [hlen], by rw [hlen]; exact hl, hreach, fun x hx => ?_, fun i hil => ?_⟩
    · obtain ⟨i, hi', rfl⟩ := List.mem_map.1 hx
      exact (hY i (List.mem_range.1 hi')).1
    · rw [hlen] at hil
      obtain ⟨_, h2⟩ := hY i hil
      obtain ⟨_, hcl, hat⟩ := World.cells?_some h2
      have hYi : ((List.range len0).map Y)[i]'(by rw [hlen]; exact hil) = Y i := by simp
      rw [hYi]
      obtain ⟨b, off, spot⟩ := a
      have hcell : ∀ q u, (cells (Y i))[q]? = some u → w.cell? ((⟨b, off, spot⟩ : Addr).add (i * C + q)) = some u := fun q u hq => by
        have hql : q < C := by have := (List.getElem?_eq_some_iff.1 hq).1; omega
        rw [← Go.Deep.add_add, hat q hql, hq]
      have hs : spot = none := by
        obtain ⟨_, h20⟩ := hY 0 (by omega)
        obtain ⟨_, hcl0, hat0⟩ := World.cells?_some h20
        have h0 := hat0 0 hC0
        rw [List.getElem?_eq_getElem (by omega), Nat.zero_mul] at h0
        simpa [Addr.add] using World.cell?_spot h0
      subst hs
      refine ⟨b, off, rfl, fun q u hq => ?_⟩
      have := hcell q u hq
      rw [Addr.add_lit, ← Nat.add_assoc] at this
      exact this
/-- a page: its number, its bytes -/
structure PgX where
  num : Int
  A : Option Addr
  cap : Nat
  body : Bytes
  deriving Inhabited
def pcells (x : PgX) : List Value := [.int .i64 x.num, .slice x.A x.body.length x.cap]
structure PgOk (w : World) (x : PgX) : Prop where
  lo : -9223372036854775808 ≤ x.num
  hi : x.num ≤ 9223372036854775807
  cap : x.body.length ≤ x.cap
  le : x.cap ≤ 140737488351232
  rd : Rd w x.A x.body
/-- an entry; a root -/
structure EntX where
  h : Int
  at_ : Int
  len : Int
  tag : Int
  deriving Inhabited
def xcells (x : EntX) : List Value := [.int .i64 x.h, .int .i64 x.at_, .int .i64 x.len, .int .i64 x.tag]
structure EntOk (_w : World) (x : EntX) : Prop where
  h : -9223372036854775808 ≤ x.h ∧ x.h ≤ 9223372036854775807
  a : -9223372036854775808 ≤ x.at_ ∧ x.at_ ≤ 9223372036854775807
  l : -9223372036854775808 ≤ x.len ∧ x.len ≤ 9223372036854775807
  t : -9223372036854775808 ≤ x.tag ∧ x.tag ≤ 9223372036854775807
structure RotX where
  s : Bytes
  h : Int
  deriving Inhabited
def ycells (x : RotX) : List Value := [sv x.s, .int .i64 x.h]
structure RotOk (_w : World) (x : RotX) : Prop where
  s : x.s.length ≤ 140737488351232
  h : -9223372036854775808 ≤ x.h ∧ x.h ≤ 9223372036854775807
/-- bytes within something else -/
theorem open_bytes_in {t e : TypeId} {v : Value} {y : DataW H × List MemPlace} {n : Nat} (ht : P.underlying t = some (.slice e)) (he : P.underlying e = some (.int .u8)) (hc : P.cellsOf e = 1) (hb : P.bytesOf e = 1)
    (h : DataW.trod enc P w 0 (fun _ => true) true n t [v] = some y) (hz : (y.1.weights P t).all (· ≤ reachBytes) = true) :
    ∃ (A : Option Addr) (c : Nat) (l : Bytes), v = .slice A l.length c ∧ l.length ≤ c ∧ c ≤ 140737488351232 ∧ Rd w A l := by
  rcases open_ints ht he hc h with ⟨hcs, _⟩ | ⟨x, l, c, zs, hcs, _, hl, hm, hlen, hx, hcell, hwz⟩
  · simp at hcs
    exact ⟨none, 0, [], by simpa using hcs, by simp, by omega, Rd.nil_⟩
  · simp at hcs
    subst hcs
    have hd := congrArg Prod.fst hx
    simp only at hd
    rw [hd] at hz
    have hlen' : zs.length = c := by simpa using hlen
    have hreach : c ≤ 140737488351232 := by
      have := List.all_eq_true.1 hz ((zs.take l).length * 1 + (zs.drop l).length * 1) (by
        simp [DataW.weights, ht, hb, lits, Nat.mul_one, hlen'])
      have h2 := of_decide_eq_true this
      simp [hlen'] at h2
      have h3 : reachBytes = 140737488351232 := by decide
      omega
    refine ⟨some x, c, (toBytes zs).take l, ?_, ?_, hreach, ?_⟩
    · simp [toBytes]; omega
    · simp [toBytes]; omega
    · intro j hj
      have hj' : j < l := by simp [toBytes] at hj; omega
      have hc0 := hcell j (by omega)
      obtain ⟨b, off, spot⟩ := x
      have hs : spot = none := by
        have hc1 := hcell 0 (by omega)
        simpa [Addr.add] using World.cell?_spot hc1
      subst hs
      refine ⟨b, off, rfl, ?_⟩
      rw [Addr.add_lit] at hc0
      rw [hc0, toBytes_at hwz j (by omega)]
      simp
/-- two fields of one cell each -/
theorem open_two {e : TypeId} {f0 f1 : Field} {n : Nat} {cs : List Value} {x : DataW H × List MemPlace} (hs : P.underlying e = some (.struct #[f0, f1])) (o0 : f0.offset = 0 ∧ P.cellsOf f0.type = 1) (o1 : f1.offset = 1 ∧ P.cellsOf f1.type = 1) (hl : cs.length = 2)
    (h : DataW.trod enc P w 0 (fun _ => true) true n e cs = some x) (hz : (x.1.weights P e).all (· ≤ reachBytes) = true) :
    ∃ v0 v1 y0 y1 m, cs = [v0, v1] ∧ DataW.trod enc P w 0 (fun _ => true) true m f0.type [v0] = some y0 ∧ DataW.trod enc P w 0 (fun _ => true) true m f1.type [v1] = some y1 ∧ (y0.1.weights P f0.type).all (· ≤ reachBytes) = true ∧ (y1.1.weights P f1.type).all (· ≤ reachBytes) = true := by
  match cs, hl with
  | [c0, c1], _ =>
    obtain ⟨xs, m, _, hx, _, hlen, hg⟩ := DataW.trod_struct hs h
    match xs, hlen with
    | [y0, y1], _ =>
      have t0 : DataW.trod enc P w 0 (fun _ => true) true m f0.type [c0] = some y0 := by simpa [o0.1, o0.2] using hg 0 f0 rfl
      have t1 : DataW.trod enc P w 0 (fun _ => true) true m f1.type [c1] = some y1 := by simpa [o1.1, o1.2] using hg 1 f1 rfl
      rw [hx] at hz
      simp [DataW.weights, hs, DataW.weightsEach, List.all_append] at hz
      exact ⟨c0, c1, y0, y1, m, rfl, t0, t1, by simpa using hz.1, by simpa using hz.2⟩
end
end Go.Proofs.YtnceheienlekaaaDoor
/- append of whatever slice onto one of the call's own; clear of a part of a row of bytes. -/
namespace Go.Proofs.YtnceheienlekaaaDoor
open Go.RowKit

/-- the slice that begins at A has these cells, each element of so many -/
structure Src (w : World) (size : Nat) (A : Option Addr) (m : Nat) (news : List Value) : Prop where
  len : news.length = m * size
  cells : ∀ j u, news[j]? = some u → ∃ ad, A = some ad ∧ w.cell? (ad.add j) = some u
theorem Src.of_own {w : World} {base e size n : Nat} {v : Value} {xs : List Value} (h : w.ownsRow base e size v n xs) : ∃ A c, v = .slice A n c ∧ n ≤ c ∧ Src w size A n xs := by
  rcases h.2 with ⟨rfl, rfl⟩ | ⟨g, cap, cur, rfl, _, hh, hc, hm, hz, ht⟩
  · have hx : xs = [] := List.eq_nil_of_length_eq_zero (by have := h.1; simpa using this)
    subst hx
    exact ⟨none, 0, rfl, Nat.le_refl _, by simp, fun j u hu => by simp at hu⟩
  · exact ⟨_, cap, rfl, hc, h.1, fun j u hu => ⟨_, rfl, h.cells (g := g) rfl j u hu⟩⟩
theorem Src.below {w w' : World} {size : Nat} {A : Option Addr} {m : Nat} {news : List Value} (h : Src w size A m news) (hb : Below w.heap.size w w') : Src w' size A m news :=
  ⟨h.len, fun j u hu => by
    obtain ⟨ad, hA, hc⟩ := h.cells j u hu
    exact ⟨ad, hA, (hb.cell (p := ad.add j) (World.block_lt_of_cell? w _ hc)).trans hc⟩⟩
theorem Src.of_rd {w : World} {A : Option Addr} {l : Bytes} (h : Rd w A l) : Src w 1 A l.length (l.map bv) :=
  ⟨by simp, fun j u hu => by
    have hj : j < l.length := by
      have := (List.getElem?_eq_some_iff.1 hu).1
      simpa using this
    obtain ⟨b, off, rfl, hc⟩ := h j hj
    refine ⟨_, rfl, ?_⟩
    rw [Addr.add_lit, hc, ← hu]
    simp [hj]⟩
section
variable {P : Program}
theorem run_append_src (w : World) (base : Nat) (t ty e : TypeId) (i : TypeInfo) (z : Value) (size bytes : Nat) (ht : P.underlying t = some (.slice e)) (hi : P.info? e = some i) (hz : i.zero = some z)
    (hsize : i.size = size) (hby : i.bytes = bytes) (hzs : z.cells.size = size) (hsz : 0 < size)
    (v : Value) (n : Nat) (xs : List Value) (hown : w.ownsRow base e size v n xs) (A : Option Addr) (m c : Nat) (news : List Value) (hr : Src w size A m news) (h1 : ∀ u ∈ news, u.oneCell' = true)
    (h63 : n + m ≤ maxLen) (hbytes : (n + m) * bytes ≤ 140737488355328) (hbase : base ≤ w.heap.size) :
    ∃ v' w', (Builtin.append_ #[t, t] ty #[v, .slice A m c]).run P w = .ok v' w' ∧ w'.ownsRow base e size v' (n + m) (xs ++ news) ∧ w.grownBy w' v.ownBlock ∧ (v'.ownBlock = v.ownBlock ∨ v'.ownBlock = some w.heap.size) := by
  rcases A with _ | ad
  · have hx : news = [] := by
      cases news with
      | nil => rfl
      | cons u r => obtain ⟨ad, h, _⟩ := hr.cells 0 u (by simp); cases h
    subst hx
    have hm : m = 0 := by
      have h2 := hr.len
      rcases Nat.eq_zero_or_pos m with h0 | h0
      · exact h0
      · have := Nat.mul_pos h0 hsz
        simp only [List.length_nil] at h2
        omega
    subst hm
    refine ⟨v, w, ?_, by simpa using hown, World.grownBy.refl w _, .inl rfl⟩
    rcases hown.2 with ⟨rfl, rfl⟩ | ⟨g, cap, cur, rfl, _, _, hnc, _⟩
    · simp [Builtin.append_, run_underlying ht, sizeOf, typeInfo, hi, Builtin.lenOf, Builtin.firstCells]
    · simp [Builtin.append_, run_underlying ht, sizeOf, typeInfo, hi, Builtin.lenOf, Builtin.firstCells, hnc, storeCells]
  · have hcells : ∀ j u, news[j]? = some u → w.cell? (ad.add j) = some u := fun j u hu => by
      obtain ⟨ad', h, hc⟩ := hr.cells j u hu
      injection h with h
      subst h
      exact hc
    obtain ⟨v', w', hrun, h2, h3, _, h5⟩ := run_append_own_at (P := P) w base t ty e i z size bytes ht hi hz hsize hby hzs hsz v n xs hown ad m c news hr.len hcells h1 h63 hbytes hbase
    exact ⟨v', w', hrun, h2, h3, h5⟩
theorem wp_append_src (w : World) {o : Oper} {a : Act} {K : Act → World → Prop} {Q : Exit → Act → World → Prop} (s x : Operand) (t : TypeId)
    (ho : o.op = .call { callee := .builtin .append, args := #[s, x], argTypes := #[t, t] })
    (base : Nat) (e : TypeId) (i : TypeInfo) (z : Value) (size bytes : Nat) (ht : P.underlying t = some (.slice e)) (hi : P.info? e = some i) (hz : i.zero = some z)
    (hsize : i.size = size) (hby : i.bytes = bytes) (hzs : z.cells.size = size) (hsz : 0 < size)
    (v : Value) (n : Nat) (xs : List Value) (hs : a.eval s = v) (hown : w.ownsRow base e size v n xs) (A : Option Addr) (m c : Nat) (news : List Value) (hx : a.eval x = .slice A m c) (hr : Src w size A m news) (h1 : ∀ u ∈ news, u.oneCell' = true)
    (h63 : n + m ≤ maxLen) (hbytes : (n + m) * bytes ≤ 140737488355328) (hbase : base ≤ w.heap.size)
    (h : ∀ v' w', w'.ownsRow base e size v' (n + m) (xs ++ news) → w.grownBy w' v.ownBlock → (v'.ownBlock = v.ownBlock ∨ v'.ownBlock = some w.heap.size) → K (a.put o.dst v') w') : o.wp P a w K Q := by
  obtain ⟨v', w', hrun, h2, h3, h4⟩ := run_append_src (P := P) w base t o.type e i z size bytes ht hi hz hsize hby hzs hsz v n xs hown A m c news hr h1 h63 hbytes hbase
  unfold Oper.wp execOp
  simp only [ho, resolve, invoke, builtin, Sem.run_bind, Sem.run_pure, Result.andThen_ok, List.map_toArray, List.map_cons, List.map_nil, hs, hx, hrun]
  exact h v' w' h2 h3 h4
theorem wpList_append_src (w : World) {ops : Array Oper} {rest : List Oper} {o : Oper} {a : Act} {Q : Exit → Act → World → Prop} (hgd : o.guard = none) (s x : Operand) (t : TypeId)
    (ho : o.op = .call { callee := .builtin .append, args := #[s, x], argTypes := #[t, t] })
    (base : Nat) (e : TypeId) (i : TypeInfo) (z : Value) (size bytes : Nat) (ht : P.underlying t = some (.slice e)) (hi : P.info? e = some i) (hz : i.zero = some z)
    (hsize : i.size = size) (hby : i.bytes = bytes) (hzs : z.cells.size = size) (hsz : 0 < size)
    (v : Value) (n : Nat) (xs : List Value) (hs : a.eval s = v) (hown : w.ownsRow base e size v n xs) (A : Option Addr) (m c : Nat) (news : List Value) (hx : a.eval x = .slice A m c) (hr : Src w size A m news) (h1 : ∀ u ∈ news, u.oneCell' = true)
    (h63 : n + m ≤ maxLen) (hbytes : (n + m) * bytes ≤ 140737488355328) (hbase : base ≤ w.heap.size)
    (h : ∀ v' w', w'.ownsRow base e size v' (n + m) (xs ++ news) → w.grownBy w' v.ownBlock → (v'.ownBlock = v.ownBlock ∨ v'.ownBlock = some w.heap.size) → wpList P ops Q rest (a.put o.dst v') w') : wpList P ops Q (o :: rest) a w :=
  wpList_plain hgd fun _ hK => wp_append_src w s x t ho base e i z size bytes ht hi hz hsize hby hzs hsz v n xs hs hown A m c news hx hr h1 h63 hbytes hbase fun v' w' h2 h3 h4 => hK _ _ (h v' w' h2 h3 h4)
theorem step_append_src (w : World) {ops : Array Oper} {o : Oper} {a : Act} {K : Act → World → Prop} {Q : Exit → Act → World → Prop} {E : Prop} (hgd : o.guard = none) (s x : Operand) (t : TypeId)
    (ho : o.op = .call { callee := .builtin .append, args := #[s, x], argTypes := #[t, t] })
    (base : Nat) (e : TypeId) (i : TypeInfo) (z : Value) (size bytes : Nat) (ht : P.underlying t = some (.slice e)) (hi : P.info? e = some i) (hz : i.zero = some z)
    (hsize : i.size = size) (hby : i.bytes = bytes) (hzs : z.cells.size = size) (hsz : 0 < size)
    (v : Value) (n : Nat) (xs : List Value) (hs : a.eval s = v) (hown : w.ownsRow base e size v n xs) (A : Option Addr) (m c : Nat) (news : List Value) (hx : a.eval x = .slice A m c) (hr : Src w size A m news) (h1 : ∀ u ∈ news, u.oneCell' = true)
    (h63 : n + m ≤ maxLen) (hbytes : (n + m) * bytes ≤ 140737488355328) (hbase : base ≤ w.heap.size)
    (h : ∀ v' w', w'.ownsRow base e size v' (n + m) (xs ++ news) → w.grownBy w' v.ownBlock → (v'.ownBlock = v.ownBlock ∨ v'.ownBlock = some w.heap.size) → K (a.put o.dst v') w') :
    if Region.wanted o (yielded ops a.tmps) = true then Oper.wp P o a w K Q else E := by
  have hw : Region.wanted o (yielded ops a.tmps) = true := by simp [Region.wanted, hgd]
  rw [if_pos hw]
  exact wp_append_src w s x t ho base e i z size bytes ht hi hz hsize hby hzs hsz v n xs hs hown A m c news hx hr h1 h63 hbytes hbase h
end

/-- n zeros -/
theorem zeros_bv (n : Nat) : (List.replicate n (0 : UInt8)).map bv = List.replicate n (.int .u8 0) := by simp
theorem zero_byte (w : World) : (zeroValue 5).run Tryd.prog w = .ok (.int .u8 0) w := by kernel_rfl
theorem run_clear_row (w : World) (g o n c : Nat) (cur : Array Value) (T : Nat) (hg : w.heap[g]? = some (.cells cur T (0, 0))) (hn : 0 < n) (hfit : o + n ≤ cur.size) (ty : TypeId) :
    (Builtin.clear_ #[41] ty #[.slice (some ⟨g, o, none⟩) n c]).run Tryd.prog w = .ok (.tuple #[]) (w.setRow g (setB cur o ((List.replicate n (0 : UInt8)).map bv))) := by
  have hst := run_storeCells_at Tryd.prog g o T (List.replicate n (.int .u8 0)) 0 cur w hg (by simp; omega) (by intro v hv; rw [List.eq_of_mem_replicate hv]; rfl)
  have hzc : (Builtin.zeroCells (Value.int IntKind.u8 0).cells n).toList = List.replicate n (.int .u8 0) := by
    rw [show (Value.int IntKind.u8 0).cells = #[Value.int IntKind.u8 0] from rfl]
    simp [Builtin.zeroCells]
    apply List.ext_getElem
    · simp
    · intro i h1 h2; simp [Nat.mod_one]
  rw [zeros_bv]
  obtain ⟨m, rfl⟩ : ∃ m, n = m + 1 := ⟨n - 1, by omega⟩
  simp only [Nat.add_zero] at hst
  have hv := zero_byte
  simp [Builtin.clear_, run_underlying Tryd.underlying41, hv, hzc, hst, setB, splice]
theorem grownBy_setRow (w : World) (g : Nat) (x : Array Value) : w.grownBy (w.setRow g x) (some g) := by
  refine ⟨rfl, rfl, rfl, ?_, fun k hk hne => ?_⟩
  · exact (below_setRow (B := g) (Below.refl _ w) (Nat.le_refl _) x).size
  · have hkg : k ≠ g := fun e => hne (by rw [e])
    rcases Nat.lt_or_gt_of_ne hkg with h | h
    · exact (below_setRow (B := g) (Below.refl _ w) (Nat.le_refl _) x).block k h
    · simp [World.setRow, Array.getElem?_modify, hkg.symm]
/-- s[i:k], s[i:] of bytes, wherever they lie -/
theorem run_cutA (A : Option Addr) (n c i k : Nat) (hik : i ≤ k) (hkc : k ≤ c) (W : World) :
    (Instr.sliceAt 41 (.slice A n c) (some (.int .i64 i)) (some (.int .i64 k)) none).run Tryd.prog W = .ok (.slice (if c = i then A else A.map (·.add i)) (k - i) (c - i)) W := by
  obtain ⟨i0, hi0, hz0, hz1, hz2⟩ := info_parts byte_info
  simp [Instr.sliceAt, Instr.slice, Instr.sliceBounds, Instr.sliceBound, run_underlying Tryd.underlying41, asIntOf, sizeOf, typeInfo, hi0, hz1, hik, hkc]
theorem run_tailA (A : Option Addr) (n c i : Nat) (hin : i ≤ n) (W : World) :
    (Instr.sliceAt 41 (.slice A n c) (some (.int .i64 i)) none none).run Tryd.prog W = .ok (.slice (if c = i then A else A.map (·.add i)) (n - i) (c - i)) W := by
  obtain ⟨i0, hi0, hz0, hz1, hz2⟩ := info_parts byte_info
  simp [Instr.sliceAt, Instr.slice, Instr.sliceBounds, Instr.sliceBound, run_underlying Tryd.underlying41, asIntOf, sizeOf, typeInfo, hi0, hz1, hin]
theorem run_headA (A : Option Addr) (n c k : Nat) (hkc : k ≤ c) (W : World) :
    (Instr.sliceAt 41 (.slice A n c) none (some (.int .i64 k)) none).run Tryd.prog W = .ok (.slice A k c) W := by
  obtain ⟨i0, hi0, hz0, hz1, hz2⟩ := info_parts byte_info
  cases A <;> simp [Instr.sliceAt, Instr.slice, Instr.sliceBounds, Instr.sliceBound, run_underlying Tryd.underlying41, asIntOf, sizeOf, typeInfo, hi0, hkc, Addr.add]
end Go.Proofs.YtnceheienlekaaaDoor
/- Slices of the call's own, element by element. -/
namespace Go.Proofs.YtnceheienlekaaaDoor
open Go.RowKit

theorem flat_at {X : Type} (f : X → List Value) (C : Nat) (hC : ∀ x, (f x).length = C) : ∀ (L : List X) (i : Nat) (h : i < L.length) (q : Nat), q < C → (L.flatMap f)[i * C + q]? = (f L[i])[q]?
  | [], i, h, _, _ => absurd h (by simp)
  | x :: r, 0, _, q, hq => by
    rw [List.flatMap_cons, Nat.zero_mul, Nat.zero_add, List.getElem?_append_left (by rw [hC]; exact hq)]; rfl
  | x :: r, i + 1, h, q, hq => by
    have hx := hC x
    rw [List.flatMap_cons, List.getElem?_append_right (by rw [hx, Nat.succ_mul]; omega), hx, show (i + 1) * C + q - C = i * C + q by rw [Nat.succ_mul]; omega]
    exact flat_at f C hC r i (by simpa using h) q hq
section
variable {X : Type} {f : X → List Value} {C : Nat} {w : World} {base : Nat} {e : TypeId} {v : Value} {A : Option Addr} {n c : Nat} {L : List X}
theorem own_at (hC : ∀ x, (f x).length = C) (h : w.ownsRow base e C (.slice A n c) n (L.flatMap f)) (k : Nat) (hk : k < L.length) (h0 : 0 < n) :
    ∃ g off, A = some ⟨g, off, none⟩ ∧ base ≤ g ∧ g < w.heap.size ∧ ∀ q u, (f L[k])[q]? = some u → w.cell? ⟨g, off + k * C + q, none⟩ = some u := by
  rcases h.2 with ⟨he, hn0⟩ | ⟨g, cap, cur, he, hb, hh, _⟩
  · omega
  · injection he with he
    subst he
    refine ⟨g, 0, rfl, hb, (Array.getElem?_eq_some_iff.1 hh).1, fun q u hq => ?_⟩
    have hqC : q < C := by rw [← hC L[k]]; exact (List.getElem?_eq_some_iff.1 hq).1
    have := h.cells (g := g) rfl (k * C + q) u (by rw [flat_at f C hC L k hk q hqC]; exact hq)
    rw [Addr.add_lit] at this
    rw [Nat.add_assoc]
    exact this
theorem own_split (h : w.ownsRow base e C v n (L.flatMap f)) : ∃ A c, v = .slice A n c ∧ n ≤ c ∧ c ≤ maxLen := by
  rcases h.2 with ⟨rfl, rfl⟩ | ⟨g, cap, cur, rfl, _, hh, hc, hm, _⟩
  · exact ⟨none, 0, rfl, Nat.le_refl _, by simp [maxLen]⟩
  · exact ⟨_, cap, rfl, hc, hm⟩
theorem own_rdX3 (hC : ∀ x, (f x).length = C) (hn : L.length = n) (h : w.ownsRow base e C (.slice A n c) n (L.flatMap f)) : RdX f C w A L := fun i hi => by
  obtain ⟨g, off, hA, _, _, hc⟩ := own_at hC h i hi (by omega)
  exact ⟨g, off, hA, hc⟩
end
structure Bel (w0 w : World) : Prop where
  out : Below w0.heap.size w0 w
theorem Bel.below {w0 w w' : World} (h : Bel w0 w) (hb : Below w.heap.size w w') : Bel w0 w' := ⟨h.out.trans (hb.mono h.out.size)⟩
structure RowW (w : World) (e g cap : Nat) (l : Bytes) : Prop where
  row : Row w e g cap l
theorem RowW.below {w w' : World} {e g cap : Nat} {l : Bytes} (h : RowW w e g cap l) (hb : Below w.heap.size w w') : RowW w' e g cap l := ⟨h.row.below hb h.row.lt⟩
structure OwnR (w : World) (base e size : Nat) (v : Value) (n : Nat) (xs : List Value) : Prop where
  own : w.ownsRow base e size v n xs
theorem OwnR.below {w w' : World} {base e size : Nat} {v : Value} {n : Nat} {xs : List Value} (h : OwnR w base e size v n xs) (hb : Below w.heap.size w w') : OwnR w' base e size v n xs := ⟨own_below h.own hb⟩
end Go.Proofs.YtnceheienlekaaaDoor
/- Extents: plain words; the contract of extent.Check. -/
namespace Go.Proofs.YtnceheienlekaaaDoor
open Go.RowKit

abbrev Ext := Int × Int
def tcells (x : Ext) : List Value := [.int .i64 x.1, .int .i64 x.2]
theorem tcells_len (x : Ext) : (tcells x).length = 2 := rfl
def badX (n : Int) (e : Ext) : Bool := decide (e.2 < 1) || decide (e.1 < 0) || decide (n < e.2) || decide (n - e.2 < e.1)
def hitX (e o : Ext) : Bool := decide (e.1 < o.1 + o.2) && decide (o.1 < e.1 + e.2)
/-- the fault of the element k -/
def faultX (n : Int) (l : List Ext) (k : Nat) (e : Ext) : Nat := if badX n e = true then 1 else if (l.take k).any (hitX e) = true then 7 else 0
def loopX (n : Int) (l : List Ext) : Nat → Nat
  | 0 => 0
  | k + 1 => if loopX n l k = 0 then faultX n l k (l.getD k (0, 0)) else loopX n l k
/-- what is wrong with extents -/
def chkX (n : Int) (l : List Ext) : Nat := if n < 0 ∨ 6400 < n then 1 else if 200 < l.length then 4 else loopX n l l.length
theorem loopX_stop (n : Int) (l : List Ext) (k : Nat) (h : loopX n l k ≠ 0) : ∀ m, k ≤ m → loopX n l m = loopX n l k
  | 0, hm => by obtain rfl : k = 0 := by omega
                rfl
  | m + 1, hm => by
    by_cases hk : k = m + 1
    · rw [hk]
    · have := loopX_stop n l k h m (by omega)
      rw [loopX, if_neg (by rw [this]; exact h), this]
theorem loopX_zero (n : Int) (l : List Ext) : ∀ k, loopX n l k = 0 → ∀ j, j < k → faultX n l j (l.getD j (0, 0)) = 0
  | 0, _, j, hj => by omega
  | k + 1, h, j, hj => by
    rw [loopX] at h
    split at h
    · rename_i h0
      rcases Nat.lt_succ_iff_lt_or_eq.1 hj with h' | rfl
      · exact loopX_zero n l k h0 j h'
      · exact h
    · rename_i h0; exact absurd h h0
theorem badX_false {n : Int} {e : Ext} (h : badX n e = false) : 1 ≤ e.2 ∧ 0 ≤ e.1 ∧ e.2 ≤ n ∧ e.1 + e.2 ≤ n := by
  unfold badX at h
  simp only [Bool.or_eq_false_iff, decide_eq_false_iff_not] at h
  omega
theorem faultX_zero {n : Int} {l : List Ext} {k : Nat} {e : Ext} (h : faultX n l k e = 0) : badX n e = false ∧ (l.take k).any (hitX e) = false := by
  unfold faultX at h
  split at h
  · cases h
  · rename_i h1
    split at h
    · cases h
    · rename_i h2
      exact ⟨by simpa using h1, by simpa using h2⟩
theorem RdX.take {X : Type} {cells : X → List Value} {C : Nat} {w : World} {A : Option Addr} {L : List X} (h : RdX cells C w A L) (k : Nat) : RdX cells C w A (L.take k) := fun i hi => by
  have hi' : i < L.length := by rw [List.length_take] at hi; omega
  obtain ⟨b, off, hA, hc⟩ := h i hi'
  exact ⟨b, off, hA, fun q u hq => hc q u (by rwa [List.getElem_take] at hq)⟩
/-- the closure of Check -/
theorem hit1_any (e x : Ext) (Bx : Nat) (W : World) (h1 : W.cell? ⟨Bx, 0, none⟩ = some (.int .i64 e.1)) (h2 : W.cell? ⟨Bx, 1, none⟩ = some (.int .i64 e.2)) (he : 0 ≤ e.1 ∧ e.1 ≤ 6400 ∧ 0 ≤ e.2 ∧ e.2 ≤ 6400) (hx : 0 ≤ x.1 ∧ x.1 ≤ 6400 ∧ 0 ≤ x.2 ∧ x.2 ≤ 6400) :
    Calls Tryd.prog 65 #[.agg #[.int .i64 x.1, .int .i64 x.2], .pointer (some ⟨Bx, 0, none⟩)] W fun e' w' => e' = .returned (.bool (hitX e x)) ∧ Below W.heap.size W w' := by
  obtain ⟨e1, e2⟩ := e
  obtain ⟨x1, x2⟩ := x
  dsimp only at *
  have hlt := block_lt_of_cell h1
  have hW : Below W.heap.size W (W.alloc (.cells #[.int .i64 x1, .int .i64 x2] 123)) := (Below.refl _ _).alloc (Nat.le_refl _) _
  have s1 : IntKind.i64.wrap (x1 + x2) = x1 + x2 := IntWalk.i64_in _ (by omega)
  have s2 : IntKind.i64.wrap (e1 + e2) = e1 + e2 := IntWalk.i64_in _ (by omega)
  unfold hitX
  dsimp only
  by_cases hc : e1 < x1 + x2
  · have d1 : decide (e1 < x1 + x2) = true := by simpa using hc
    go_enter Tryd.func65, Tryd.ntmps65
    go_wp2_with fail
    go_ret
    exact ⟨by simp, hW⟩
  · have d1 : decide (e1 < x1 + x2) = false := by simpa using hc
    go_enter Tryd.func65, Tryd.ntmps65
    go_wp2_with fail
    go_ret
    exact ⟨by simp, hW⟩
theorem idxX_check (p : Ext → Bool) (A : Option Addr) (n c : Nat) (L : List Ext) (cap : Value) (w : World) (hn : L.length = n) (hl : n ≤ 1000) (hr : RdX tcells 2 w A L)
    (hP : ∀ x ∈ L, ∀ W, Below w.heap.size w W → Calls Tryd.prog 65 #[.agg #[.int .i64 x.1, .int .i64 x.2], cap] W fun e w' => e = .returned (.bool (p x)) ∧ Below W.heap.size W w') :
    Calls Tryd.prog 77 #[.slice A n c, .func (.func 65) #[] #[cap]] w fun e w' => ∃ z : Int, e = .returned (.int .i64 z) ∧ decide (0 ≤ z) = L.any p ∧ Below w.heap.size w w' := by
  subst hn
  have HP := Hidden.mk hP
  clear hP
  go_enter Tryd.func77, Tryd.ntmps77
  go_wp2_with fail
  go_loopw [8] (fun i wr => Below w.heap.size w wr ∧ ∃ k : Nat, k ≤ L.length ∧ i = .int .i64 k ∧ Hidden (∀ x ∈ L.take k, p x = false)) (fun i _ => L.length - (intOf i).toNat)
  case atStart => exact ⟨Below.refl _ _, 0, Nat.zero_le _, rfl, ⟨by simp⟩⟩
  case round =>
    obtain ⟨hbel, k, hk, rfl, hnot⟩ := hrel
    by_cases hlt : k < L.length
    · obtain ⟨b, off, rfl, hcx⟩ := (hr.below hbel) k hlt
      have c0 := hcx 0 _ rfl
      have c1 := hcx 1 _ rfl
      rw [Nat.add_zero] at c0
      have hp := HP.out L[k] (List.getElem_mem hlt) wr hbel
      have HPK := Hidden.mk hp
      have i0 : (0 : Int) ≤ k := by omega
      have i1 : (k : Int) < L.length := by omega
      clear hp hcx
      go_wp2_with fail
      refine (HPK.out).mono ?_
      rintro e w1 ⟨rfl, hb1⟩
      have hB1 := hbel.trans (hb1.mono hbel.size)
      cases he : p L[k] with
      | true =>
        have hi : Hidden (true = L.any p) := ⟨(List.any_eq_true.2 ⟨L[k], List.getElem_mem hlt, he⟩).symm⟩
        clear he hb1 hbel
        go_wp2_with fail
        go_ret
        exact ⟨_, rfl, by rw [← hi.out]; simp, hB1⟩
      | false =>
        have hnk : Hidden (∀ x ∈ L.take (k + 1), p x = false) := ⟨forall_take_succ' hlt hnot.out he⟩
        clear he hnot hb1 hbel
        go_wp2_with fail
        go_roundw
        case rel => exact ⟨hB1, k + 1, by omega, by go_num, hnk⟩
        case measure => simp [intOf]; omega
    · have hi : Hidden (false = L.any p) := ⟨by
        have := hnot.out
        rw [List.take_of_length_le (by omega)] at this
        symm; simpa using this⟩
      go_wp2_with fail
      go_ret
      exact ⟨-1, rfl, by rw [← hi.out]; rfl, hbel⟩
theorem cfX_check (p : Ext → Bool) (A : Option Addr) (n c : Nat) (L : List Ext) (cap : Value) (w : World) (hn : L.length = n) (hl : n ≤ 1000) (hr : RdX tcells 2 w A L)
    (hP : ∀ x ∈ L, ∀ W, Below w.heap.size w W → Calls Tryd.prog 65 #[.agg #[.int .i64 x.1, .int .i64 x.2], cap] W fun e w' => e = .returned (.bool (p x)) ∧ Below W.heap.size W w') :
    Calls Tryd.prog 64 #[.slice A n c, .func (.func 65) #[] #[cap]] w fun e w' => e = .returned (.bool (L.any p)) ∧ Below w.heap.size w w' := by
  have HC := Hidden.mk (idxX_check p A n c L cap w hn hl hr hP)
  clear hP
  go_enter Tryd.func64, Tryd.ntmps64
  go_wp2_with fail
  refine HC.out.mono ?_
  rintro e w1 ⟨z, rfl, hz, hb⟩
  have HZ := Hidden.mk hz
  clear hz
  go_wp2_with fail
  go_ret
  exact ⟨congrArg (fun b => Ending.returned (.bool b)) HZ.out, hb⟩
theorem run_headX (A : Option Addr) (n c k : Nat) (hkc : k ≤ c) (W : World) :
    (Instr.sliceAt 69 (.slice A n c) none (some (.int .i64 k)) none).run Tryd.prog W = .ok (.slice A k c) W := by
  obtain ⟨i0, hi0, hz0, hz1, hz2⟩ := info_parts (show (Tryd.prog.info? 123).map (fun i => (i.zero, i.size, i.bytes)) = some (some (.agg #[.int .i64 0, .int .i64 0]), 2, 16) by kernel_rfl)
  cases A <;> simp [Instr.sliceAt, Instr.slice, Instr.sliceBounds, Instr.sliceBound, run_underlying Tryd.underlying69, asIntOf, sizeOf, typeInfo, hi0, hkc, Addr.add]
set_option maxRecDepth 100000 in
theorem xcheck_any (n : Int) (A : Option Addr) (m c : Nat) (l : List Ext) (w : World) (hl : l.length = m) (hmc : m ≤ c) (hr : RdX tcells 2 w A l) :
    Calls Tryd.prog 32 #[.int .i64 n, .slice A m c] w fun e w' => e = .returned (errV (chkX n l)) ∧ Below w.heap.size w w' := by
  by_cases h1 : n < 0
  · have HC : Hidden (chkX n l = 1) := ⟨by unfold chkX; rw [if_pos (.inl h1)]⟩
    clear hr hl
    go_enter Tryd.func32, Tryd.ntmps32
    go_wp2_with fail
    go_ret
    exact ⟨by rw [HC.out]; rfl, Below.refl _ _⟩
  by_cases h2 : 6400 < n
  · have HC : Hidden (chkX n l = 1) := ⟨by unfold chkX; rw [if_pos (.inr h2)]⟩
    clear hr hl
    go_enter Tryd.func32, Tryd.ntmps32
    go_wp2_with fail
    go_ret
    exact ⟨by rw [HC.out]; rfl, Below.refl _ _⟩
  have d1 : decide (n < 0) = false := by simpa using h1
  have d2 : decide (6400 < n) = false := by simpa using h2
  by_cases h3 : 200 < m
  · have HC : Hidden (chkX n l = 4) := ⟨by unfold chkX; rw [if_neg (by omega), if_pos (by omega)]⟩
    have d3 : decide (200 < m) = true := by simpa using h3
    clear hr hl
    go_enter Tryd.func32, Tryd.ntmps32
    go_wp2_with fail
    go_ret
    exact ⟨by rw [HC.out]; rfl, Below.refl _ _⟩
  have d3 : decide (200 < m) = false := by simpa using h3
  have HC : Hidden (chkX n l = loopX n l m) := ⟨by unfold chkX; rw [if_neg (by omega), if_neg (by omega), hl]⟩
  have HL := Hidden.mk hl
  have HR := Hidden.mk hr
  clear hr hl
  go_enter Tryd.func32, Tryd.ntmps32
  go_wp2_with fail
  go_loopg [22] m (fun q i wr => ∃ k : Nat, k ≤ m ∧ q = m - k ∧ i = .int .i64 (k : Int) ∧ Hidden (Below w.heap.size w wr ∧ loopX n l k = 0))
  case atStart => exact ⟨0, by omega, rfl, rfl, ⟨Below.refl _ _, rfl⟩⟩
  case round =>
    obtain ⟨k, hk, rfl, rfl, hst⟩ := hrel
    by_cases hlt : k < m
    · have hkl : k < l.length := by have := HL.out; omega
      obtain ⟨p, off, rfl, hcx⟩ := (HR.out.below hst.out.1) k hkl
      have c0 := hcx 0 _ rfl
      have c1 := hcx 1 _ rfl
      rw [Nat.add_zero] at c0
      have HF : Hidden (loopX n l (k + 1) = faultX n l k l[k]) := ⟨by rw [loopX, if_pos hst.out.2]; simp [hkl]⟩
      have HG : Hidden (faultX n l k l[k] = if badX n l[k] = true then 1 else if (l.take k).any (hitX l[k]) = true then 7 else 0) := ⟨rfl⟩
      have HBX : Hidden (badX n l[k] = (decide (l[k].2 < 1) || decide (l[k].1 < 0) || decide (n < l[k].2) || decide (n - l[k].2 < l[k].1))) := ⟨rfl⟩
      have HEND : Hidden (∀ x, x ≠ 0 → loopX n l (k + 1) = x → chkX n l = x) := ⟨fun x hx he => by rw [HC.out, loopX_stop n l (k + 1) (by rw [he]; exact hx) m (by omega), he]⟩
      have k0 : (0 : Int) ≤ k := by omega
      have k1 : (k : Int) < m := by omega
      have HEL : Hidden (l[k].1 = l[k].1 ∧ l[k].2 = l[k].2) := ⟨rfl, rfl⟩
      have hall : ∀ j, j < k → badX n (l.getD j (0, 0)) = false := fun j hj => (faultX_zero (loopX_zero n l k hst.out.2 j hj)).1
      have hprev : ∀ x ∈ l.take k, 0 ≤ x.1 ∧ x.1 ≤ 6400 ∧ 0 ≤ x.2 ∧ x.2 ≤ 6400 := fun x hx => by
        obtain ⟨j, hj, rfl⟩ := List.getElem_of_mem hx
        rw [List.length_take] at hj
        have := hall j (by omega)
        rw [List.getElem_take]
        have he : l.getD j (0, 0) = l[j] := by simp [show j < l.length by omega]
        rw [he] at this
        have := badX_false this
        omega
      have HPREV := Hidden.mk hprev
      have hrt := (HR.out.below hst.out.1).take k
      have HRT := Hidden.mk hrt
      clear hcx hall hprev hrt
      have HHIT : Hidden (∀ x : Ext, hitX l[k] x = hitX (l[k].1, l[k].2) x) := ⟨fun _ => rfl⟩
      generalize hlk : l[k] = e at *
      obtain ⟨e1, e2⟩ := e
      dsimp only at HF HG HBX c0 c1 HHIT
      have hal : Below wr.heap.size wr (wr.alloc (.cells #[.int .i64 e1, .int .i64 e2] 123)) := (Below.refl _ _).alloc (Nat.le_refl _) _
      have HB2 : Hidden (Below w.heap.size w (wr.alloc (.cells #[.int .i64 e1, .int .i64 e2] 123))) := ⟨hst.out.1.trans (hal.mono hst.out.1.size)⟩
      have hbk : (wr.alloc (.cells #[.int .i64 e1, .int .i64 e2] 123)).heap[wr.heap.size]? = some (.cells #[.int .i64 e1, .int .i64 e2] 123 (0, 0)) := heap_alloc_new wr _
      have HBK := Hidden.mk hbk
      have HLK := Hidden.mk hlk
      have HRT2 := Hidden.mk (HRT.out.below hal)
      clear hal hbk hlk HEL HRT
      by_cases b1 : e2 < 1
      · have t1 : decide (e2 < 1) = true := by simpa using b1
        have HE := Hidden.mk (HEND.out 1 (by decide) (by rw [HF.out, HG.out, if_pos (by rw [HBX.out, t1]; rfl)]))
        go_wp2_with fail
        go_ret
        exact ⟨by rw [HE.out]; rfl, HB2.out⟩
      have t1 : decide (e2 < 1) = false := by simpa using b1
      by_cases b2 : e1 < 0
      · have t2 : decide (e1 < 0) = true := by simpa using b2
        have HE := Hidden.mk (HEND.out 1 (by decide) (by rw [HF.out, HG.out, if_pos (by rw [HBX.out, t1, t2]; rfl)]))
        go_wp2_with fail
        go_ret
        exact ⟨by rw [HE.out]; rfl, HB2.out⟩
      have t2 : decide (e1 < 0) = false := by simpa using b2
      by_cases b3 : n < e2
      · have t3 : decide (n < e2) = true := by simpa using b3
        have HE := Hidden.mk (HEND.out 1 (by decide) (by rw [HF.out, HG.out, if_pos (by rw [HBX.out, t1, t2, t3]; rfl)]))
        go_wp2_with fail
        go_ret
        exact ⟨by rw [HE.out]; rfl, HB2.out⟩
      have t3 : decide (n < e2) = false := by simpa using b3
      have s1 : IntKind.i64.wrap (n - e2) = n - e2 := IntWalk.i64_in _ (by omega)
      by_cases b4 : n - e2 < e1
      · have t4 : decide (n - e2 < e1) = true := by simpa using b4
        have HE := Hidden.mk (HEND.out 1 (by decide) (by rw [HF.out, HG.out, if_pos (by rw [HBX.out, t1, t2, t3, t4]; rfl)]))
        go_wp2_with fail
        go_ret
        exact ⟨by rw [HE.out]; rfl, HB2.out⟩
      have t4 : decide (n - e2 < e1) = false := by simpa using b4
      have HBAD : Hidden (badX n (e1, e2) = false) := ⟨by rw [HBX.out, t1, t2, t3, t4]; rfl⟩
      have hsl := run_headX (some ⟨p, off, none⟩) m c k (by omega)
      go_wp2_with fail
      generalize wr.alloc (.cells #[.int .i64 e1, .int .i64 e2] 123) = w2 at *
      generalize wr.heap.size = Bx at *
      clear c0 c1 b1 b2 b3 b4
      have y0 : ∀ W, Below w2.heap.size w2 W → W.cell? ⟨Bx, 0, none⟩ = some (.int .i64 e1) ∧ W.cell? ⟨Bx, 1, none⟩ = some (.int .i64 e2) := fun W hW => by
        have hb := (hW.block _ (Array.getElem?_eq_some_iff.1 HBK.out).1).trans HBK.out
        exact ⟨by simp [World.cell?, hb], by simp [World.cell?, hb]⟩
      have hb2 := badX_false HBAD.out
      have hcf := cfX_check (hitX (e1, e2)) (some ⟨p, off, none⟩) k c (l.take k) (.pointer (some ⟨Bx, 0, none⟩)) w2 (by rw [List.length_take]; omega) (by omega) HRT2.out
        (fun x hx W hW => hit1_any (e1, e2) x Bx W (y0 W hW).1 (y0 W hW).2 (by dsimp only at hb2 ⊢; omega) (HPREV.out x hx))
      have HCF := Hidden.mk hcf
      clear hcf y0 hb2
      refine HCF.out.mono ?_
      rintro e w3 ⟨rfl, hb⟩
      have HB3 := Hidden.mk (HB2.out.trans (hb.mono HB2.out.size))
      clear hb
      cases hq : (l.take k).any (hitX (e1, e2)) with
      | true =>
        have HE := Hidden.mk (HEND.out 7 (by decide) (by rw [HF.out, HG.out, if_neg (by rw [HBAD.out]; decide), if_pos hq]))
        clear hq
        go_wp2_with fail
        go_ret
        exact ⟨by rw [HE.out]; rfl, HB3.out⟩
      | false =>
        have HE : Hidden (loopX n l (k + 1) = 0) := ⟨by rw [HF.out, HG.out, if_neg (by rw [HBAD.out]; decide), if_neg (by rw [hq]; decide)]⟩
        have q1 : IntKind.i64.wrap ((k : Int) + 1) = (k : Int) + 1 := IntWalk.i64_in _ (by omega)
        clear hq
        go_wp2_with fail
        go_roundg (m - (k + 1))
        case measure => omega
        case rel => exact ⟨k + 1, by omega, rfl, by go_num, ⟨HB3.out, HE.out⟩⟩
    · obtain rfl : k = m := by omega
      have HF : Hidden (chkX n l = 0) := ⟨by rw [HC.out]; exact hst.out.2⟩
      go_wp2_with fail
      go_ret
      exact ⟨by rw [HF.out]; rfl, hst.out.1⟩
end Go.Proofs.YtnceheienlekaaaDoor
/- A row of structs that the library has sorted: what it holds then. No program in sight. -/
namespace Go.Proofs.YtnceheienlekaaaDoor
open Go.RowKit Go.Sort Go.Shelf Go.Lib

theorem flatK_list {α : Type} [Inhabited α] (enc : α → List Value) (k : Nat) (hk : ∀ x, (enc x).length = k) (h0 : 0 < k) (d : Array α) : (flatK enc k d).toList = d.toList.flatMap enc := by
  apply List.ext_getElem?
  intro t
  by_cases ht : t < d.size * k
  · have h1 : t / k < d.size := by rw [Nat.div_lt_iff_lt_mul h0]; exact ht
    have h2 := flat_at enc k hk d.toList (t / k) (by simpa using h1) (t % k) (Nat.mod_lt _ h0)
    rw [Nat.div_add_mod' t k] at h2
    rw [h2]
    have h3 : t < (flatK enc k d).size := by simpa using ht
    have h4 := get_flatK enc k d t ht
    rw [getElem!_pos _ t h3] at h4
    rw [Array.getElem?_toList, Array.getElem?_eq_getElem h3, h4]
    have h5 : t % k < (enc d[t / k]!).length := by rw [hk]; exact Nat.mod_lt _ h0
    have h6 : d[t / k]! = d.toList[t / k]'(by simpa using h1) := by rw [getElem!_pos d (t / k) h1, Array.getElem_toList]
    rw [getElem!_pos (enc d[t / k]!) (t % k) h5, ← h6, List.getElem?_eq_getElem h5]
  · have hl : (d.toList.flatMap enc).length = d.size * k := by
      rw [List.length_flatMap]
      have : d.toList.map (fun x => (enc x).length) = List.replicate d.size k := by
        rw [List.eq_replicate_iff]
        exact ⟨by simp, fun b hb => by obtain ⟨x, _, rfl⟩ := List.mem_map.1 hb; exact hk x⟩
      rw [this]; simp
    rw [List.getElem?_eq_none (by rw [Array.length_toList, size_flatK]; omega), List.getElem?_eq_none (by omega)]
theorem take_putCellsK (cur F : Array Value) (h : F.size ≤ cur.size) : (putCells id 0 F cur).toList.take F.size = F.toList := by
  apply List.ext_getElem?
  intro j
  by_cases hj : j < F.size
  · rw [List.getElem?_take_of_lt hj, Array.getElem?_toList]
    simp [putCells, hj, show j < cur.size by omega]
  · rw [List.getElem?_take_eq_none (by omega), List.getElem?_eq_none (by simp; omega)]
theorem holdsK_own {α : Type} [Inhabited α] {enc : α → List Value} {k : Nat} (hk : ∀ x, (enc x).length = k) (h0 : 0 < k) {w : World} {base : Nat} {e : TypeId} {g n cap : Nat} {L : List α} (h : w.ownsRow base e k (.slice (some ⟨g, 0, none⟩) n cap) n (L.flatMap enc)) :
    HoldsK enc k w g 0 L.toArray := by
  rcases h.2 with ⟨h1, _⟩ | ⟨g', cap', cur, he, _, hh, _⟩
  · cases h1
  · injection he with he _ hcap
    injection he with he
    injection he with he
    subst he hcap
    intro j hj
    have hf := flatK_list enc k hk h0 L.toArray
    have hj' : j < L.length * k := by simpa using hj
    have hc : (L.flatMap enc)[j]? = some ((flatK enc k L.toArray)[j]!) := by
      have : (flatK enc k L.toArray).toList[j]? = some ((flatK enc k L.toArray)[j]!) := by
        rw [getElem!_pos _ j hj, Array.getElem?_toList, Array.getElem?_eq_getElem hj]
      rw [hf] at this
      simpa using this
    have := h.cells (g := g) rfl j _ hc
    rw [Addr.add_lit] at this
    exact ⟨this, by simp [World.frozen?, hh]⟩
theorem own_sortedK {α : Type} [Inhabited α] {enc : α → List Value} {k : Nat} (hk : ∀ x, (enc x).length = k) (h0 : 0 < k) {w : World} {base : Nat} {e : TypeId} {g n cap m : Nat} {L : List α} {d : Array α} {os : Array Obj} (hd : d.size = n) (h : w.ownsRow base e k (.slice (some ⟨g, 0, none⟩) n cap) n (L.flatMap enc)) :
    (sortWorldK enc k w g 0 m d os).ownsRow base e k (.slice (some ⟨g, 0, none⟩) n cap) n (d.toList.flatMap enc) ∧ w.grownBy (sortWorldK enc k w g 0 m d os) (some g) := by
  rcases h.2 with ⟨h1, _⟩ | ⟨g', cap', cur, he, hb, hh, hc, hm, hz, ht⟩
  · cases h1
  · injection he with he _ hcap
    injection he with he
    injection he with he
    subst he hcap
    have hg : g < w.heap.size := (Array.getElem?_eq_some_iff.1 hh).1
    have hfs : (flatK enc k d).size = n * k := by simp [hd]
    have hheap : (sortWorldK enc k w g 0 m d os).heap[g]? = some (.cells (putCells id 0 (flatK enc k d) cur) e (0, 0)) := by
      unfold sortWorldK
      rw [heap_grow_old _ _ (by simpa [putRowK] using hg)]
      simp [putRowK, putRow, mapBlock, Sort.ahead, Array.getElem?_modify, hh, onCells]
    have hle : n * k ≤ cap * k := Nat.mul_le_mul_right _ hc
    refine ⟨⟨?_, .inr ⟨g, cap, _, rfl, hb, hheap, hc, hm, by simp [putCells, hz], ?_⟩⟩, ?_⟩
    · rw [← flatK_list enc k hk h0 d, Array.length_toList, hfs]
    · rw [← hfs, take_putCellsK _ _ (by rw [hfs, hz]; exact hle), flatK_list enc k hk h0 d]
    · unfold sortWorldK
      refine ⟨rfl, rfl, rfl, by simp [putRowK], fun q hq hne => ?_⟩
      rw [heap_grow_old _ _ (by simpa [putRowK] using hq)]
      have : g ≠ q := fun e => hne (by rw [e])
      simp [putRowK, putRow, mapBlock, Sort.ahead, Array.getElem?_modify, this]
/-- sorted as the library sorts -/
def pdqL {α : Type} [Inhabited α] (cf : α → α → Int) (l : List α) : List α := (pdq (ltOf cf) l.toArray 0 l.length (Lib.bitLen l.length) true true).toList
theorem pdqL_perm {α : Type} [Inhabited α] (cf : α → α → Int) (hO : SWO (ltOf cf)) (l : List α) : (pdqL cf l).Perm l ∧ (pdqL cf l).Pairwise (fun a b => ltOf cf b a = false) := by
  have h := pdq_sorts (ltOf cf) hO l.toArray 0 l.length (Lib.bitLen l.length) true true (Nat.zero_le _) (by simp) (Or.inl rfl)
  obtain ⟨⟨hs, _, hp⟩, hsort⟩ := h
  have hs' : (pdq (ltOf cf) l.toArray 0 l.length (Lib.bitLen l.length) true true).size = l.length := by simpa using hs
  refine ⟨?_, ?_⟩
  · unfold pdqL
    have e1 : ∀ d : Array α, d.size = l.length → (d.extract 0 l.length).toList = d.toList := fun d hd => by
      rw [← hd]; simp
    rw [e1 _ hs', e1 _ (by simp)] at hp
    simpa using hp
  · unfold pdqL
    rw [List.pairwise_iff_getElem]
    intro i j hi hj hij
    have h1 := hsort i j (Nat.zero_le _) hij (by rw [Array.length_toList] at hj; omega)
    rw [getElem!_pos _ j (by simpa using hj), getElem!_pos _ i (by simpa using hi)] at h1
    simpa using h1
end Go.Proofs.YtnceheienlekaaaDoor
/- Laid: library functions whose contracts are proved over whatever program: the table of numbers, and a field a function or a type. -/
namespace Go.Proofs.YtnceheienlekaaaDoor
open Go.Shelf
def layX_ren : Go.Shelf.Ren := ⟨fun | 6 => 79 | 15 => 89 | 14 => 90 | 28 => 104 | 29 => 105 | 20 => 106 | 21 => 107 | 22 => 108 | 23 => 109 | 24 => 110 | 25 => 111 | 26 => 112 | 27 => 113 | 46 => 119 | 47 => 115 | 48 => 116 | 49 => 120 | 50 => 121 | 57 => 123 | n => n, fun | 22 => 69 | 24 => 123 | 25 => 138 | 3 => 3 | 39 => 154 | 0 => 0 | 53 => 179 | 55 => 181 | 4 => 4 | 46 => 171 | 45 => 170 | 50 => 176 | 5 => 5 | 9 => 9 | 66 => 187 | 70 => 191 | 76 => 195 | 77 => 196 | n => n, fun | n => n⟩
theorem layX : Go.Proofs.SlLaysF0.n6 Tryd.prog layX_ren := {
  mixed := by kernel_rfl
  f6 := ⟨Tryd.f79.name, by decide, Tryd.func79.trans (congrArg some (by kernel_rfl))⟩
  f14 := ⟨Tryd.f90.name, by decide, Tryd.func90.trans (congrArg some (by kernel_rfl))⟩
  f15 := Tryd.func89.trans (congrArg some (by kernel_rfl))
  f20 := ⟨Tryd.f106.name, by decide, Tryd.func106.trans (congrArg some (by kernel_rfl))⟩
  f21 := ⟨Tryd.f107.name, by decide, Tryd.func107.trans (congrArg some (by kernel_rfl))⟩
  f22 := ⟨Tryd.f108.name, by decide, Tryd.func108.trans (congrArg some (by kernel_rfl))⟩
  f23 := ⟨Tryd.f109.name, by decide, Tryd.func109.trans (congrArg some (by kernel_rfl))⟩
  f24 := ⟨Tryd.f110.name, by decide, Tryd.func110.trans (congrArg some (by kernel_rfl))⟩
  f25 := ⟨Tryd.f111.name, by decide, Tryd.func111.trans (congrArg some (by kernel_rfl))⟩
  f26 := ⟨Tryd.f112.name, by decide, Tryd.func112.trans (congrArg some (by kernel_rfl))⟩
  f27 := ⟨Tryd.f113.name, by decide, Tryd.func113.trans (congrArg some (by kernel_rfl))⟩
  f28 := Tryd.func104.trans (congrArg some (by kernel_rfl))
  f29 := Tryd.func105.trans (congrArg some (by kernel_rfl))
  f46 := ⟨Tryd.f119.name, by decide, Tryd.func119.trans (congrArg some (by kernel_rfl))⟩
  f47 := Tryd.func115.trans (congrArg some (by kernel_rfl))
  f48 := Tryd.func116.trans (congrArg some (by kernel_rfl))
  f49 := ⟨Tryd.f120.name, by decide, Tryd.func120.trans (congrArg some (by kernel_rfl))⟩
  f50 := ⟨Tryd.f121.name, by decide, Tryd.func121.trans (congrArg some (by kernel_rfl))⟩
  f57 := ⟨Tryd.f123.name, by decide, Tryd.func123.trans (congrArg some (by kernel_rfl))⟩
  t0 := Tryd.underlying0
  a0 := Tryd.isAgg0
  z0 := Tryd.sizeOf0
  v0 := Tryd.zeroValue0
  t3 := Tryd.underlying3
  a3 := Tryd.isAgg3
  z3 := Tryd.sizeOf3
  v3 := Tryd.zeroValue3
  t4 := Tryd.underlying4
  a4 := Tryd.isAgg4
  z4 := Tryd.sizeOf4
  v4 := Tryd.zeroValue4
  t5 := Tryd.underlying5
  a5 := Tryd.isAgg5
  z5 := Tryd.sizeOf5
  v5 := Tryd.zeroValue5
  t9 := Tryd.underlying9
  a9 := Tryd.isAgg9
  z9 := Tryd.sizeOf9
  v9 := Tryd.zeroValue9
  t22 := Tryd.underlying69
  a22 := Tryd.isAgg69
  z22 := Tryd.sizeOf69
  v22 := Tryd.zeroValue69
  t25 := Tryd.underlying138
  a25 := Tryd.isAgg138
  z25 := Tryd.sizeOf138
  v25 := Tryd.zeroValue138
  t39 := Tryd.underlying154
  a39 := Tryd.isAgg154
  z39 := Tryd.sizeOf154
  v39 := Tryd.zeroValue154
  t45 := Tryd.underlying170
  a45 := Tryd.isAgg170
  z45 := Tryd.sizeOf170
  v45 := Tryd.zeroValue170
  t46 := Tryd.underlying171
  a46 := Tryd.isAgg171
  z46 := Tryd.sizeOf171
  v46 := Tryd.zeroValue171
  t50 := Tryd.underlying176
  a50 := Tryd.isAgg176
  z50 := Tryd.sizeOf176
  v50 := Tryd.zeroValue176
  t53 := Tryd.underlying179
  a53 := Tryd.isAgg179
  z53 := Tryd.sizeOf179
  v53 := Tryd.zeroValue179
  t55 := Tryd.underlying181
  a55 := Tryd.isAgg181
  z55 := Tryd.sizeOf181
  v55 := Tryd.zeroValue181
  t66 := Tryd.underlying187
  a66 := Tryd.isAgg187
  z66 := Tryd.sizeOf187
  v66 := Tryd.zeroValue187
  t70 := Tryd.underlying191
  a70 := Tryd.isAgg191
  z70 := Tryd.sizeOf191
  v70 := Tryd.zeroValue191
  t76 := Tryd.underlying195
  a76 := Tryd.isAgg195
  z76 := Tryd.sizeOf195
  v76 := Tryd.zeroValue195
  t77 := Tryd.underlying196
  a77 := Tryd.isAgg196
  z77 := Tryd.sizeOf196
  v77 := Tryd.zeroValue196 }
end Go.Proofs.YtnceheienlekaaaDoor
/- The contract of extent.Holes. -/
namespace Go.Proofs.YtnceheienlekaaaDoor
open Go.RowKit Go.Sort Go.Shelf Go.Lib

def cmpX (x y : Ext) : Int := Lib.compareInt x.1 y.1
theorem ltX (x y : Ext) : ltOf cmpX x y = decide (x.1 < y.1) := by
  unfold ltOf cmpX Lib.compareInt
  by_cases h1 : x.1 < y.1
  · simp [h1]
  · by_cases h2 : y.1 < x.1 <;> simp [h1, h2]
theorem swoX : SWO (ltOf cmpX) where
  irrefl x := by rw [ltX]; simp
  trans x y z h1 h2 := by rw [ltX] at *; simp at *; omega
  ntrans x y z h1 h2 := by rw [ltX] at *; simp at *; omega
/-- extents by where they begin -/
def sortE (l : List Ext) : List Ext := pdqL cmpX l
theorem sortE_perm (l : List Ext) : (sortE l).Perm l := (pdqL_perm cmpX swoX l).1
theorem sortE_sorted (l : List Ext) : (sortE l).Pairwise (fun a b => a.1 ≤ b.1) := (pdqL_perm cmpX swoX l).2.imp fun {a b} h => by
  rw [ltX] at h; simp at h; omega
/-- runs between -/
def holesGo : Int → List Ext → List Ext
  | _, [] => []
  | at_, e :: r => (if at_ < e.1 then [(at_, e.1 - at_)] else []) ++ holesGo (e.1 + e.2) r
def holesX (n : Int) (l : List Ext) : List Ext := holesGo 0 (sortE l ++ [(n, 0)])

theorem compare_any (x y : Int) (w : World) : Calls Tryd.prog 81 #[.int .i64 x, .int .i64 y] w fun e w' => e = .returned (.int .i64 (Lib.compareInt x y)) ∧ w = w' := by
  have hn : ∀ z : Int, ∀ W, Calls Tryd.prog 91 #[.int .i64 z] W fun e w' => e = .returned (.bool false) ∧ W = w' := fun z W => by
    go_enter Tryd.func91, Tryd.ntmps91
    go_wp2
    go_ret
    exact ⟨by simp, rfl⟩
  have HN := Hidden.mk hn
  have HC : Hidden (Lib.compareInt x y = if x < y then -1 else if y < x then 1 else 0) := ⟨by unfold Lib.compareInt; rfl⟩
  clear hn
  by_cases h1 : x < y
  · have d1 : decide (x < y) = true := by simpa using h1
    have HV : Hidden (Lib.compareInt x y = -1) := ⟨by rw [HC.out, if_pos h1]⟩
    go_enter Tryd.func81, Tryd.ntmps81
    go_wp2_with (first | (go_at_call 91; refine (HN.out _ _).mono ?_; rintro e w' ⟨rfl, rfl⟩))
    go_ret
    exact ⟨ret_i64 HV.out.symm, rfl⟩
  have d1 : decide (x < y) = false := by simpa using h1
  by_cases h2 : y < x
  · have d2 : decide (y < x) = true := by simpa using h2
    have HV : Hidden (Lib.compareInt x y = 1) := ⟨by rw [HC.out, if_neg h1, if_pos h2]⟩
    go_enter Tryd.func81, Tryd.ntmps81
    go_wp2_with (first | (go_at_call 91; refine (HN.out _ _).mono ?_; rintro e w' ⟨rfl, rfl⟩))
    go_ret
    exact ⟨ret_i64 HV.out.symm, rfl⟩
  have d2 : decide (y < x) = false := by simpa using h2
  have HV : Hidden (Lib.compareInt x y = 0) := ⟨by rw [HC.out, if_neg h1, if_neg h2]⟩
  go_enter Tryd.func81, Tryd.ntmps81
  go_wp2_with (first | (go_at_call 91; refine (HN.out _ _).mono ?_; rintro e w' ⟨rfl, rfl⟩))
  go_ret
  exact ⟨ret_i64 HV.out.symm, rfl⟩
/-- the closure of Holes -/
theorem closeX (x y : Ext) (W : World) : Calls Tryd.prog 80 #[.agg #[.int .i64 x.1, .int .i64 x.2], .agg #[.int .i64 y.1, .int .i64 y.2]] W fun e w' => e = .returned (.int .i64 (cmpX x y)) ∧ ∃ q os', w' = grow (W.drewN q) os' := by
  have hcon := fun W' => compare_any x.1 y.1 W'
  have HC := Hidden.mk hcon
  have HX : Hidden (cmpX x y = Lib.compareInt x.1 y.1) := ⟨rfl⟩
  clear hcon
  rw [HX.out]
  generalize Lib.compareInt x.1 y.1 = r at *
  go_enter Tryd.func80, Tryd.ntmps80
  go_wp2_with (go_at_call 81; refine (HC.out _).mono ?_; rintro e w' ⟨rfl, rfl⟩)
  go_ret
  exact ⟨rfl, 0, _, by rw [alloc_eq_grow, alloc_eq_grow, grow_grow]; rfl⟩
theorem sortX_any (w : World) (base n : Nat) (v : Value) (L : List Ext) (hn : L.length = n) (hl : n ≤ 1000) (hown : w.ownsRow base 123 2 v n (L.flatMap tcells)) :
    Calls Tryd.prog 79 #[v, .func (.func 80) #[] #[]] w fun e w' => e = .returned (.tuple #[]) ∧ w'.ownsRow base 123 2 v n ((sortE L).flatMap tcells) ∧ w.grownBy w' v.ownBlock := by
  rcases hown.2 with ⟨rfl, h0⟩ | ⟨g, cap, cur, rfl, hb, hh, _⟩
  · have hL : L = [] := List.eq_nil_of_length_eq_zero (by omega)
    subst hL h0
    have hs : sortE [] = [] := List.Perm.eq_nil (sortE_perm [])
    have hc := AnyF.slices_SortFunc_none layX none 0 (.func (.func 80) #[] #[]) w
    change Calls Tryd.prog 79 _ _ _ at hc
    refine hc.mono ?_
    rintro e w' ⟨rfl, rfl⟩
    exact ⟨rfl, by rw [hs]; exact hown, World.grownBy.refl _ _⟩
  · have eg : ∀ args w, (callFunc 80 args).run Tryd.prog w = .ok (.enter 80 args) w := enters_of Tryd.func80 (by kernel_rfl) rfl
    have hcon := AnyQ.slices_SortFunc_eq layX 2 Tryd.isAgg123 Tryd.sizeOf123 tcells tcells_len (fun x v hv => by simp [tcells] at hv; rcases hv with rfl | rfl <;> rfl) cmpX swoX 80 #[] g 0 cap L.toArray w eg
      (fun _ _ _ _ x y => closeX x y _) (holdsK_own tcells_len (by omega) hown) (Array.getElem?_eq_some_iff.1 hh).1 (by simp; omega)
    change Calls Tryd.prog 79 _ _ _ at hcon
    have hsz : L.toArray.size = n := by simpa using hn
    rw [hsz] at hcon
    refine hcon.mono ?_
    rintro e w' ⟨rfl, m, os, rfl⟩
    have hds : (pdq (ltOf cmpX) L.toArray 0 n (Lib.bitLen n) true true).size = n := by
      have := (sortE_perm L).length_eq
      unfold sortE pdqL at this
      rw [Array.length_toList, hn] at this
      exact this
    have h2 := own_sortedK (m := m) (os := os) tcells_len (by omega) hds hown
    refine ⟨rfl, ?_, h2.2⟩
    have he : sortE L = (pdq (ltOf cmpX) L.toArray 0 n (Lib.bitLen n) true true).toList := by unfold sortE pdqL; rw [hn]
    rw [he]
    exact h2.1
theorem Src.of_rdX {X : Type} {cells : X → List Value} {C : Nat} (hC : ∀ x, (cells x).length = C) (h0 : 0 < C) {w : World} {A : Option Addr} {n : Nat} {L : List X} (hn : L.length = n) (h : RdX cells C w A L) : Src w C A n (L.flatMap cells) := by
  have hlen : (L.flatMap cells).length = n * C := by
    rw [List.length_flatMap]
    have : L.map (fun x => (cells x).length) = List.replicate n C := by
      rw [List.eq_replicate_iff]
      exact ⟨by simpa using hn, fun b hb => by obtain ⟨x, _, rfl⟩ := List.mem_map.1 hb; exact hC x⟩
    rw [this]; simp
  refine ⟨hlen, fun j u hu => ?_⟩
  have hj : j < n * C := by rw [← hlen]; exact (List.getElem?_eq_some_iff.1 hu).1
  have h1 : j / C < L.length := by rw [hn, Nat.div_lt_iff_lt_mul h0]; exact hj
  obtain ⟨b, off, rfl, hc⟩ := h (j / C) h1
  have h2 := flat_at cells C hC L (j / C) h1 (j % C) (Nat.mod_lt _ h0)
  rw [Nat.div_add_mod' j C] at h2
  refine ⟨_, rfl, ?_⟩
  rw [Addr.add_lit]
  have := hc (j % C) u (h2.symm.trans hu)
  rwa [Nat.add_assoc, Nat.div_add_mod' j C] at this
theorem extent_info : (Tryd.prog.info? 123).map (fun i => (i.zero, i.size, i.bytes)) = some (some (.agg #[.int .i64 0, .int .i64 0]), 2, 16) := by kernel_rfl
theorem tcells_one (L : List Ext) : ∀ u ∈ L.flatMap tcells, u.oneCell' = true := by
  intro u hu
  obtain ⟨x, _, h⟩ := List.mem_flatMap.1 hu
  simp only [tcells, List.mem_cons, List.not_mem_nil, or_false] at h
  rcases h with rfl | rfl <;> rfl
theorem cloneX_any (A : Option Addr) (n c : Nat) (L : List Ext) (w : World) (hn : L.length = n) (hl : n ≤ 1000) (hr : RdX tcells 2 w A L) :
    Calls Tryd.prog 78 #[.slice A n c] w fun e w' => ∃ v, e = .returned v ∧ w'.ownsRow w.heap.size 123 2 v n (L.flatMap tcells) ∧ Below w.heap.size w w' := by
  have he := fun W => Lib.run_eql_slice_nil (P := Tryd.prog) W 69 123 A n c 0 0 Tryd.underlying69
  have hsrc := Src.of_rdX tcells_len (by omega) hn hr
  rcases A with _ | ad
  · have hL : L = [] := by
      cases L with
      | nil => rfl
      | cons x r => obtain ⟨b, off, h, _⟩ := hr 0 (by simp); cases h
    subst hL
    have h0 : n = 0 := by simpa using hn.symm
    subst h0
    clear hr hsrc hn
    go_enter Tryd.func78, Tryd.ntmps78
    go_wp2_with fail
    go_ret
    exact ⟨_, rfl, World.ownsRow_nil _ _ _ _, Below.refl _ _⟩
  · obtain ⟨i0, hi0, hz0, hz1, hz2⟩ := info_parts extent_info
    have hown := World.ownsRow_lit (base := w.heap.size) (e := 123) (size := 2) w #[] 0 (Nat.le_refl _) (by simp) rfl
    have HSRC := Hidden.mk (hsrc.below ((Below.refl _ _).alloc (Nat.le_refl _) (.cells #[] 123)))
    have HOW := Hidden.mk hown
    clear hsrc hown hn hr
    go_enter Tryd.func78, Tryd.ntmps78
    go_wp2_with (at_builtin; refine wpList_append_src _ rfl (.tmp 5) (.tmp 6) _ rfl w.heap.size 123 i0 _ 2 16 Tryd.underlying69 hi0 hz0 hz1 hz2 rfl (by decide) (.slice (some ⟨w.heap.size, 0, none⟩) 0 0) 0 [] rfl HOW.out (some ad) n c (L.flatMap tcells) rfl HSRC.out (tcells_one L) (by simp only [maxLen]; omega) (by omega) (by simp) ?_; intro v1 w1 hown1 hg1 hnn)
    have hB : Below w.heap.size w w1 := ((Below.refl _ _).alloc (Nat.le_refl _) _).grown hg1 (by simp) (fun k hk => by simp [Value.ownBlock] at hk; omega)
    have HO := Hidden.mk (And.intro hown1 hB)
    clear hown1 hB hg1 hnn
    go_ret
    exact ⟨v1, rfl, by simpa using HO.out.1, HO.out.2⟩
/-- what is right for Holes -/
def OkX (l : List Ext) : Prop := ∀ x ∈ l, 0 ≤ x.1 ∧ 0 ≤ x.2 ∧ x.1 + x.2 ≤ 6400
theorem own_mem {w : World} {base n : Nat} {e : TypeId} {v : Value} {xs : List Value} {C : Nat} (h : w.ownsRow base e C v n xs) (hn : 0 < n) : ∃ g cap, v = .slice (some ⟨g, 0, none⟩) n cap ∧ base ≤ g := by
  rcases h.2 with ⟨_, h0⟩ | ⟨g, cap, cur, rfl, hb, _⟩
  · omega
  · exact ⟨g, cap, rfl, hb⟩
set_option maxRecDepth 100000 in
theorem xholes_any (n : Int) (A : Option Addr) (m c : Nat) (l : List Ext) (w : World) (hn0 : 0 ≤ n) (hn1 : n ≤ 6400) (hl : l.length = m) (hm : m ≤ 200) (hr : RdX tcells 2 w A l) (hok : OkX l) :
    Calls Tryd.prog 66 #[.int .i64 n, .slice A m c] w fun e w' => ∃ v, e = .returned v ∧ w'.ownsRow w.heap.size 123 2 v (holesX n l).length ((holesX n l).flatMap tcells) ∧ Below w.heap.size w w' := by
  obtain ⟨i0, hi0, hz0, hz1, hz2⟩ := info_parts extent_info
  have HI := Hidden.mk (And.intro hi0 (And.intro hz0 (And.intro hz1 hz2)))
  have HC := Hidden.mk (cloneX_any A m c l w hl (by omega) hr)
  have HS : Hidden ((sortE l).length = m) := ⟨by rw [(sortE_perm l).length_eq]; exact hl⟩
  have HOK : Hidden (OkX (sortE l ++ [(n, 0)])) := ⟨fun x hx => by
    rcases List.mem_append.1 hx with h | h
    · exact hok x ((sortE_perm l).mem_iff.1 h)
    · rw [List.mem_singleton.1 h]; dsimp only; omega⟩
  have HH : Hidden (holesX n l = holesGo 0 (sortE l ++ [(n, 0)])) := ⟨rfl⟩
  have HSORT : Hidden (∀ W v, W.ownsRow w.heap.size 123 2 v m (l.flatMap tcells) → Calls Tryd.prog 79 #[v, .func (.func 80) #[] #[]] W fun e w' => e = .returned (.tuple #[]) ∧ w'.ownsRow w.heap.size 123 2 v m ((sortE l).flatMap tcells) ∧ W.grownBy w' v.ownBlock) := ⟨fun W v h => sortX_any W _ m v l hl (by omega) h⟩
  rw [HH.out]
  generalize sortE l = S at *
  obtain ⟨X, hX⟩ : ∃ X, X = holesGo 0 (S ++ [(n, 0)]) := ⟨_, rfl⟩
  rw [← hX]
  have HX := Hidden.mk hX
  clear hX HH
  clear hi0 hz0 hz1 hz2 hr hok hl
  go_enter Tryd.func66, Tryd.ntmps66
  go_wp2_with fail
  refine HC.out.mono ?_
  rintro e w1 ⟨v1, rfl, hown1, hb1⟩
  have HO1 := Hidden.mk (And.intro hown1 hb1)
  clear hown1 hb1 HC
  go_wp2_with fail
  refine (HSORT.out _ _ HO1.out.1).mono ?_
  rintro e w2 ⟨rfl, hown2, hg2⟩
  have hb2 : Below w.heap.size w w2 := HO1.out.2.grown hg2 HO1.out.2.size (fun q hq => (HO1.out.1.lt q hq).1)
  have HO2 := Hidden.mk (And.intro hown2 hb2)
  clear hown2 hb2 hg2 HO1 HSORT
  obtain ⟨hi0, hz0, hz1, hz2⟩ := HI.out
  go_wp2_with (at_builtin; refine wpList_append_lies _ rfl (.tmp 12) (.tmp 15) _ rfl w.heap.size 123 i0 _ 2 16 Tryd.underlying69 hi0 hz0 hz1 hz2 rfl (by decide) v1 m (S.flatMap tcells) rfl (own_below HO2.out.1 ((Below.refl _ _).alloc (Nat.le_refl _) _)) ⟨(w2).heap.size, 0, none⟩ 1 1 [.int .i64 n, .int .i64 0] rfl rfl (World.news_of_block (cs := #[.int .i64 n, .int .i64 0]) (t := 123) (fr := (0, 0)) (heap_alloc_new (w2) _)) (by simp [Value.oneCell']) (by omega) (by simp only [maxLen]; omega) (by omega) (by have hz_ := HO2.out.2.size; rw [World.size_alloc]; omega) ((w2).heap.size + 1) (by simp) ?_; intro g3 cap3 w3 hown3 hg3 hat3 hlt3)
  clear hi0 hz0 hz1 hz2
  have hgW := grown_trans' ((Below.refl w2.heap.size w2).alloc (Nat.le_refl _) _) hg3
  have hB3 : Below w.heap.size w w3 := HO2.out.2.grown hgW HO2.out.2.size (fun q hq => (HO2.out.1.lt q hq).1)
  have hown3' : w3.ownsRow w.heap.size 123 2 (.slice (some ⟨g3, 0, none⟩) (m + 1) cap3) (m + 1) ((S ++ [(n, 0)]).flatMap tcells) := by simpa [tcells] using hown3
  have HSL : Hidden ((S ++ [(n, 0)]).length = m + 1) := ⟨by simp [HS.out]⟩
  generalize S ++ [(n, 0)] = T at *
  have H3 : Hidden (Below w.heap.size w w3 ∧ w3.ownsRow w.heap.size 123 2 (.slice (some ⟨g3, 0, none⟩) (m + 1) cap3) (m + 1) (T.flatMap tcells)) := ⟨hB3, hown3'⟩
  clear hgW hB3 hown3 hown3' hg3 hat3 hlt3 HO2 HS
  go_wp2_with fail
  go_loopg [4, 5, 18] (m + 1) (fun q v at_ i wr => ∃ (k : Nat) (H : List Ext) (a : Int), k ≤ m + 1 ∧ q = m + 1 - k ∧ i = .int .i64 (k : Int) ∧ at_ = .int .i64 a ∧ 0 ≤ a ∧ a ≤ 6400 ∧ H.length ≤ k ∧ Hidden (X = H ++ holesGo a (T.drop k) ∧ Below w.heap.size w wr ∧ wr.ownsRow w.heap.size 123 2 (.slice (some ⟨g3, 0, none⟩) (m + 1) cap3) (m + 1) (T.flatMap tcells) ∧ wr.ownsRow w.heap.size 123 2 v H.length (H.flatMap tcells) ∧ v.ownBlock ≠ some g3))
  case atStart => exact ⟨0, [], 0, by omega, rfl, rfl, rfl, by omega, by omega, by simp, ⟨by rw [HX.out]; simp, H3.out.1, H3.out.2, World.ownsRow_nil _ _ _ _, by simp [Value.ownBlock]⟩⟩
  case round =>
    obtain ⟨k, H, a, hk, rfl, rfl, rfl, ha0, ha1, hHk, hst⟩ := hrel
    by_cases hlt : k < m + 1
    · have hkT : k < T.length := by have := HSL.out; omega
      obtain ⟨g, off, hA, hgb, hgl, hcx⟩ := own_at tcells_len hst.out.2.2.1 k hkT (by omega)
      injection hA with hA
      injection hA with hA1 hA2
      subst hA1 hA2
      have c0 := hcx 0 _ rfl
      have c1 := hcx 1 _ rfl
      simp only [Nat.zero_add, Nat.add_zero] at c0 c1
      have hb := HOK.out T[k] (List.getElem_mem hkT)
      have HD : Hidden (T.drop k = T[k] :: T.drop (k + 1)) := ⟨(List.drop_eq_getElem_cons hkT)⟩
      have HG : Hidden (holesGo a (T.drop k) = (if a < T[k].1 then [(a, T[k].1 - a)] else []) ++ holesGo (T[k].1 + T[k].2) (T.drop (k + 1))) := ⟨by rw [HD.out]; rfl⟩
      have k0 : (0 : Int) ≤ k := by omega
      have k1 : (k : Int) < ((m + 1 : Nat) : Int) := by omega
      have k2 : k < m + 1 := hlt
      have k3 : (k : Int) < (m : Int) + 1 := by omega
      generalize T[k] = e at *
      obtain ⟨e1, e2⟩ := e
      dsimp only at c0 c1 hb HG
      obtain ⟨hb0, hb1, hb2⟩ := hb
      have hal : Below wr.heap.size wr (wr.alloc (.cells #[.int .i64 e1, .int .i64 e2] 123)) := (Below.refl _ _).alloc (Nat.le_refl _) _
      have s1 : IntKind.i64.wrap (e1 + e2) = e1 + e2 := IntWalk.i64_in _ (by omega)
      have s2 : IntKind.i64.wrap (e1 - a) = e1 - a := IntWalk.i64_in _ (by omega)
      have s3 : IntKind.i64.wrap ((k : Int) + 1) = (k : Int) + 1 := IntWalk.i64_in _ (by omega)
      have HAL := Hidden.mk hal
      clear hcx HD hal
      by_cases hlt2 : a < e1
      · have d1 : decide (a < e1) = true := by simpa using hlt2
        have HG2 : Hidden (holesGo a (T.drop k) = (a, e1 - a) :: holesGo (e1 + e2) (T.drop (k + 1))) := ⟨by rw [HG.out, if_pos hlt2]; rfl⟩
        have HBW : Hidden (Below w.heap.size w (wr.alloc (.cells #[.int .i64 e1, .int .i64 e2] 123))) := ⟨hst.out.2.1.trans (HAL.out.mono hst.out.2.1.size)⟩
        have hbk : (wr.alloc (.cells #[.int .i64 e1, .int .i64 e2] 123)).heap[wr.heap.size]? = some (.cells #[.int .i64 e1, .int .i64 e2] 123 (0, 0)) := heap_alloc_new wr _
        have HBK := Hidden.mk hbk
        have HAL2 : Hidden (Below wr.heap.size wr ((wr.alloc (.cells #[.int .i64 e1, .int .i64 e2] 123)).alloc (.cells #[.int .i64 a, .int .i64 (e1 - a)] 123))) := ⟨HAL.out.alloc HAL.out.size _⟩
        have HCELL : Hidden (∀ W, ((wr.alloc (.cells #[.int .i64 e1, .int .i64 e2] 123)).alloc (.cells #[.int .i64 a, .int .i64 (e1 - a)] 123)).grownBy W u4.ownBlock → W.cell? ⟨wr.heap.size, 0, none⟩ = some (.int .i64 e1) ∧ W.cell? ⟨wr.heap.size, 1, none⟩ = some (.int .i64 e2)) := ⟨fun W hW => by
          have hq := (hW.block wr.heap.size (by simp; omega) (fun e => by have := (hst.out.2.2.2.1.lt _ e.symm).2; omega)).trans ((Below.heap_alloc _ _ _ (by simp)).trans hbk)
          exact ⟨by simp [World.cell?, hq], by simp [World.cell?, hq]⟩⟩
        obtain ⟨hi0, hz0, hz1, hz2⟩ := HI.out
        clear hbk HG
        go_wp2_with (at_builtin; refine wpList_append_lies _ rfl (.tmp 26) (.tmp 33) _ rfl w.heap.size 123 i0 _ 2 16 Tryd.underlying69 hi0 hz0 hz1 hz2 rfl (by decide) u4 H.length (H.flatMap tcells) rfl (own_below (own_below hst.out.2.2.2.1 HAL.out) ((Below.refl _ _).alloc (Nat.le_refl _) _)) ⟨wr.heap.size + 1, 0, none⟩ 1 1 [.int .i64 a, .int .i64 (e1 - a)] rfl rfl (World.news_of_block (cs := #[.int .i64 a, .int .i64 (e1 - a)]) (t := 123) (fr := (0, 0)) (by have hq_ := heap_alloc_new (wr.alloc (.cells #[.int .i64 e1, .int .i64 e2] 123)) (.cells #[.int .i64 a, .int .i64 (e1 - a)] 123); rwa [World.size_alloc] at hq_)) (by simp [Value.oneCell']) (by omega) (by simp only [maxLen]; omega) (by omega) (by have hz_ := HBW.out.size; rw [World.size_alloc]; omega) (wr.heap.size + 1 + 1) (by simp) ?_; intro g7 cap7 w7 hown7 hg7 hat7 hlt7; have hgW := grown_trans' (HAL2.out) hg7; obtain ⟨z0, z1⟩ := HCELL.out w7 hg7)
        clear hi0 hz0 hz1 hz2
        have hB7 : Below w.heap.size w w7 := hst.out.2.1.grown hgW hst.out.2.1.size (fun q hq => (hst.out.2.2.2.1.lt q hq).1)
        have hg3n : some g3 ≠ u4.ownBlock := fun e => hst.out.2.2.2.2 e.symm
        have hT7 := hst.out.2.2.1.kept hgW (.inr (by simpa [Value.ownBlock] using hg3n))
        have hg37 : g7 ≠ g3 := fun e => by
          rcases hat7 with h | h
          · exact hst.out.2.2.2.2 (by rw [h, e])
          · omega
        have HN : Hidden (X = (H ++ [(a, e1 - a)]) ++ holesGo (e1 + e2) (T.drop (k + 1)) ∧ Below w.heap.size w w7 ∧ w7.ownsRow w.heap.size 123 2 (.slice (some ⟨g3, 0, none⟩) (m + 1) cap3) (m + 1) (T.flatMap tcells) ∧ w7.ownsRow w.heap.size 123 2 (.slice (some ⟨g7, 0, none⟩) (H.length + 1) cap7) (H ++ [(a, e1 - a)]).length ((H ++ [(a, e1 - a)]).flatMap tcells) ∧ (Value.slice (some ⟨g7, 0, none⟩) (H.length + 1) cap7).ownBlock ≠ some g3) :=
          ⟨by rw [hst.out.1, HG2.out]; simp, hB7, hT7, by simpa [tcells] using hown7, by simpa [Value.ownBlock] using hg37⟩
        clear hB7 hg3n hT7 hg37 hown7 hg7 hat7 hlt7 hgW hst HBW HBK HAL2 HCELL HG2
        go_wp2_with fail
        go_roundg (m + 1 - (k + 1))
        case measure => omega
        case rel => exact ⟨k + 1, H ++ [(a, e1 - a)], e1 + e2, by omega, rfl, by go_num, rfl, by omega, by omega, by simp; omega, HN⟩
      · have d1 : decide (a < e1) = false := by simpa using hlt2
        have HG2 : Hidden (holesGo a (T.drop k) = holesGo (e1 + e2) (T.drop (k + 1))) := ⟨by rw [HG.out, if_neg hlt2]; rfl⟩
        have HN : Hidden (X = H ++ holesGo (e1 + e2) (T.drop (k + 1)) ∧ Below w.heap.size w (wr.alloc (.cells #[.int .i64 e1, .int .i64 e2] 123)) ∧ (wr.alloc (.cells #[.int .i64 e1, .int .i64 e2] 123)).ownsRow w.heap.size 123 2 (.slice (some ⟨g3, 0, none⟩) (m + 1) cap3) (m + 1) (T.flatMap tcells) ∧ (wr.alloc (.cells #[.int .i64 e1, .int .i64 e2] 123)).ownsRow w.heap.size 123 2 u4 H.length (H.flatMap tcells) ∧ u4.ownBlock ≠ some g3) :=
          ⟨hst.out.1.trans (by rw [HG2.out]), hst.out.2.1.trans (HAL.out.mono hst.out.2.1.size), own_below hst.out.2.2.1 HAL.out, own_below hst.out.2.2.2.1 HAL.out, hst.out.2.2.2.2⟩
        clear HG HG2 hst
        go_wp2_with fail
        go_roundg (m + 1 - (k + 1))
        case measure => omega
        case rel => exact ⟨k + 1, H, e1 + e2, by omega, rfl, by go_num, rfl, by omega, by omega, by omega, HN⟩
    · obtain rfl : k = m + 1 := by omega
      have HF : Hidden (X = H) := ⟨by rw [hst.out.1, List.drop_of_length_le (by have := HSL.out; omega)]; simp [holesGo]⟩
      go_wp2_with fail
      go_ret
      exact ⟨_, rfl, by rw [HF.out]; exact hst.out.2.2.2.1, hst.out.2.1⟩
end Go.Proofs.YtnceheienlekaaaDoor
/- What stays: all but the blocks of a set. No program in sight. -/
namespace Go.Proofs.YtnceheienlekaaaDoor
open Go.RowKit

/-- all that is not in F is as it was; F: the blocks that a device takes -/
structure Keep (F : Nat → Prop) (w w' : World) : Prop where
  os : w'.os = w.os
  tape : w'.tape = w.tape
  output : w'.output = w.output
  size : w.heap.size ≤ w'.heap.size
  block : ∀ k, k < w.heap.size → ¬ F k → w'.heap[k]? = w.heap[k]?
theorem Keep.refl (F : Nat → Prop) (w : World) : Keep F w w := ⟨rfl, rfl, rfl, Nat.le_refl _, fun _ _ _ => rfl⟩
theorem Keep.trans {F F' : Nat → Prop} {a b c : World} (h : Keep F a b) (k : Keep F' b c) (hF : ∀ x, F' x → F x ∨ a.heap.size ≤ x) : Keep F a c :=
  ⟨k.os.trans h.os, k.tape.trans h.tape, k.output.trans h.output, Nat.le_trans h.size k.size, fun x hx hn =>
    (k.block x (Nat.lt_of_lt_of_le hx h.size) (fun hf => by rcases hF x hf with h' | h'; exact hn h'; omega)).trans (h.block x hx hn)⟩
theorem Keep.of_below {F : Nat → Prop} {w w' : World} (h : Below w.heap.size w w') : Keep F w w' := ⟨h.os, h.tape, h.output, h.size, fun k hk _ => h.block k hk⟩
theorem Keep.below {F : Nat → Prop} {B : Nat} {w w' : World} (h : Keep F w w') (hB : B ≤ w.heap.size) (hF : ∀ k, F k → B ≤ k) : Below B w w' :=
  ⟨h.os, h.tape, h.output, h.size, fun k hk => h.block k (by omega) (fun hf => by have := hF k hf; omega)⟩
theorem Keep.rd {F : Nat → Prop} {w w' : World} {A : Option Addr} {l : Bytes} (h : Keep F w w') (hr : Rd w A l) (hA : ∀ ad, A = some ad → ¬ F ad.block) : Rd w' A l := fun j hj => by
  obtain ⟨b, off, rfl, hc⟩ := hr j hj
  exact ⟨b, off, rfl, (World.cell?_of_block (w := w) (h.block b (block_lt_of_cell hc) (hA _ rfl))).trans hc⟩
theorem Keep.row {F : Nat → Prop} {w w' : World} {e g cap : Nat} {l : Bytes} (h : Keep F w w') (hr : Row w e g cap l) (hg : ¬ F g) : Row w' e g cap l := by
  obtain ⟨cur, h0, h1⟩ := hr
  exact ⟨cur, (h.block g (Array.getElem?_eq_some_iff.1 h0).1 hg).trans h0, h1⟩
theorem Keep.drewN {F : Nat → Prop} {w w' : World} (h : Keep F w w') (n : Nat) : Keep F w (w'.drewN n) := ⟨h.os, h.tape, h.output, h.size, h.block⟩

section
variable {w w' : World}
theorem ownsRow_block {base : Nat} {e : TypeId} {size : Nat} {v : Value} {n : Nat} {xs : List Value} (h : w.ownsRow base e size v n xs) (hb : ∀ q, v.ownBlock = some q → w'.heap[q]? = w.heap[q]?) : w'.ownsRow base e size v n xs := by
  refine ⟨h.1, ?_⟩
  rcases h.2 with hn | ⟨g, cap, cur, rfl, hb0, hgg, rest⟩
  · exact .inl hn
  · exact .inr ⟨g, cap, cur, rfl, hb0, (hb g rfl).trans hgg, rest⟩
theorem Row.block {e g cap : Nat} {l : Bytes} (h : Row w e g cap l) (hb : w'.heap[g]? = w.heap[g]?) : Row w' e g cap l := by
  obtain ⟨cur, h0, h1⟩ := h
  exact ⟨cur, hb.trans h0, h1⟩
theorem ne_cells {g : Nat} {cur cur' : Array Value} {t t' : TypeId} (h1 : w.heap[g]? = some (.cells cur t (0, 0))) {g' : Nat} (h2 : w.heap[g']? = some (.cells cur' t' (0, 0))) (hne : t ≠ t') : g ≠ g' := fun e => by
  rw [e, h2] at h1
  injection h1 with h1
  injection h1 with _ h1
  exact hne h1.symm
theorem ne_row {g : Nat} {cur : Array Value} {t : TypeId} (h1 : w.heap[g]? = some (.cells cur t (0, 0))) {e g' cap : Nat} {l : Bytes} (h2 : Row w e g' cap l) (hne : t ≠ e) : g ≠ g' := by
  obtain ⟨cur', h0, _⟩ := h2
  exact ne_cells h1 h0 hne
end
theorem heap_setK {w : World} {d k : Nat} {cur : Array Value} {t : TypeId} (h : w.heap[d]? = some (.cells cur t (0, 0))) (v : Value) : (w.setCell ⟨d, k, none⟩ v).heap[d]? = some (.cells (cur.setIfInBounds k v) t (0, 0)) := by
  rw [setCell_eq_setRow w d k cur t _ _ h]
  exact setRow_heap w d cur _ t _ h
def FourAt (w : World) (p : Nat) (a b c d : Int) : Prop := w.cell? ⟨p, 0, none⟩ = some (.int .i64 a) ∧ w.cell? ⟨p, 1, none⟩ = some (.int .i64 b) ∧ w.cell? ⟨p, 2, none⟩ = some (.int .i64 c) ∧ w.cell? ⟨p, 3, none⟩ = some (.int .i64 d)
theorem fourAt_one (w : World) (a b c d : Int) (t : TypeId) : FourAt (w.alloc (.cells #[.int .i64 a, .int .i64 b, .int .i64 c, .int .i64 d] t)) w.heap.size a b c d := by
  have h := heap_alloc_new w (.cells #[.int .i64 a, .int .i64 b, .int .i64 c, .int .i64 d] t)
  unfold FourAt
  simp only [World.cell?]
  rw [h]
  exact ⟨rfl, rfl, rfl, rfl⟩
theorem FourAt.below {w w' : World} {p : Nat} {a b c d : Int} (h : FourAt w p a b c d) (hb : Below w.heap.size w w') : FourAt w' p a b c d := by
  have hlt := block_lt_of_cell h.1
  exact ⟨(hb.cell (p := ⟨p, 0, none⟩) hlt).trans h.1, (hb.cell (p := ⟨p, 1, none⟩) hlt).trans h.2.1, (hb.cell (p := ⟨p, 2, none⟩) hlt).trans h.2.2.1, (hb.cell (p := ⟨p, 3, none⟩) hlt).trans h.2.2.2⟩
end Go.Proofs.YtnceheienlekaaaDoor
/- The contracts of extent.Frees and Fit. -/
namespace Go.Proofs.YtnceheienlekaaaDoor
open Go.RowKit

theorem chkX_ok {n : Int} {l : List Ext} (h : chkX n l = 0) : 0 ≤ n ∧ n ≤ 6400 ∧ l.length ≤ 200 ∧ OkX l ∧ (∀ j (hj : j < l.length), badX n l[j] = false ∧ (l.take j).any (hitX l[j]) = false) := by
  unfold chkX at h
  split at h
  · cases h
  · rename_i h1
    split at h
    · cases h
    · rename_i h2
      have h3 : ∀ j (hj : j < l.length), badX n l[j] = false ∧ (l.take j).any (hitX l[j]) = false := fun j hj => by
        have := faultX_zero (loopX_zero n l l.length h j hj)
        simpa [hj] using this
      refine ⟨by omega, by omega, by omega, fun x hx => ?_, h3⟩
      obtain ⟨j, hj, rfl⟩ := List.getElem_of_mem hx
      have := badX_false (h3 j hj).1
      omega
theorem holesGo_len : ∀ (a : Int) (S : List Ext), (holesGo a S).length ≤ S.length
  | _, [] => Nat.le_refl _
  | a, e :: r => by
    have := holesGo_len (e.1 + e.2) r
    rw [holesGo, List.length_append, List.length_cons]
    split <;> simp <;> omega
theorem holesX_len (n : Int) (l : List Ext) : (holesX n l).length ≤ l.length + 1 := by
  unfold holesX
  have := holesGo_len 0 (sortE l ++ [(n, 0)])
  rw [List.length_append, (sortE_perm l).length_eq] at this
  exact this
def freesL (n : Int) (l : List Ext) : List Ext := if chkX n l = 0 then holesX n l else []
set_option maxRecDepth 100000 in
theorem xfrees_any (n : Int) (A : Option Addr) (m c : Nat) (l : List Ext) (w : World) (hl : l.length = m) (hmc : m ≤ c) (hr : RdX tcells 2 w A l) :
    Calls Tryd.prog 36 #[.int .i64 n, .slice A m c] w fun e w' => ∃ v, e = .returned (.tuple #[v, errV (chkX n l)]) ∧ w'.ownsRow w.heap.size 123 2 v (freesL n l).length ((freesL n l).flatMap tcells) ∧ Below w.heap.size w w' := by
  have HC := Hidden.mk (xcheck_any n A m c l w hl hmc hr)
  have HF : Hidden (freesL n l = if chkX n l = 0 then holesX n l else []) := ⟨rfl⟩
  by_cases h0 : chkX n l = 0
  · obtain ⟨o0, o1, o2, o3, -⟩ := chkX_ok h0
    have HH : Hidden (∀ W, Below w.heap.size w W → Calls Tryd.prog 66 #[.int .i64 n, .slice A m c] W fun e w' => ∃ v, e = .returned v ∧ w'.ownsRow W.heap.size 123 2 v (holesX n l).length ((holesX n l).flatMap tcells) ∧ Below W.heap.size W w') := ⟨fun W hW => xholes_any n A m c l W o0 o1 hl (by omega) (hr.below hW) o3⟩
    rw [h0] at HC HF
    rw [show errV 0 = Value.nilIface from rfl] at HC
    rw [h0, HF.out]
    simp only [if_true]
    generalize holesX n l = X at *
    clear HF h0 hr hl o3
    go_enter Tryd.func36, Tryd.ntmps36
    go_wp2_with fail
    refine HC.out.mono ?_
    rintro e w1 ⟨rfl, hb1⟩
    have HB1 := Hidden.mk hb1
    clear hb1
    go_wp2_with fail
    refine (HH.out _ HB1.out).mono ?_
    rintro e w2 ⟨v, rfl, hown, hb2⟩
    have HR := Hidden.mk (And.intro hown (HB1.out.trans (hb2.mono HB1.out.size)))
    clear hown hb2
    go_wp2_with fail
    go_ret2
    exact ⟨v, rfl, ⟨HR.out.1.1, by
      rcases HR.out.1.2 with h | ⟨g, cap, cur, he, hb, rest⟩
      · exact .inl h
      · exact .inr ⟨g, cap, cur, he, Nat.le_trans HB1.out.size hb, rest⟩⟩, HR.out.2⟩
  · have hF : freesL n l = [] := by rw [HF.out, if_neg h0]
    rw [hF]
    have hev : errV (chkX n l) = .iface 85 (.int .i64 (chkX n l)) := by unfold errV; rw [if_neg h0]
    rw [hev] at HC ⊢
    generalize chkX n l = q at *
    clear h0 hev hF HF hr hl
    go_enter Tryd.func36, Tryd.ntmps36
    go_wp2_with fail
    refine HC.out.mono ?_
    rintro e w1 ⟨rfl, hb1⟩
    have HB1 := Hidden.mk hb1
    clear hb1
    go_wp2_with fail
    go_ret2
    exact ⟨_, rfl, World.ownsRow_nil _ _ _ _, HB1.out⟩
/-- the run that fits best -/
def bestX (size : Int) (H : List Ext) : Ext := H.foldl (fun b h => if size ≤ h.2 ∧ (b.2 = 0 ∨ h.2 < b.2) then h else b) (0, 0)
def fitE (n : Int) (l : List Ext) (size : Int) : Nat := if chkX n l = 0 then (if size < 1 ∨ 6400 < size then 1 else if (bestX size (holesX n l)).2 = 0 then 4 else 0) else chkX n l
def fitA (n : Int) (l : List Ext) (size : Int) : Int := if fitE n l size = 0 then (bestX size (holesX n l)).1 else 0
theorem bestX_succ (size : Int) (H : List Ext) (k : Nat) (hk : k < H.length) : bestX size (H.take (k + 1)) = if size ≤ H[k].2 ∧ ((bestX size (H.take k)).2 = 0 ∨ H[k].2 < (bestX size (H.take k)).2) then H[k] else bestX size (H.take k) := by
  unfold bestX
  rw [List.take_succ_eq_append_getElem hk, List.foldl_append]; rfl
theorem own_base {w : World} {b b' : Nat} {e : TypeId} {size n : Nat} {v : Value} {xs : List Value} (h : w.ownsRow b e size v n xs) (hb : b' ≤ b) : w.ownsRow b' e size v n xs := by
  refine ⟨h.1, ?_⟩
  rcases h.2 with h2 | ⟨g, cap, cur, he, hb2, rest⟩
  · exact .inl h2
  · exact .inr ⟨g, cap, cur, he, Nat.le_trans hb hb2, rest⟩
set_option maxRecDepth 100000 in
theorem xfit_any (n : Int) (A : Option Addr) (m c : Nat) (l : List Ext) (size : Int) (w : World) (hl : l.length = m) (hmc : m ≤ c) (hr : RdX tcells 2 w A l) :
    Calls Tryd.prog 37 #[.int .i64 n, .slice A m c, .int .i64 size] w fun e w' => e = .returned (.tuple #[.int .i64 (fitA n l size), errV (fitE n l size)]) ∧ Below w.heap.size w w' := by
  have HC := Hidden.mk (xcheck_any n A m c l w hl hmc hr)
  have HE : Hidden (fitE n l size = if chkX n l = 0 then (if size < 1 ∨ 6400 < size then 1 else if (bestX size (holesX n l)).2 = 0 then 4 else 0) else chkX n l) := ⟨rfl⟩
  have HA : Hidden (fitA n l size = if fitE n l size = 0 then (bestX size (holesX n l)).1 else 0) := ⟨rfl⟩
  generalize fitE n l size = fe at *
  generalize fitA n l size = fa at *
  by_cases h0 : chkX n l = 0
  · obtain ⟨o0, o1, o2, o3, -⟩ := chkX_ok h0
    have HH : Hidden (∀ W, Below w.heap.size w W → Calls Tryd.prog 66 #[.int .i64 n, .slice A m c] W fun e w' => ∃ v, e = .returned v ∧ w'.ownsRow W.heap.size 123 2 v (holesX n l).length ((holesX n l).flatMap tcells) ∧ Below W.heap.size W w') := ⟨fun W hW => xholes_any n A m c l W o0 o1 hl (by omega) (hr.below hW) o3⟩
    rw [h0] at HC
    rw [show errV 0 = Value.nilIface from rfl] at HC
    have hE := HE.out
    rw [if_pos h0] at hE
    have HE := Hidden.mk hE
    clear hE h0 hr hl o3
    by_cases h1 : size < 1
    · have hfe : fe = 1 := by rw [HE.out, if_pos (.inl h1)]
      have hfa : fa = 0 := by rw [HA.out, hfe]; rfl
      subst hfe hfa
      have d1 : decide (size < 1) = true := by simpa using h1
      clear HE HA HH
      go_enter Tryd.func37, Tryd.ntmps37
      go_wp2_with fail
      refine HC.out.mono ?_
      rintro e w1 ⟨rfl, hb1⟩
      have HB1 := Hidden.mk hb1
      clear hb1
      go_wp2_with fail
      go_ret2
      exact ⟨rfl, HB1.out⟩
    have d1 : decide (size < 1) = false := by simpa using h1
    by_cases h2 : 6400 < size
    · have hfe : fe = 1 := by rw [HE.out, if_pos (.inr h2)]
      have hfa : fa = 0 := by rw [HA.out, hfe]; rfl
      subst hfe hfa
      have d2 : decide (6400 < size) = true := by simpa using h2
      clear HE HA HH
      go_enter Tryd.func37, Tryd.ntmps37
      go_wp2_with fail
      refine HC.out.mono ?_
      rintro e w1 ⟨rfl, hb1⟩
      have HB1 := Hidden.mk hb1
      clear hb1
      go_wp2_with fail
      go_ret2
      exact ⟨rfl, HB1.out⟩
    have d2 : decide (6400 < size) = false := by simpa using h2
    have hE := HE.out
    rw [if_neg (by omega)] at hE
    have HE := Hidden.mk hE
    clear hE
    have hHl := holesX_len n l
    generalize holesX n l = H at *
    go_enter Tryd.func37, Tryd.ntmps37
    go_wp2_with fail
    refine HC.out.mono ?_
    rintro e w1 ⟨rfl, hb1⟩
    have hal : Below w1.heap.size w1 (w1.alloc (.cells #[.int .i64 0, .int .i64 0] 123)) := (Below.refl _ _).alloc (Nat.le_refl _) _
    have HB2 : Hidden (Below w.heap.size w (w1.alloc (.cells #[.int .i64 0, .int .i64 0] 123))) := ⟨hb1.trans (hal.mono hb1.size)⟩
    have HBK : Hidden ((w1.alloc (.cells #[.int .i64 0, .int .i64 0] 123)).heap[w1.heap.size]? = some (.cells #[.int .i64 0, .int .i64 0] 123 (0, 0))) := ⟨heap_alloc_new w1 _⟩
    have HB1 := Hidden.mk hb1.size
    clear hb1 hal
    go_wp2_with fail
    generalize w1.alloc (.cells #[.int .i64 0, .int .i64 0] 123) = w2 at *
    generalize w1.heap.size = bb at *
    refine (HH.out _ HB2.out).mono ?_
    rintro e w3 ⟨v, rfl, hown, hb3⟩
    have hbb : bb < w2.heap.size := (Array.getElem?_eq_some_iff.1 HBK.out).1
    have H3 : Hidden (Below w.heap.size w w3 ∧ w3.heap[bb]? = some (.cells #[.int .i64 0, .int .i64 0] 123 (0, 0)) ∧ w3.ownsRow w2.heap.size 123 2 v H.length (H.flatMap tcells)) := ⟨HB2.out.trans (hb3.mono HB2.out.size), (hb3.block _ hbb).trans HBK.out, hown⟩
    obtain ⟨A3, c3, rfl, hc3, -⟩ := own_split hown
    clear hown hb3 HBK HB2 HH
    generalize hhl : H.length = hl at *
    have HHL := Hidden.mk hhl
    clear hhl
    go_wp2_with fail
    go_loopg [30] hl (fun q i wr => ∃ (k : Nat) (b1 b2 : Int), k ≤ hl ∧ q = hl - k ∧ i = .int .i64 (k : Int) ∧ Hidden (bestX size (H.take k) = (b1, b2) ∧ Below w.heap.size w wr ∧ wr.heap[bb]? = some (.cells #[.int .i64 b1, .int .i64 b2] 123 (0, 0)) ∧ wr.ownsRow w2.heap.size 123 2 (.slice A3 hl c3) hl (H.flatMap tcells)))
    case atStart => exact ⟨0, 0, 0, by omega, rfl, rfl, ⟨rfl, H3.out.1, H3.out.2.1, H3.out.2.2⟩⟩
    case round =>
      obtain ⟨k, b1, b2, hk, rfl, rfl, hst⟩ := hrel
      by_cases hlt : k < hl
      · have hkH : k < H.length := by have := HHL.out; omega
        obtain ⟨g, off, rfl, hgb, hgl, hcx⟩ := own_at tcells_len hst.out.2.2.2 k hkH (by omega)
        have c0 := hcx 0 _ rfl
        have c1 := hcx 1 _ rfl
        simp only [Nat.add_zero] at c0
        have HS := Hidden.mk (bestX_succ size H k hkH)
        rw [hst.out.1] at HS
        generalize H[k] = e at *
        obtain ⟨e1, e2⟩ := e
        dsimp only at c0 c1 HS
        have hal : Below wr.heap.size wr (wr.alloc (.cells #[.int .i64 e1, .int .i64 e2] 123)) := (Below.refl _ _).alloc (Nat.le_refl _) _
        have HBK : Hidden ((wr.alloc (.cells #[.int .i64 e1, .int .i64 e2] 123)).heap[bb]? = some (.cells #[.int .i64 b1, .int .i64 b2] 123 (0, 0))) := ⟨(hal.block _ (Array.getElem?_eq_some_iff.1 hst.out.2.2.1).1).trans hst.out.2.2.1⟩
        have HN : Hidden (Below w.heap.size w (wr.alloc (.cells #[.int .i64 e1, .int .i64 e2] 123)) ∧ (wr.alloc (.cells #[.int .i64 e1, .int .i64 e2] 123)).ownsRow w2.heap.size 123 2 (.slice (some ⟨g, off, none⟩) hl c3) hl (H.flatMap tcells)) := ⟨hst.out.2.1.trans (hal.mono hst.out.2.1.size), own_below hst.out.2.2.2 hal⟩
        have hwb : w.heap.size ≤ bb := HB1.out
        have y0 : (wr.alloc (.cells #[.int .i64 e1, .int .i64 e2] 123)).cell? ⟨bb, 0, none⟩ = some (.int .i64 b1) := by simp [World.cell?, HBK.out]
        have y1 : (wr.alloc (.cells #[.int .i64 e1, .int .i64 e2] 123)).cell? ⟨bb, 1, none⟩ = some (.int .i64 b2) := by simp [World.cell?, HBK.out]
        have hfz : ∀ q, (wr.alloc (.cells #[.int .i64 e1, .int .i64 e2] 123)).frozen? ⟨bb, q, none⟩ = false := fun q => frozen_of_row _ bb q _ _ HBK.out
        have hne : wr.heap.size ≠ bb := by have := (Array.getElem?_eq_some_iff.1 hst.out.2.2.1).1; omega
        have s3 : IntKind.i64.wrap ((k : Int) + 1) = (k : Int) + 1 := IntWalk.i64_in _ (by omega)
        have k1 : (k : Int) < hl := by omega
        clear hcx hal
        by_cases q1 : size ≤ e2
        · have t1 : decide (size ≤ e2) = true := by simpa using q1
          by_cases q2 : b2 = 0 ∨ e2 < b2
          · have HS2 : Hidden (bestX size (H.take (k + 1)) = (e1, e2)) := ⟨by rw [HS.out, if_pos ⟨q1, q2⟩]⟩
            have HBK2 := Hidden.mk (heap_setK (k := 1) (heap_setK (k := 0) HBK.out (.int .i64 e1)) (.int .i64 e2))
            have HN2 : Hidden (Below w.heap.size w (((wr.alloc (.cells #[.int .i64 e1, .int .i64 e2] 123)).setCell ⟨bb, 0, none⟩ (.int .i64 e1)).setCell ⟨bb, 1, none⟩ (.int .i64 e2)) ∧ (((wr.alloc (.cells #[.int .i64 e1, .int .i64 e2] 123)).setCell ⟨bb, 0, none⟩ (.int .i64 e1)).setCell ⟨bb, 1, none⟩ (.int .i64 e2)).ownsRow w2.heap.size 123 2 (.slice (some ⟨g, off, none⟩) hl c3) hl (H.flatMap tcells)) :=
              ⟨(HN.out.1.setCell (p := ⟨bb, 0, none⟩) hwb _).setCell (p := ⟨bb, 1, none⟩) hwb _, ownsRow_block HN.out.2 fun q hq => (Below.heap_setCell _ _ _ _ (fun e => by have := (HN.out.2.lt q hq).1; simp at e; omega)).trans (Below.heap_setCell _ _ _ _ (fun e => by have := (HN.out.2.lt q hq).1; simp at e; omega))⟩
            by_cases q3 : b2 = 0
            · subst q3
              clear HS hst
              go_wp2_with fail
              go_roundg (hl - (k + 1))
              case measure => omega
              case rel => exact ⟨k + 1, e1, e2, by omega, rfl, by go_num, ⟨HS2.out, HN2.out.1, HBK2.out, HN2.out.2⟩⟩
            · have t3 : (b2 == 0) = false := by simpa using q3
              have t4 : decide (e2 < b2) = true := by simp; omega
              clear HS hst
              go_wp2_with fail
              go_roundg (hl - (k + 1))
              case measure => omega
              case rel => exact ⟨k + 1, e1, e2, by omega, rfl, by go_num, ⟨HS2.out, HN2.out.1, HBK2.out, HN2.out.2⟩⟩
          · have HS2 : Hidden (bestX size (H.take (k + 1)) = (b1, b2)) := ⟨by rw [HS.out, if_neg (fun h => q2 h.2)]⟩
            have t3 : (b2 == 0) = false := by simp; omega
            have t4 : decide (e2 < b2) = false := by simp; omega
            clear HS hst
            go_wp2_with fail
            go_roundg (hl - (k + 1))
            case measure => omega
            case rel => exact ⟨k + 1, b1, b2, by omega, rfl, by go_num, ⟨HS2.out, HN.out.1, HBK.out, HN.out.2⟩⟩
        · have t1 : decide (size ≤ e2) = false := by simpa using q1
          have HS2 : Hidden (bestX size (H.take (k + 1)) = (b1, b2)) := ⟨by rw [HS.out, if_neg (fun h => q1 h.1)]⟩
          clear HS hst
          go_wp2_with fail
          go_roundg (hl - (k + 1))
          case measure => omega
          case rel => exact ⟨k + 1, b1, b2, by omega, rfl, by go_num, ⟨HS2.out, HN.out.1, HBK.out, HN.out.2⟩⟩
      · obtain rfl : k = hl := by omega
        have hbe := hst.out.1
        rw [List.take_of_length_le (by have := HHL.out; omega)] at hbe
        have hE := HE.out
        rw [hbe] at hE HA
        dsimp only at hE HA
        have hbk := hst.out.2.2.1
        have y0 : wr.cell? ⟨bb, 0, none⟩ = some (.int .i64 b1) := by simp [World.cell?, hbk]
        have y1 : wr.cell? ⟨bb, 1, none⟩ = some (.int .i64 b2) := by simp [World.cell?, hbk]
        clear hbe hbk
        by_cases hz : b2 = 0
        · have hfe : fe = 4 := by rw [hE, if_pos hz]
          have hfa : fa = 0 := by rw [HA.out, hfe]; rfl
          subst hfe hfa hz
          clear hE HE HA
          go_wp2_with fail
          go_ret2
          exact ⟨rfl, hst.out.2.1⟩
        · have hfe : fe = 0 := by rw [hE, if_neg hz]
          have hfa : fa = b1 := by rw [HA.out, hfe]; rfl
          have t1 : (b2 == 0) = false := by simpa using hz
          subst hfe hfa
          clear hE HE HA
          go_wp2_with fail
          go_ret2
          exact ⟨rfl, hst.out.2.1⟩
  · have hfe : fe = chkX n l := by rw [HE.out, if_neg h0]
    have hfa : fa = 0 := by rw [HA.out, if_neg (by rw [hfe]; exact h0)]
    have hev : errV (chkX n l) = .iface 85 (.int .i64 (chkX n l)) := by unfold errV; rw [if_neg h0]
    rw [hfe, hfa, hev]
    rw [hev] at HC
    generalize chkX n l = q at *
    clear h0 hev HE HA hr hl hfe hfa
    go_enter Tryd.func37, Tryd.ntmps37
    go_wp2_with fail
    refine HC.out.mono ?_
    rintro e w1 ⟨rfl, hb1⟩
    have HB1 := Hidden.mk hb1
    clear hb1
    go_wp2_with fail
    go_ret2
    exact ⟨rfl, HB1.out⟩
end Go.Proofs.YtnceheienlekaaaDoor
