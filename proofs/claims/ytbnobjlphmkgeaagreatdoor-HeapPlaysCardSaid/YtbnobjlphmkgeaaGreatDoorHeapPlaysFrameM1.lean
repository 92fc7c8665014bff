/- Contracts and plain laws, put together: Base, Num1, Num2, Num3, Mem, App, MapI, Keep, Dev0, Dev1, Dev2, Dev3, Dev4, Dev5, Dev6, Dev7, Open, Open2, Dev8, RowSet, Num4, Str1, Str2, Str3, Stamp1, Stamp2, RefS, NumLow1, NumBack1, StampRow1, PagesP, DevA, Pages1, Pages2, Pages3, Pages4, Pages5, PagesS, PagesT, Pages6, Pages7, PagesU, Lst0, ErrI, PagesSf, LayC, View1, View2, View3, LayK, Keys1, View5, View6, ViewP, View7, DiffP, Diff0, Diff1, DiffQ, Diff2, DiffA, DiffA1, Diff3, Img1, Img2, Img3, CheckP, Img4, Chk1, Chk2. -/
import Derived.WalkKit
import Derived.WalkSpells
import Derived.Deep.QuietTactic
import Derived.BigQuiet
import Derived.Deep.Draws
import Derived.Test.YtbnobjlphmkgeaaGreatDoorChecked
import Derived.Laws.CopyOwn
import Derived.Laws.MakeOwn
import Derived.Maps.AppendAt
import Derived.Deep.AppendLies
import Derived.OwnWalk
import Derived.Maps.Own
import Derived.Maps.OwnSet
import Derived.Maps.RangeWalk
import Derived.Deep.RegionHeld3
import Derived.Deep.LoopGhost
import Derived.Deep.RegionLaw
import Derived.ProofKit
import Derived.OpenShut
import Derived.ShutString
import Derived.ChangeOld
import Derived.SizedLaws
import Derived.Lib.SmallJoins
import Derived.Deep.Slices
import Derived.Deep.Fields
import Derived.Lib.ConvBytes
import Derived.Deep.DeepCutAuto
import Derived.Deep.CutBlock
import Derived.Laws.BitsLemmas
import Derived.Shelf.SlGeneric
import Derived.Shelf.SlMaps.Clone
import Derived.Ground.SlmcProg
import Derived.Shelf.SlIterI.Nil
import Derived.Shelf.SortM.Plain
import Derived.Shelf.SortM.SortNone
import Derived.Ground.GgzProg
import Derived.Ground.SlgmProg
/- Words for memory that the other texts use: slices of bytes as lists; no program in sight. -/
namespace Go.Proofs.YtbnobjlphmkgeaaGreatDoor
open Go.RowKit

/-- a fact that the walk does not see -/
structure Hidden (p : Prop) : Prop where
  out : p
abbrev Bytes := List UInt8
/-- a byte as a cell -/
abbrev bv (c : UInt8) : Value := .int .u8 (c.toNat : Int)

/-- a text as a value -/
abbrev sv (l : Bytes) : Value := .string ⟨l.toArray⟩

/-- the slice that begins at A reads as the bytes l -/
def Rd (w : World) (A : Option Addr) (l : Bytes) : Prop :=
  ∀ j (h : j < l.length), ∃ b off, A = some ⟨b, off, none⟩ ∧ w.cell? ⟨b, off + j, none⟩ = some (bv l[j])

section
variable {w w' : World} {A : Option Addr} {l : Bytes}
theorem Rd.nil_ : Rd w A [] := fun j h => absurd h (by simp)
theorem Rd.below (h : Rd w A l) (hb : Below w.heap.size w w') : Rd w' A l := fun j hj => by
  obtain ⟨b, off, hA, hc⟩ := h j hj
  exact ⟨b, off, hA, (hb.cell (block_lt_of_cell hc)).trans hc⟩
theorem Rd.drewN (h : Rd w A l) (n : Nat) : Rd (w.drewN n) A l := h
theorem Rd.lt (h : Rd w A l) (hl : 0 < l.length) : ∃ b off, A = some ⟨b, off, none⟩ ∧ b < w.heap.size := by
  obtain ⟨b, off, hA, hc⟩ := h 0 hl
  exact ⟨b, off, hA, block_lt_of_cell hc⟩
theorem Rd.cut (h : Rd w A l) (a s : Nat) (hs : a + s ≤ l.length) : Rd w (A.map (·.add a)) ((l.drop a).take s) := fun j hj => by
  have hj' : j < s := by simp at hj; omega
  obtain ⟨b, off, rfl, hc⟩ := h (a + j) (by omega)
  refine ⟨b, off + a, by simp [Addr.add_lit], ?_⟩
  rw [Nat.add_assoc, hc]
  simp
theorem Rd.cutIf (h : Rd w A l) (a s c : Nat) (hs : a + s ≤ l.length) (hc : l.length ≤ c) : Rd w (if c = a then A else A.map (·.add a)) ((l.drop a).take s) := by
  by_cases hca : c = a
  · have : s = 0 := by omega
    subst this
    simpa using Rd.nil_
  · rw [if_neg hca]; exact h.cut a s hs
theorem Rd.take (h : Rd w A l) (s : Nat) (hs : s ≤ l.length) : Rd w A (l.take s) := fun j hj => by
  obtain ⟨b, off, rfl, hc⟩ := h j (by simp at hj; omega)
  refine ⟨b, off, rfl, ?_⟩
  rw [hc]; simp
theorem Rd.at_ {b off : Nat} (h : Rd w (some ⟨b, off, none⟩) l) (j : Nat) (hj : j < l.length) : w.cell? ⟨b, off + j, none⟩ = some (bv l[j]) := by
  obtain ⟨b', off', hA, hc⟩ := h j hj
  injection hA with hA
  injection hA with h1 h2
  subst h1 h2
  exact hc
theorem Rd.cells {ad : Addr} (h : Rd w (some ad) l) (j : Nat) (u : Value) (hu : (l.map bv)[j]? = some u) : w.cell? (ad.add j) = some u := by
  have hj : j < l.length := by
    have := (List.getElem?_eq_some_iff.1 hu).1
    simpa using this
  obtain ⟨b, off, hA, hc⟩ := h j hj
  injection hA with hA
  subst hA
  rw [Addr.add_lit, hc, ← hu]
  simp [hj]
end
theorem Rd.tail {w : World} {A : Option Addr} {l : Bytes} (h : Rd w A l) (k c : Nat) (hk : k ≤ l.length) (hc : l.length ≤ c) : Rd w (if c = k then A else A.map (·.add k)) (l.drop k) := by
  have := h.cutIf k (l.length - k) c (by omega) hc
  rwa [List.take_of_length_le (by simp)] at this
theorem one_bv {l : Bytes} : ∀ u ∈ l.map bv, u.oneCell' = true := by
  intro u hu
  obtain ⟨c, _, rfl⟩ := List.mem_map.1 hu
  rfl

/-- the slice v is the call's own (blocks from base on), and reads as l; e: the number of the type byte -/
def Own (w : World) (base e : Nat) (v : Value) (l : Bytes) : Prop := w.ownsRow base e 1 v l.length (l.map bv)

theorem Own.slice {w : World} {base e : Nat} {v : Value} {l : Bytes} (h : Own w base e v l) : ∃ A c, v = .slice A l.length c ∧ l.length ≤ c ∧ c ≤ maxLen ∧ Rd w A l := by
  rcases h.2 with ⟨rfl, h0⟩ | ⟨g, cap, cur, rfl, _, hh, hc, hm, hz, ht⟩
  · rw [h0]
    have : l = [] := List.eq_nil_of_length_eq_zero h0
    subst this
    exact ⟨none, 0, rfl, by simp, by simp, Rd.nil_⟩
  · refine ⟨_, cap, rfl, hc, hm, fun j hj => ⟨g, 0, rfl, ?_⟩⟩
    rw [Nat.zero_add, cell_of_row w g j cur e (0, 0) hh]
    have h1 : (l.map bv)[j]? = some (bv l[j]) := by simp [hj]
    rw [← ht, List.getElem?_take, if_pos (by omega)] at h1
    simpa using h1
theorem below_drewN {B : Nat} {a w : World} (h : Below B a w) (n : Nat) : Below B a (w.drewN n) := ⟨h.os, h.tape, h.output, h.size, h.block⟩
theorem grown_below {a w : World} (h : Below a.heap.size a w) (row : Option Nat) : a.grownBy w row := ⟨h.os, h.tape, h.output, h.size, fun i hi _ => h.block i hi⟩
theorem own_below {w w' : World} {base : Nat} {e : TypeId} {size : Nat} {v : Value} {n : Nat} {xs : List Value} (h : w.ownsRow base e size v n xs) (hb : Below w.heap.size w w') : w'.ownsRow base e size v n xs :=
  h.kept (grown_below hb none) (by cases hv : v.ownBlock <;> simp)
theorem grown_trans' {a b c : World} {row : Option Nat} (h : Below a.heap.size a b) (k : b.grownBy c row) : a.grownBy c row :=
  ⟨k.os.trans h.os, k.tape.trans h.tape, k.output.trans h.output, Nat.le_trans h.size k.size, fun i hi hne => (k.block i (Nat.lt_of_lt_of_le hi h.size) hne).trans (h.block i hi)⟩
end Go.Proofs.YtbnobjlphmkgeaaGreatDoor
/- The contracts of package num and of what it calls in package slices, over bytes. -/
namespace Go.Proofs.YtbnobjlphmkgeaaGreatDoor
open Go.RowKit

/-- what so many bytes have at most -/
def mostN (n : Int) : Int := 2 ^ (8 * n.toNat) - 1

/-- slices.Index: the first place, or -1 -/
def idxB (l : Bytes) (x : UInt8) : Int := if x ∈ l then (l.idxOf x : Int) else -1
theorem idxB_at (l : Bytes) (x : UInt8) (k : Nat) (hk : k < l.length) (hn : x ∉ l.take k) (he : l[k] = x) : idxB l x = k := by
  have hm : x ∈ l := by rw [← he]; exact List.getElem_mem hk
  unfold idxB
  rw [if_pos hm]
  have : l.idxOf x = k := by
    conv => lhs; rw [← List.take_append_drop k l]
    rw [List.idxOf_append, if_neg hn]
    have hd : l.drop k = x :: l.drop (k + 1) := by rw [List.drop_eq_getElem_cons hk, he]
    rw [hd]
    simp; omega
  rw [this]
theorem idxB_none (l : Bytes) (x : UInt8) (hn : x ∉ l) : idxB l x = -1 := if_neg hn
theorem bv_beq (x y : UInt8) : ((x.toNat : Int) == (y.toNat : Int)) = (x == y) := by
  rw [Bool.eq_iff_iff]
  simp only [beq_iff_eq]
  rw [← UInt8.toNat_inj]
  omega
theorem not_take_succ {l : Bytes} {x : UInt8} {k : Nat} (hk : k < l.length) (hn : x ∉ l.take k) (he : ¬ l[k] = x) : x ∉ l.take (k + 1) := by
  rw [List.take_succ_eq_append_getElem hk]
  simp only [List.mem_append, List.mem_singleton, not_or]
  exact ⟨hn, fun h => he h.symm⟩

theorem index_any (A : Option Addr) (n c : Nat) (l : Bytes) (x : UInt8) (w : World) (hn : l.length = n) (hl : n ≤ maxLen) (hr : Rd w A l) :
    Calls Tryz.prog 194 #[.slice A n c, bv x] w fun e w' => e = .returned (.int .i64 (idxB l x)) ∧ w = w' := by
  subst hn
  unfold maxLen at hl
  go_enter Tryz.func194, Tryz.ntmps194
  go_wp2
  go_loop [8] (fun i => ∃ k : Nat, k ≤ l.length ∧ i = .int .i64 k ∧ x ∉ l.take k) (fun i => l.length - (intOf i).toNat)
  case atStart => exact ⟨0, Nat.zero_le _, rfl, by simp⟩
  case round =>
    obtain ⟨k, hk, rfl, hnot⟩ := hrel
    by_cases hlt : k < l.length
    · obtain ⟨b, off, rfl, hc⟩ := hr k hlt
      by_cases he : l[k] = x
      · have hi := idxB_at l x k hlt hnot he
        have hb : ((x.toNat : Int) == (l[k].toNat : Int)) = true := by rw [bv_beq, he]; simp
        clear he
        go_wp2
        go_ret
        exact ⟨rfl, rfl⟩
      · have hb : ((x.toNat : Int) == (l[k].toNat : Int)) = false := by rw [bv_beq]; simpa using fun h => he h.symm
        have hnk := not_take_succ hlt hnot he
        clear he hnot
        go_wp2
        go_round
        case rel => exact ⟨k + 1, by omega, by go_num, hnk⟩
        case measure => simp [intOf]; omega
    · have hnn : x ∉ l := by rw [List.take_of_length_le (by omega)] at hnot; exact hnot
      have hi := idxB_none l x hnn
      go_wp2
      go_ret
      exact ⟨rfl, rfl⟩

/-- the number that bytes have, the low one first -/
def ofB : Bytes → Nat
  | [] => 0
  | c :: l => c.toNat + 256 * ofB l
theorem ofB_snoc (l : Bytes) (c : UInt8) : ofB (l ++ [c]) = ofB l + 2 ^ (8 * l.length) * c.toNat := by
  induction l with
  | nil => simp [ofB]
  | cons d l ih =>
    simp only [List.cons_append, ofB, ih, List.length_cons]
    rw [show 8 * (l.length + 1) = 8 * l.length + 8 from by omega, Nat.pow_add]
    rw [Nat.mul_add, Nat.add_assoc]
    congr 2
    rw [← Nat.mul_assoc, Nat.mul_comm 256, show 2 ^ 8 = 256 from rfl]
theorem ofB_lt (l : Bytes) : ofB l < 2 ^ (8 * l.length) := by
  induction l with
  | nil => simp [ofB]
  | cons d l ih =>
    simp only [ofB, List.length_cons]
    rw [show 8 * (l.length + 1) = 8 * l.length + 8 from by omega, Nat.pow_add]
    have := d.toNat_lt
    simp at this
    omega
theorem or_add (a b k : Nat) (h : a < 2 ^ k) : a ||| (2 ^ k * b) = a + 2 ^ k * b := by
  rw [Nat.or_comm, ← Nat.two_pow_add_eq_or_of_lt h]; omega
theorem i64_ofInt (a : Nat) (ha : a < 9223372036854775808) : (BitVec.ofInt 64 (a : Int)).toNat = a := by
  rw [BitVec.ofInt_natCast, BitVec.toNat_ofNat]; exact Nat.mod_eq_of_lt (by omega)
theorem i64_or (a b : Nat) (ha : a < 9223372036854775808) (hb : b < 9223372036854775808) : bits .or .i64 (a : Int) (b : Int) = ((a ||| b : Nat) : Int) := by
  have hx : a ||| b < 2 ^ 63 := Nat.or_lt_two_pow (by omega) (by omega)
  show IntKind.i64.wrap ((BitVec.ofInt 64 (a : Int) ||| BitVec.ofInt 64 (b : Int)).toNat : Int) = _
  rw [BitVec.toNat_or, i64_ofInt a ha, i64_ofInt b hb, IntKind.wrap_i64]
  omega
theorem u8_lt (c : UInt8) : c.toNat < 256 := c.toNat_lt
theorem wrap64_id (n : Int) (h0 : -9223372036854775808 ≤ n) (h : n ≤ 9223372036854775807) : wrap64 n = n := IntWalk.wrap64_in n ⟨h0, h⟩
theorem of_step (l : Bytes) (k : Nat) (hk : k < l.length) (hl : l.length ≤ 4) :
    bits .or .i64 (ofB (l.take k) : Int) (wrap64 (wrap64 (l[k].toNat : Int) * 2 ^ (8 * k))) = (ofB (l.take (k + 1)) : Int) := by
  have hc := u8_lt l[k]
  have h1 := ofB_lt (l.take k)
  have hlen : (l.take k).length = k := by simp; omega
  rw [hlen] at h1
  have hp : 2 ^ (8 * k) ≤ 16777216 := by
    have : k ≤ 3 := by omega
    calc 2 ^ (8 * k) ≤ 2 ^ 24 := Nat.pow_le_pow_right (by omega) (by omega)
      _ = 16777216 := by decide
  have hm : 2 ^ (8 * k) * l[k].toNat ≤ 16777216 * 256 := Nat.mul_le_mul hp (by omega)
  rw [wrap64_id (l[k].toNat : Int) (by omega) (by omega)]
  have hcast : (l[k].toNat : Int) * 2 ^ (8 * k) = ((2 ^ (8 * k) * l[k].toNat : Nat) : Int) := by
    rw [Int.natCast_mul, Int.mul_comm, Int.natCast_pow]; rfl
  rw [hcast, wrap64_id _ (by omega) (by omega), i64_or _ _ (by omega) (by omega), or_add _ _ _ h1, List.take_succ_eq_append_getElem hk, ofB_snoc, hlen]
theorem ret_i64 {a b : Int} (h : a = b) : Ending.returned (.int .i64 a) = .returned (.int .i64 b) := by rw [h]
theorem int_i64 {a b : Int} (h : a = b) : Value.int .i64 a = .int .i64 b := by rw [h]

theorem of_any (A : Option Addr) (n c : Nat) (l : Bytes) (w : World) (hn : l.length = n) (hl : n ≤ 4) (hr : Rd w A l) :
    Calls Tryz.prog 181 #[.slice A n c] w fun e w' => e = .returned (.int .i64 (ofB l)) ∧ w = w' := by
  subst hn
  go_enter Tryz.func181, Tryz.ntmps181
  go_wp2
  go_loop [3, 8] (fun n i => ∃ k : Nat, k ≤ l.length ∧ i = .int .i64 k ∧ n = .int .i64 (ofB (l.take k))) (fun _ i => l.length - (intOf i).toNat)
  case atStart => exact ⟨0, Nat.zero_le _, rfl, rfl⟩
  case round =>
    obtain ⟨k, hk, rfl, rfl⟩ := hrel
    by_cases hlt : k < l.length
    · obtain ⟨b, off, rfl, hc⟩ := hr k hlt
      go_wp2
      go_round
      case rel => exact ⟨k + 1, by omega, by go_num, int_i64 (of_step l k hlt hl)⟩
      case measure => simp [intOf]; omega
    · go_wp2
      go_ret
      exact ⟨ret_i64 (by rw [List.take_of_length_le (by omega)]), rfl⟩

end Go.Proofs.YtbnobjlphmkgeaaGreatDoor
/- The contract of num.Set: it writes the bytes of a number into a block. -/
namespace Go.Proofs.YtbnobjlphmkgeaaGreatDoor
open Go.RowKit

/-- a row in which other values stand from i on -/
def setB (cur : Array Value) (i : Nat) (l : List Value) : Array Value := (splice cur.toList i l).toArray
theorem setB_size (cur : Array Value) (i : Nat) (l : List Value) (h : i + l.length ≤ cur.size) : (setB cur i l).size = cur.size := by
  simp only [setB, List.size_toArray]; rw [length_splice _ _ _ (by simpa using h)]; simp
theorem setB_nil (cur : Array Value) (i : Nat) : setB cur i [] = cur := by simp [setB, splice]
theorem setB_snoc (cur : Array Value) (i : Nat) (l : List Value) (v : Value) (h : i + l.length < cur.size) :
    (setB cur i l).setIfInBounds (i + l.length) v = setB cur i (l ++ [v]) := by
  apply Array.ext'
  obtain ⟨cur⟩ := cur
  simp only [List.size_toArray] at h
  simp only [setB, splice, List.setIfInBounds_toArray]
  rw [List.set_append_right _ _ (by simp; omega)]
  have h1 : i + l.length - (cur.take i).length = l.length := by simp; omega
  rw [h1, List.set_append_right _ _ (by omega), Nat.sub_self]
  rw [List.drop_eq_getElem_cons h]
  simp [List.append_assoc, Nat.add_assoc]
theorem setB_at (cur : Array Value) (i : Nat) (l : List Value) (j : Nat) (h : i + l.length ≤ cur.size) :
    (setB cur i l)[j]? = if i ≤ j ∧ j < i + l.length then l[j - i]? else cur[j]? := by
  obtain ⟨cur⟩ := cur
  simp only [List.size_toArray] at h
  simp only [setB, splice, List.getElem?_toArray]
  have hl : (cur.take i).length = i := by simp; omega
  by_cases h1 : j < i
  · rw [if_neg (by omega), List.getElem?_append_left (by omega), List.getElem?_take, if_pos h1]
  · rw [List.getElem?_append_right (by omega), hl]
    by_cases h2 : j < i + l.length
    · rw [if_pos (by omega), List.getElem?_append_left (by omega)]
    · rw [if_neg (by omega), List.getElem?_append_right (by omega), List.getElem?_drop]
      congr 1; omega

/-- block g is a row of bytes of which the first are l; cap: how many cells; e: the type byte -/
def Row (w : World) (e g cap : Nat) (l : Bytes) : Prop :=
  ∃ cur, w.heap[g]? = some (.cells cur e (0, 0)) ∧ l.length ≤ cap ∧ cap ≤ maxLen ∧ cur.size = cap ∧ cur.toList.take l.length = l.map bv
section
variable {w w' : World} {e g cap : Nat} {l : Bytes}
theorem Row.own (h : Row w e g cap l) {base : Nat} (hb : base ≤ g) : Own w base e (.slice (some ⟨g, 0, none⟩) l.length cap) l := by
  obtain ⟨cur, hg, h1, h2, h3, h4⟩ := h
  exact ⟨by simp, .inr ⟨g, cap, cur, rfl, hb, hg, h1, h2, by omega, by simpa using h4⟩⟩
theorem Row.of_own {base : Nat} {v : Value} (h : Own w base e v l) (hn : v ≠ .slice none 0 0) : ∃ g cap, v = .slice (some ⟨g, 0, none⟩) l.length cap ∧ base ≤ g ∧ Row w e g cap l := by
  rcases h.2 with ⟨rfl, _⟩ | ⟨g, cap, cur, rfl, hb, hg, h1, h2, h3, h4⟩
  · exact absurd rfl hn
  · exact ⟨g, cap, rfl, hb, cur, hg, h1, h2, by omega, by simpa using h4⟩
theorem Row.cell (h : Row w e g cap l) (j : Nat) (hj : j < l.length) : w.cell? ⟨g, j, none⟩ = some (bv l[j]) := by
  obtain ⟨cur, hg, h1, h2, h3, h4⟩ := h
  rw [cell_of_row w g j cur e (0, 0) hg]
  have h5 : (l.map bv)[j]? = some (bv l[j]) := by simp [hj]
  rw [← h4, List.getElem?_take, if_pos (by omega)] at h5
  simpa using h5
theorem Row.rd (h : Row w e g cap l) : Rd w (some ⟨g, 0, none⟩) l := fun j hj => ⟨g, 0, rfl, by rw [Nat.zero_add]; exact h.cell j hj⟩
theorem Row.below {B : Nat} (h : Row w e g cap l) (hb : Below B w w') (hg : g < B) : Row w' e g cap l := by
  obtain ⟨cur, h0, h1⟩ := h
  exact ⟨cur, (hb.block g hg).trans h0, h1⟩
theorem Row.lt (h : Row w e g cap l) : g < w.heap.size := by
  obtain ⟨cur, h0, _⟩ := h
  exact (Array.getElem?_eq_some_iff.1 h0).1
theorem Row.le (h : Row w e g cap l) : l.length ≤ cap ∧ cap ≤ maxLen := by
  obtain ⟨cur, _, h1, h2, _⟩ := h
  exact ⟨h1, h2⟩
theorem splice_len (l bs : Bytes) (i : Nat) (h : i + bs.length ≤ l.length) : (splice l i bs).length = l.length := length_splice l i bs h
theorem Row.set_ (h : Row w e g cap l) (i : Nat) (bs : Bytes) (hi : i + bs.length ≤ l.length) (cur : Array Value) (hc : w.heap[g]? = some (.cells cur e (0, 0))) :
    Row (w.setRow g (setB cur i (bs.map bv))) e g cap (splice l i bs) := by
  obtain ⟨cur', hg, h1, h2, h3, h4⟩ := h
  rw [hc] at hg
  injection hg with hg
  injection hg with hg
  subst hg
  refine ⟨_, setRow_heap w g cur _ e _ hc, by rw [splice_len _ _ _ hi]; exact h1, h2, by rw [setB_size _ _ _ (by simp; omega)]; exact h3, ?_⟩
  have hlen := splice_len l bs i hi
  apply List.ext_getElem?
  intro j
  rw [hlen, List.getElem?_take]
  by_cases hj : j < l.length
  · rw [if_pos hj]
    have h5 : cur[j]? = (l.map bv)[j]? := by rw [← h4, List.getElem?_take, if_pos hj]; simp
    have h6 : (setB cur i (bs.map bv)).toList[j]? = (setB cur i (bs.map bv))[j]? := by simp
    rw [h6, setB_at _ _ _ _ (by simp; omega), h5]
    simp only [splice, List.length_map]
    have hl : (l.take i).length = i := by simp; omega
    rw [List.getElem?_map, List.getElem?_map, List.getElem?_map]
    by_cases h7 : j < i
    · rw [if_neg (by omega), List.getElem?_append_left (by omega), List.getElem?_take, if_pos h7]
    · rw [List.getElem?_append_right (by omega), hl]
      by_cases h8 : j < i + bs.length
      · rw [if_pos (by omega), List.getElem?_append_left (by omega)]
      · rw [if_neg (by omega), List.getElem?_append_right (by omega), List.getElem?_drop]
        congr 2; omega
  · rw [if_neg hj, List.getElem?_eq_none (by simp; omega)]
end

/-- the bytes of a number, the low one first -/
def numB (n : Nat) : Nat → Bytes
  | 0 => []
  | k + 1 => UInt8.ofNat (n % 256) :: numB (n / 256) k
theorem numB_length (n k : Nat) : (numB n k).length = k := by
  induction k generalizing n with
  | zero => rfl
  | succ k ih => simp [numB, ih]
theorem numB_succ (n k : Nat) : numB n (k + 1) = numB n k ++ [UInt8.ofNat (n / 2 ^ (8 * k) % 256)] := by
  induction k generalizing n with
  | zero => simp [numB]
  | succ k ih =>
    rw [numB, ih (n / 256)]
    conv => rhs; rw [numB]
    simp only [List.cons_append, List.cons.injEq, List.append_cancel_left_eq, true_and, and_true]
    rw [Nat.div_div_eq_div_mul, show 8 * (k + 1) = 8 + 8 * k from by omega, Nat.pow_add]

theorem ofNat_mod (n : Nat) : (UInt8.ofNat (n % 256)).toNat = n % 256 := by simp [UInt8.toNat_ofNat']

theorem set_any (g off len cap T : Nat) (cur : Array Value) (at_ n size : Nat) (w : World) (hb : w.heap[g]? = some (.cells cur T (0, 0)))
    (hs : size ≤ 4) (hat : at_ + size ≤ len) (hlen : len ≤ maxLen) (hcur : off + len ≤ cur.size) :
    Calls Tryz.prog 136 #[.slice (some ⟨g, off, none⟩) len cap, .int .i64 at_, .int .i64 n, .int .i64 size] w
      fun e w' => e = .returned (.tuple #[]) ∧ w' = w.setRow g (setB cur (off + at_) ((numB n size).map bv)) := by
  unfold maxLen at hlen
  go_enter Tryz.func136, Tryz.ntmps136
  go_wp2
  go_loopw [10] (fun i wr => ∃ k : Nat, k ≤ size ∧ i = .int .i64 k ∧ wr = w.setRow g (setB cur (off + at_) ((numB n k).map bv))) (fun i _ => size - (intOf i).toNat)
  case atStart => exact ⟨0, Nat.zero_le _, rfl, by simp [numB, setB_nil, setRow_self w g cur T _ hb]⟩
  case round =>
    obtain ⟨k, hk, rfl, hwr⟩ := hrel
    by_cases hlt : k < size
    · have hsz : off + at_ + ((numB n k).map bv).length ≤ cur.size := by simp [numB_length]; omega
      have hg : wr.heap[g]? = some (.cells (setB cur (off + at_) ((numB n k).map bv)) T (0, 0)) := by rw [hwr]; exact setRow_heap w g cur _ T _ hb
      have hi : off + (at_ + k) < (setB cur (off + at_) ((numB n k).map bv)).size := by rw [setB_size _ _ _ hsz]; omega
      have hcell : wr.cell? ⟨g, off + (at_ + k), none⟩ = some (setB cur (off + at_) ((numB n k).map bv))[off + (at_ + k)] := by
        rw [cell_of_row wr g _ _ _ _ hg]; exact Array.getElem?_eq_getElem hi
      have hfr : wr.frozen? ⟨g, off + (at_ + k), none⟩ = false := frozen_of_row wr g _ _ T hg
      have hnext : wr.setCell ⟨g, off + (at_ + k), none⟩ (.int .u8 ((n : Int) / 2 ^ (8 * k) % 256)) = w.setRow g (setB cur (off + at_) ((numB n (k + 1)).map bv)) := by
        rw [setCell_eq_setRow wr g _ _ T _ _ hg, hwr, setRow_setRow]
        congr 1
        have h1 := setB_snoc cur (off + at_) ((numB n k).map bv) (.int .u8 ((n : Int) / 2 ^ (8 * k) % 256)) (by simp [numB_length]; omega)
        rw [show off + (at_ + k) = off + at_ + ((numB n k).map bv).length from by simp [numB_length]; omega, h1, numB_succ, List.map_append]
        congr 2
        simp only [List.map_cons, List.map_nil, bv, ofNat_mod]
        rfl
      have HN := Hidden.mk hnext
      clear hnext hg hwr hsz
      generalize (setB cur (off + at_) ((numB n k).map bv))[off + (at_ + k)] = u at hcell
      clear hi
      go_wp2
      go_roundw
      case rel => exact ⟨k + 1, by omega, by go_num, HN.out⟩
      case measure => simp [intOf]; omega
    · obtain rfl : k = size := by omega
      subst hwr
      go_wp2
      go_end0
      exact ⟨rfl, rfl⟩
end Go.Proofs.YtbnobjlphmkgeaaGreatDoor
/- The contracts of num.Get, slices.Clone and num.Put. -/
namespace Go.Proofs.YtbnobjlphmkgeaaGreatDoor
open Go.RowKit

/-- an error of the program: nil, or a number of api.Errno -/
def errV (n : Nat) : Value := if n = 0 then .nilIface else .iface 111 (.int .i64 n)
theorem byte_info : (Tryz.prog.info? 5).map (fun i => (i.zero, i.size, i.bytes)) = some (some (.int .u8 0), 1, 1) := by kernel_rfl

/-- slices.Clone of bytes: nil stays nil, else the call's own -/
theorem clone_nil (n c : Nat) (w : World) : Calls Tryz.prog 57 #[.slice none n c] w fun e w' => e = .returned (.slice none 0 0) ∧ w = w' := by
  have he := fun W => Lib.run_eql_slice_nil (P := Tryz.prog) W 22 5 none n c 0 0 Tryz.underlying22
  go_enter Tryz.func57, Tryz.ntmps57
  go_wp2
  go_ret
  exact ⟨rfl, rfl⟩
theorem clone_some (ad : Addr) (n c : Nat) (l : Bytes) (w : World) (hn : l.length = n) (hl : n ≤ 140737488351232) (hr : Rd w (some ad) l) :
    Calls Tryz.prog 57 #[.slice (some ad) n c] w fun e w' => ∃ g cap, e = .returned (.slice (some ⟨g, 0, none⟩) n cap) ∧ w.heap.size ≤ g ∧ Row w' 5 g cap l ∧ Below w.heap.size w w' := by
  subst hn
  have he := fun W => Lib.run_eql_slice_nil (P := Tryz.prog) W 22 5 (some ad) l.length c 0 0 Tryz.underlying22
  obtain ⟨i0, hi0, hz0, hz1, hz2⟩ := info_parts byte_info
  go_enter Tryz.func57, Tryz.ntmps57
  have hown := World.ownsRow_lit (base := w.heap.size) (e := 5) (size := 1) w #[] 0 (Nat.le_refl _) (by simp) rfl
  have hr1 : Rd (w.alloc (.cells #[] 5)) (some ad) l := hr.below ((Below.refl _ _).alloc (Nat.le_refl _) _)
  go_wp2_with (at_builtin; refine wpList_append_own _ rfl (.tmp 5) (.tmp 6) _ rfl w.heap.size 5 i0 _ 1 1 Tryz.underlying22 hi0 hz0 hz1 hz2 rfl (by decide) (.slice (some ⟨w.heap.size, 0, none⟩) 0 0) 0 [] rfl hown ad l.length c (l.map bv) rfl (by simp) hr1.cells one_bv (by simp only [maxLen]; omega) (by omega) (by simp) ?_; intro v1 w1 hown1 hg1 hnn)
  go_ret
  have hnn' : v1 ≠ .slice none 0 0 := fun h => by have := hnn.1 h; simp at this
  obtain ⟨g, cap, rfl, hbg, hrow⟩ := Row.of_own (l := l) (by simpa [Own] using hown1) hnn'
  refine ⟨g, cap, rfl, hbg, hrow, ?_⟩
  · exact ((Below.refl _ _).alloc (Nat.le_refl _) _).grown hg1 (by simp) (fun k hk => by simp [Value.ownBlock] at hk; omega)

def putE (n : Nat) (at_ x size : Int) : Nat := if 1 ≤ size ∧ size ≤ 4 ∧ 0 ≤ x ∧ x ≤ mostN size then (if at_ < 0 ∨ (n : Int) - size < at_ then 3 else 0) else 1
def putB (l : Bytes) (at_ x size : Int) : Bytes := splice l at_.toNat (numB x.toNat size.toNat)
end Go.Proofs.YtbnobjlphmkgeaaGreatDoor
/- Runs of make and copy over bytes, as equations for a walk. -/
namespace Go.Proofs.YtbnobjlphmkgeaaGreatDoor
open Go.RowKit

/-- so many zeros, as cells -/
def zeroRow (n : Nat) : Array Value := Array.replicate n (.int .u8 0)
theorem zeroRow_size (n : Nat) : (zeroRow n).size = n := by simp [zeroRow]
theorem zeroRow_list (n : Nat) : (zeroRow n).toList = (List.replicate n (0 : UInt8)).map bv := by simp [zeroRow]
/-- make([]byte, n) -/
theorem mk_bytes (z : Int) (n : Nat) (hz : z = n) (hn : n ≤ 281474976710656) (w : World) :
    (Instr.makeSlice 22 (.int .i64 z) (.int .i64 z)).run Tryz.prog w = .ok (.slice (some ⟨w.heap.size, 0, none⟩) n n) (w.alloc (.cells (zeroRow n) 5)) := by
  subst hz
  obtain ⟨i0, hi0, hz0, hz1, hz2⟩ := info_parts byte_info
  have hr := run_make (P := Tryz.prog) w 22 5 i0 _ Tryz.underlying22 hi0 hz0 .i64 .i64 n n (by omega) (by omega) (by rw [hz2]; omega) (by omega)
  simp only [Int.toNat_natCast, hz1, Nat.mul_one] at hr
  have hcells : madeCells (Value.int IntKind.u8 0).cells n = zeroRow n := by
    apply Array.ext'
    rw [show (Value.int IntKind.u8 0).cells = #[Value.int IntKind.u8 0] from rfl, toList_madeCells_one, zeroRow]
    simp
  rw [hcells] at hr
  exact hr
theorem row_zeros (w : World) (n : Nat) (hn : n ≤ maxLen) : Row (w.alloc (.cells (zeroRow n) 5)) 5 w.heap.size n (List.replicate n 0) :=
  ⟨_, heap_alloc_new w _, by simp, hn, zeroRow_size n, by rw [List.take_of_length_le (by rw [Array.length_toList, zeroRow_size]; simp), zeroRow_list]⟩

/-- copy of a text into a row -/
theorem run_copy_text (w : World) (g o dLen dCap k : Nat) (l : Bytes) (cur : Array Value) (T : Nat) (hg : w.heap[g]? = some (.cells cur T (0, 0))) (hk : k = Nat.min l.length dLen) (hfit : o + k ≤ cur.size) (ty : TypeId) :
    (Builtin.copy_ #[22, 9] ty #[.slice (some ⟨g, o, none⟩) dLen dCap, .string ⟨l.toArray⟩]).run Tryz.prog w = .ok (.int .i64 (k : Int)) (w.setRow g (setB cur o ((l.take k).map bv))) := by
  obtain ⟨i0, hi0, hz0, hz1, hz2⟩ := info_parts byte_info
  have hkl : k ≤ l.length := by rw [hk]; exact Nat.min_le_left _ _
  have hlen : ((l.take k).map bv).length = k := by simp; omega
  have hst := run_storeCells_at Tryz.prog g o T ((l.take k).map bv) 0 cur w hg (by rw [hlen]; simpa using hfit) one_bv
  have hsz : (⟨l.toArray⟩ : ByteArray).size = l.length := by simp [ByteArray.size]
  generalize hcs : (l.take k).map bv = cs at hst hlen ⊢
  subst hlen
  have hcs2 : List.take cs.length (List.map (fun b => Value.int IntKind.u8 (b.toNat : Int)) l) = cs := by rw [← List.map_take]; exact hcs
  simp only [Nat.add_zero] at hst
  simp [Builtin.copy_, run_underlying Tryz.underlying22, Builtin.lenOf, Builtin.firstCells, sizeOf, typeInfo, hi0, hsz, ← hk, goInt, setB, splice]
  rw [hcs2, hst]
  simp
/-- copy of bytes into a row -/
theorem run_copy_rd (w : World) (g o dLen dCap n c k : Nat) (A : Option Addr) (l : Bytes) (cur : Array Value) (T : Nat) (hg : w.heap[g]? = some (.cells cur T (0, 0))) (hn : l.length = n) (hr : Rd w A l)
    (hk : k = Nat.min n dLen) (hfit : o + k ≤ cur.size) (ty : TypeId) :
    (Builtin.copy_ #[22, 22] ty #[.slice (some ⟨g, o, none⟩) dLen dCap, .slice A n c]).run Tryz.prog w = .ok (.int .i64 (k : Int)) (w.setRow g (setB cur o ((l.take k).map bv))) := by
  subst hn
  obtain ⟨i0, hi0, hz0, hz1, hz2⟩ := info_parts byte_info
  have hkl : k ≤ l.length := by rw [hk]; exact Nat.min_le_left _ _
  have hlen : ((l.take k).map bv).length = k := by simp; omega
  rcases A with _ | ad
  · have h0 : l = [] := by
      cases l with
      | nil => rfl
      | cons x r => obtain ⟨b, off, h, _⟩ := hr 0 (by simp); cases h
    subst h0
    have hk0 : k = 0 := by simp at hkl; exact hkl
    subst hk0
    simp only [List.take_nil, List.map_nil, setB_nil, setRow_self w g cur T _ hg]
    simp [Builtin.copy_, run_underlying Tryz.underlying22, Builtin.lenOf, Builtin.firstCells, sizeOf, typeInfo, hi0, goInt, storeCells]
  · have hr2 := run_copy_row (P := Tryz.prog) w 22 22 ty 5 g o dLen dCap ad l.length c cur T ((l.take k).map bv) Tryz.underlying22 (by rw [hi0]; simp [hz1]) hg (by rw [hlen, hk])
      (fun j v hj => (hr.take k hkl).cells j v hj) (by rw [hlen]; exact hfit) one_bv
    have he : ∀ X : List Value, (cur.toList.take o ++ X ++ cur.toList.drop (o + X.length)).toArray = setB cur o X := fun X => by simp [setB, splice]
    rw [he] at hr2
    rw [hr2, hlen]
    rfl
/-- s[i:k] of bytes -/
theorem run_cut (p off n c i k : Nat) (hik : i ≤ k) (hkc : k ≤ c) (hlt : i < c) (W : World) :
    (Instr.sliceAt 22 (.slice (some ⟨p, off, none⟩) n c) (some (.int .i64 i)) (some (.int .i64 k)) none).run Tryz.prog W = .ok (.slice (some ⟨p, off + i, none⟩) (k - i) (c - i)) W := by
  obtain ⟨i0, hi0, hz0, hz1, hz2⟩ := info_parts byte_info
  have h3 : ¬ c = i := by omega
  simp [Instr.sliceAt, Instr.slice, Instr.sliceBounds, Instr.sliceBound, run_underlying Tryz.underlying22, asIntOf, sizeOf, typeInfo, hi0, hz1, hik, hkc, h3, Addr.add_lit]
end Go.Proofs.YtbnobjlphmkgeaaGreatDoor
/- append of whatever slice onto one of the call's own; clear of a part of a row of bytes. -/
namespace Go.Proofs.YtbnobjlphmkgeaaGreatDoor
open Go.RowKit

/-- the slice that begins at A has these cells, each element of so many -/
structure Src (w : World) (size : Nat) (A : Option Addr) (m : Nat) (news : List Value) : Prop where
  len : news.length = m * size
  cells : ∀ j u, news[j]? = some u → ∃ ad, A = some ad ∧ w.cell? (ad.add j) = some u
theorem Src.of_own {w : World} {base e size n : Nat} {v : Value} {xs : List Value} (h : w.ownsRow base e size v n xs) : ∃ A c, v = .slice A n c ∧ n ≤ c ∧ Src w size A n xs := by
  rcases h.2 with ⟨rfl, rfl⟩ | ⟨g, cap, cur, rfl, _, hh, hc, hm, hz, ht⟩
  · have hx : xs = [] := List.eq_nil_of_length_eq_zero (by have := h.1; simpa using this)
    subst hx
    exact ⟨none, 0, rfl, Nat.le_refl _, by simp, fun j u hu => by simp at hu⟩
  · exact ⟨_, cap, rfl, hc, h.1, fun j u hu => ⟨_, rfl, h.cells (g := g) rfl j u hu⟩⟩
theorem Src.below {w w' : World} {size : Nat} {A : Option Addr} {m : Nat} {news : List Value} (h : Src w size A m news) (hb : Below w.heap.size w w') : Src w' size A m news :=
  ⟨h.len, fun j u hu => by
    obtain ⟨ad, hA, hc⟩ := h.cells j u hu
    exact ⟨ad, hA, (hb.cell (p := ad.add j) (World.block_lt_of_cell? w _ hc)).trans hc⟩⟩
theorem Src.of_rd {w : World} {A : Option Addr} {l : Bytes} (h : Rd w A l) : Src w 1 A l.length (l.map bv) :=
  ⟨by simp, fun j u hu => by
    have hj : j < l.length := by
      have := (List.getElem?_eq_some_iff.1 hu).1
      simpa using this
    obtain ⟨b, off, rfl, hc⟩ := h j hj
    refine ⟨_, rfl, ?_⟩
    rw [Addr.add_lit, hc, ← hu]
    simp [hj]⟩
section
variable {P : Program}
theorem run_append_src (w : World) (base : Nat) (t ty e : TypeId) (i : TypeInfo) (z : Value) (size bytes : Nat) (ht : P.underlying t = some (.slice e)) (hi : P.info? e = some i) (hz : i.zero = some z)
    (hsize : i.size = size) (hby : i.bytes = bytes) (hzs : z.cells.size = size) (hsz : 0 < size)
    (v : Value) (n : Nat) (xs : List Value) (hown : w.ownsRow base e size v n xs) (A : Option Addr) (m c : Nat) (news : List Value) (hr : Src w size A m news) (h1 : ∀ u ∈ news, u.oneCell' = true)
    (h63 : n + m ≤ maxLen) (hbytes : (n + m) * bytes ≤ 140737488355328) (hbase : base ≤ w.heap.size) :
    ∃ v' w', (Builtin.append_ #[t, t] ty #[v, .slice A m c]).run P w = .ok v' w' ∧ w'.ownsRow base e size v' (n + m) (xs ++ news) ∧ w.grownBy w' v.ownBlock ∧ (v'.ownBlock = v.ownBlock ∨ v'.ownBlock = some w.heap.size) := by
  rcases A with _ | ad
  · have hx : news = [] := by
      cases news with
      | nil => rfl
      | cons u r => obtain ⟨ad, h, _⟩ := hr.cells 0 u (by simp); cases h
    subst hx
    have hm : m = 0 := by
      have h2 := hr.len
      rcases Nat.eq_zero_or_pos m with h0 | h0
      · exact h0
      · have := Nat.mul_pos h0 hsz
        simp only [List.length_nil] at h2
        omega
    subst hm
    refine ⟨v, w, ?_, by simpa using hown, World.grownBy.refl w _, .inl rfl⟩
    rcases hown.2 with ⟨rfl, rfl⟩ | ⟨g, cap, cur, rfl, _, _, hnc, _⟩
    · simp [Builtin.append_, run_underlying ht, sizeOf, typeInfo, hi, Builtin.lenOf, Builtin.firstCells]
    · simp [Builtin.append_, run_underlying ht, sizeOf, typeInfo, hi, Builtin.lenOf, Builtin.firstCells, hnc, storeCells]
  · have hcells : ∀ j u, news[j]? = some u → w.cell? (ad.add j) = some u := fun j u hu => by
      obtain ⟨ad', h, hc⟩ := hr.cells j u hu
      injection h with h
      subst h
      exact hc
    obtain ⟨v', w', hrun, h2, h3, _, h5⟩ := run_append_own_at (P := P) w base t ty e i z size bytes ht hi hz hsize hby hzs hsz v n xs hown ad m c news hr.len hcells h1 h63 hbytes hbase
    exact ⟨v', w', hrun, h2, h3, h5⟩
theorem wp_append_src (w : World) {o : Oper} {a : Act} {K : Act → World → Prop} {Q : Exit → Act → World → Prop} (s x : Operand) (t : TypeId)
    (ho : o.op = .call { callee := .builtin .append, args := #[s, x], argTypes := #[t, t] })
    (base : Nat) (e : TypeId) (i : TypeInfo) (z : Value) (size bytes : Nat) (ht : P.underlying t = some (.slice e)) (hi : P.info? e = some i) (hz : i.zero = some z)
    (hsize : i.size = size) (hby : i.bytes = bytes) (hzs : z.cells.size = size) (hsz : 0 < size)
    (v : Value) (n : Nat) (xs : List Value) (hs : a.eval s = v) (hown : w.ownsRow base e size v n xs) (A : Option Addr) (m c : Nat) (news : List Value) (hx : a.eval x = .slice A m c) (hr : Src w size A m news) (h1 : ∀ u ∈ news, u.oneCell' = true)
    (h63 : n + m ≤ maxLen) (hbytes : (n + m) * bytes ≤ 140737488355328) (hbase : base ≤ w.heap.size)
    (h : ∀ v' w', w'.ownsRow base e size v' (n + m) (xs ++ news) → w.grownBy w' v.ownBlock → (v'.ownBlock = v.ownBlock ∨ v'.ownBlock = some w.heap.size) → K (a.put o.dst v') w') : o.wp P a w K Q := by
  obtain ⟨v', w', hrun, h2, h3, h4⟩ := run_append_src (P := P) w base t o.type e i z size bytes ht hi hz hsize hby hzs hsz v n xs hown A m c news hr h1 h63 hbytes hbase
  unfold Oper.wp execOp
  simp only [ho, resolve, invoke, builtin, Sem.run_bind, Sem.run_pure, Result.andThen_ok, List.map_toArray, List.map_cons, List.map_nil, hs, hx, hrun]
  exact h v' w' h2 h3 h4
theorem wpList_append_src (w : World) {ops : Array Oper} {rest : List Oper} {o : Oper} {a : Act} {Q : Exit → Act → World → Prop} (hgd : o.guard = none) (s x : Operand) (t : TypeId)
    (ho : o.op = .call { callee := .builtin .append, args := #[s, x], argTypes := #[t, t] })
    (base : Nat) (e : TypeId) (i : TypeInfo) (z : Value) (size bytes : Nat) (ht : P.underlying t = some (.slice e)) (hi : P.info? e = some i) (hz : i.zero = some z)
    (hsize : i.size = size) (hby : i.bytes = bytes) (hzs : z.cells.size = size) (hsz : 0 < size)
    (v : Value) (n : Nat) (xs : List Value) (hs : a.eval s = v) (hown : w.ownsRow base e size v n xs) (A : Option Addr) (m c : Nat) (news : List Value) (hx : a.eval x = .slice A m c) (hr : Src w size A m news) (h1 : ∀ u ∈ news, u.oneCell' = true)
    (h63 : n + m ≤ maxLen) (hbytes : (n + m) * bytes ≤ 140737488355328) (hbase : base ≤ w.heap.size)
    (h : ∀ v' w', w'.ownsRow base e size v' (n + m) (xs ++ news) → w.grownBy w' v.ownBlock → (v'.ownBlock = v.ownBlock ∨ v'.ownBlock = some w.heap.size) → wpList P ops Q rest (a.put o.dst v') w') : wpList P ops Q (o :: rest) a w :=
  wpList_plain hgd fun _ hK => wp_append_src w s x t ho base e i z size bytes ht hi hz hsize hby hzs hsz v n xs hs hown A m c news hx hr h1 h63 hbytes hbase fun v' w' h2 h3 h4 => hK _ _ (h v' w' h2 h3 h4)
end

/-- n zeros -/
theorem zeros_bv (n : Nat) : (List.replicate n (0 : UInt8)).map bv = List.replicate n (.int .u8 0) := by simp
theorem zero_byte (w : World) : (zeroValue 5).run Tryz.prog w = .ok (.int .u8 0) w := by kernel_rfl
theorem run_clear_row (w : World) (g o n c : Nat) (cur : Array Value) (T : Nat) (hg : w.heap[g]? = some (.cells cur T (0, 0))) (hn : 0 < n) (hfit : o + n ≤ cur.size) (ty : TypeId) :
    (Builtin.clear_ #[22] ty #[.slice (some ⟨g, o, none⟩) n c]).run Tryz.prog w = .ok (.tuple #[]) (w.setRow g (setB cur o ((List.replicate n (0 : UInt8)).map bv))) := by
  have hst := run_storeCells_at Tryz.prog g o T (List.replicate n (.int .u8 0)) 0 cur w hg (by simp; omega) (by intro v hv; rw [List.eq_of_mem_replicate hv]; rfl)
  have hzc : (Builtin.zeroCells (Value.int IntKind.u8 0).cells n).toList = List.replicate n (.int .u8 0) := by
    rw [show (Value.int IntKind.u8 0).cells = #[Value.int IntKind.u8 0] from rfl]
    simp [Builtin.zeroCells]
    apply List.ext_getElem
    · simp
    · intro i h1 h2; simp [Nat.mod_one]
  rw [zeros_bv]
  obtain ⟨m, rfl⟩ : ∃ m, n = m + 1 := ⟨n - 1, by omega⟩
  simp only [Nat.add_zero] at hst
  have hv := zero_byte
  simp [Builtin.clear_, run_underlying Tryz.underlying22, hv, hzc, hst, setB, splice]
/-- s[i:k], s[i:] of bytes, wherever they lie -/
theorem run_cutA (A : Option Addr) (n c i k : Nat) (hik : i ≤ k) (hkc : k ≤ c) (W : World) :
    (Instr.sliceAt 22 (.slice A n c) (some (.int .i64 i)) (some (.int .i64 k)) none).run Tryz.prog W = .ok (.slice (if c = i then A else A.map (·.add i)) (k - i) (c - i)) W := by
  obtain ⟨i0, hi0, hz0, hz1, hz2⟩ := info_parts byte_info
  simp [Instr.sliceAt, Instr.slice, Instr.sliceBounds, Instr.sliceBound, run_underlying Tryz.underlying22, asIntOf, sizeOf, typeInfo, hi0, hz1, hik, hkc]
theorem run_tailA (A : Option Addr) (n c i : Nat) (hin : i ≤ n) (W : World) :
    (Instr.sliceAt 22 (.slice A n c) (some (.int .i64 i)) none none).run Tryz.prog W = .ok (.slice (if c = i then A else A.map (·.add i)) (n - i) (c - i)) W := by
  obtain ⟨i0, hi0, hz0, hz1, hz2⟩ := info_parts byte_info
  simp [Instr.sliceAt, Instr.slice, Instr.sliceBounds, Instr.sliceBound, run_underlying Tryz.underlying22, asIntOf, sizeOf, typeInfo, hi0, hz1, hin]
theorem run_headA (A : Option Addr) (n c k : Nat) (hkc : k ≤ c) (W : World) :
    (Instr.sliceAt 22 (.slice A n c) none (some (.int .i64 k)) none).run Tryz.prog W = .ok (.slice A k c) W := by
  obtain ⟨i0, hi0, hz0, hz1, hz2⟩ := info_parts byte_info
  cases A <;> simp [Instr.sliceAt, Instr.slice, Instr.sliceBounds, Instr.sliceBound, run_underlying Tryz.underlying22, asIntOf, sizeOf, typeInfo, hi0, hkc, Addr.add]
end Go.Proofs.YtbnobjlphmkgeaaGreatDoor
/- Maps told by a function from keys to values: lookup, store, len, clear as equations; over whatever program. -/
namespace Go.Proofs.YtbnobjlphmkgeaaGreatDoor
open Go.RowKit Go.Maps Go.ChangeMaps

/-- any value, as it stands -/
def heldR (v : Value) : Option (DataW Value × List MemPlace) := some (.held v, [])
section
variable {P : Program} {T K E : TypeId} {κ : Type} {kl : κ → Lit} {w w' : World} {b cnt : Nat} {f : κ → Option Value}
/-- what a datum has at each key -/
def Has (kl : κ → Lit) (D : DataW Value) (f : κ → Option Value) : Prop := (∀ k, (f k = none → Maps.has D (kl k) = false) ∧ ∀ v, f k = some v → Maps.has D (kl k) = true ∧ ∀ z, D.atKey (kl k) z = .held v) ∧ ∀ l, Maps.has D l = true → ∃ k, l = kl k ∧ (f k).isSome = true
/-- block b is a map of cnt entries: at each key what f says -/
def IM (P : Program) (K : TypeId) (kl : κ → Lit) (w : World) (b : Nat) (f : κ → Option Value) (cnt : Nat) : Prop :=
  ∃ D : DataW Value, w.ownsMap P K heldR b cnt D ∧ Maps.size D = cnt ∧ Has kl D f
theorem ownsMap_tight {D : DataW Value} {n : Nat} (h : w.ownsMap P K heldR b n D) : w.ownsMap P K heldR b (Maps.size D) D := by
  obtain ⟨es, clock, hb, F, _, rfl⟩ := h
  refine ⟨es, clock, hb, F, ?_, rfl⟩
  simp [Maps.size, length_sorted]
theorem IM.made (w : World) : IM P K kl (w.alloc (.map #[] 0)) w.heap.size (fun _ => none) 0 :=
  ⟨_, World.ownsMap_made w P K heldR, rfl, fun k => ⟨fun _ => rfl, fun v h => by cases h⟩, fun l h => by cases h⟩
theorem IM.block (h : IM P K kl w b f cnt) (hb : w'.heap[b]? = w.heap[b]?) : IM P K kl w' b f cnt := by
  obtain ⟨D, ⟨es, clock, h1, h2⟩, h3⟩ := h
  exact ⟨D, ⟨es, clock, hb.trans h1, h2⟩, h3⟩
theorem IM.lt (h : IM P K kl w b f cnt) : b < w.heap.size := by
  obtain ⟨D, h, _⟩ := h
  exact h.lt
theorem IM.isMap (h : IM P K kl w b f cnt) : ∃ es clock, w.heap[b]? = some (.map es clock) := by
  obtain ⟨D, ⟨es, clock, hb, _⟩, _⟩ := h
  exact ⟨es, clock, hb⟩
theorem IM.look_some (h : IM P K kl w b f cnt) (KL : Keyed P K) (ht : P.underlying T = some (.map K E)) {z : Value} (hz : (zeroValue E).run P w = .ok z w) {key : Value} {k : κ} (hkey : keyOf P K key = some (kl k)) {v : Value} (hf : f k = some v) :
    (Instr.lookup T (.map (some b)) key true).run P w = .ok (.tuple #[v, .bool true]) w ∧ (Instr.lookup T (.map (some b)) key false).run P w = .ok v w := by
  obtain ⟨D, h, _, hh⟩ := h
  obtain ⟨h1, h2⟩ := (hh.1 k).2 v hf
  constructor
  · obtain ⟨v', ps, hrun, hv⟩ := h.look_ok KL ht hz (zd := .held z) (zp := []) rfl hkey
    rw [h2, heldR] at hv
    simp only [Option.some.injEq, Prod.mk.injEq, DataW.held.injEq] at hv
    rw [h1, hv.1] at hrun
    exact hrun
  · obtain ⟨v', ps, hrun, hv⟩ := h.lookup KL ht hz (zd := .held z) (zp := []) rfl hkey
    rw [h2, heldR] at hv
    simp only [Option.some.injEq, Prod.mk.injEq, DataW.held.injEq] at hv
    rw [hv.1] at hrun
    exact hrun
theorem IM.look_none (h : IM P K kl w b f cnt) (KL : Keyed P K) (ht : P.underlying T = some (.map K E)) {z : Value} (hz : (zeroValue E).run P w = .ok z w) {key : Value} {k : κ} (hkey : keyOf P K key = some (kl k)) (hf : f k = none) :
    (Instr.lookup T (.map (some b)) key true).run P w = .ok (.tuple #[z, .bool false]) w ∧ (Instr.lookup T (.map (some b)) key false).run P w = .ok z w := by
  obtain ⟨D, h, _, hh⟩ := h
  have h1 := (hh.1 k).1 hf
  constructor
  · obtain ⟨v', ps, hrun, hv⟩ := h.look_ok KL ht hz (zd := .held z) (zp := []) rfl hkey
    rw [atKey_of_not_has h1, heldR] at hv
    simp only [Option.some.injEq, Prod.mk.injEq, DataW.held.injEq] at hv
    rw [h1, hv.1] at hrun
    exact hrun
  · obtain ⟨v', ps, hrun, hv⟩ := h.lookup KL ht hz (zd := .held z) (zp := []) rfl hkey
    rw [atKey_of_not_has h1, heldR] at hv
    simp only [Option.some.injEq, Prod.mk.injEq, DataW.held.injEq] at hv
    rw [hv.1] at hrun
    exact hrun
/-- f with another value at one key -/
def upd [DecidableEq κ] (f : κ → Option Value) (k : κ) (v : Value) : κ → Option Value := fun x => if x = k then some v else f x
theorem IM.store [DecidableEq κ] (h : IM P K kl w b f cnt) (KL : Keyed P K) (hinj : ∀ x y, kl x = kl y → x = y) (ht : P.underlying T = some (.map K E)) (hn : cnt < maxLen) {key : Value} {k : κ} (hkey : keyOf P K key = some (kl k)) (v : Value) :
    ∃ w', (Instr.mapUpdate T (.map (some b)) key v).run P w = .ok () w' ∧ IM P K kl w' b (upd f k v) (if (f k).isSome then cnt else cnt + 1) ∧ w.grownBy w' (some b) ∧ w'.heap.size = w.heap.size := by
  obtain ⟨D, h, hs, hh⟩ := h
  obtain ⟨w', hrun, h', ht'⟩ := h.store KL ht hn (d := .held v) (ps := []) hkey rfl
  obtain ⟨w2, hrun2, _, hg⟩ := h.update KL ht hn (d := .held v) (ps := []) hkey rfl
  have e : w' = w2 := by
    rw [hrun] at hrun2
    injection hrun2
  subst e
  have hik : WideAt.IsKeyLit (kl k) := KL.key hkey
  have hsz : Maps.size (D.put (kl k) (.held v)) = if (f k).isSome then cnt else cnt + 1 := by
    rw [size_put (h.tidy KL), hs]
    cases hf : f k with
    | none => rw [(hh.1 k).1 hf]; simp
    | some u => rw [((hh.1 k).2 u hf).1]; simp
  refine ⟨w', hrun, ⟨_, ?_, hsz, fun x => ?_, fun l hl => ?_⟩, hg, ?_⟩
  · rw [← hsz]; exact ownsMap_tight h'
  · unfold upd
    by_cases hx : x = k
    · subst hx
      rw [if_pos rfl]
      refine ⟨(fun h => by cases h), fun u hu => ?_⟩
      obtain rfl := Option.some.inj hu
      exact ⟨has_put_same h.isMap hik _, fun z => atKey_put_same h.isMap hik _ z⟩
    · rw [if_neg hx]
      have hne : kl x ≠ kl k := fun e => hx (hinj _ _ e)
      refine ⟨fun h0 => by rw [has_put_other hne]; exact (hh.1 x).1 h0, fun u hu => ?_⟩
      rw [has_put_other hne]
      exact ⟨((hh.1 x).2 u hu).1, fun z => by rw [atKey_put_other hne]; exact ((hh.1 x).2 u hu).2 z⟩
  · by_cases hx : l = kl k
    · exact ⟨k, hx, by unfold upd; rw [if_pos rfl]; rfl⟩
    · rw [has_put_other hx] at hl
      obtain ⟨x, hx', hfx⟩ := hh.2 l hl
      refine ⟨x, hx', ?_⟩
      unfold upd
      split
      · rfl
      · exact hfx
  · obtain ⟨es, clock, es', clock', _, hw⟩ := ht'
    rw [hw]; simp [setBlock]
theorem IM.clear_ (h : IM P K kl w b f cnt) (ht : P.underlying T = some (.map K E)) (ty : TypeId) :
    ∃ w', (Builtin.clear_ #[T] ty #[.map (some b)]).run P w = .ok (.tuple #[]) w' ∧ IM P K kl w' b (fun _ => none) 0 ∧ w.grownBy w' (some b) ∧ w'.heap.size = w.heap.size := by
  obtain ⟨D, ⟨es, clock, hb, F, _⟩, _⟩ := h
  refine ⟨setBlock w b (.map #[] clock), ?_, ⟨.map [], ⟨#[], clock, heap_setBlock_same hb _, ⟨by simp, ?_, by simp⟩, Nat.le_refl _, rfl⟩, rfl, fun k => ⟨fun _ => rfl, fun v h => by cases h⟩, fun l h => by cases h⟩,
    ⟨rfl, rfl, rfl, by simp [setBlock], fun i _ hi => heap_setBlock_other hb _ (fun e => hi (by rw [e]))⟩, by simp [setBlock]⟩
  · simp [Builtin.clear_, run_underlying ht, MapKept.run_getObj_map hb, MapKept.run_setObj_map _ hb, Result.andThen, setBlock]
  · exact MapKept.stamped_empty _
end
end Go.Proofs.YtbnobjlphmkgeaaGreatDoor
/- What stays: all but the blocks of a set. No program in sight. -/
namespace Go.Proofs.YtbnobjlphmkgeaaGreatDoor
open Go.RowKit

/-- all that is not in F is as it was; F: the blocks that a device takes -/
structure Keep (F : Nat → Prop) (w w' : World) : Prop where
  os : w'.os = w.os
  tape : w'.tape = w.tape
  output : w'.output = w.output
  size : w.heap.size ≤ w'.heap.size
  block : ∀ k, k < w.heap.size → ¬ F k → w'.heap[k]? = w.heap[k]?
theorem Keep.refl (F : Nat → Prop) (w : World) : Keep F w w := ⟨rfl, rfl, rfl, Nat.le_refl _, fun _ _ _ => rfl⟩
theorem Keep.trans {F F' : Nat → Prop} {a b c : World} (h : Keep F a b) (k : Keep F' b c) (hF : ∀ x, F' x → F x ∨ a.heap.size ≤ x) : Keep F a c :=
  ⟨k.os.trans h.os, k.tape.trans h.tape, k.output.trans h.output, Nat.le_trans h.size k.size, fun x hx hn =>
    (k.block x (Nat.lt_of_lt_of_le hx h.size) (fun hf => by rcases hF x hf with h' | h'; exact hn h'; omega)).trans (h.block x hx hn)⟩
theorem Keep.of_below {F : Nat → Prop} {w w' : World} (h : Below w.heap.size w w') : Keep F w w' := ⟨h.os, h.tape, h.output, h.size, fun k hk _ => h.block k hk⟩
theorem Keep.below {F : Nat → Prop} {B : Nat} {w w' : World} (h : Keep F w w') (hB : B ≤ w.heap.size) (hF : ∀ k, F k → B ≤ k) : Below B w w' :=
  ⟨h.os, h.tape, h.output, h.size, fun k hk => h.block k (by omega) (fun hf => by have := hF k hf; omega)⟩
theorem Keep.rd {F : Nat → Prop} {w w' : World} {A : Option Addr} {l : Bytes} (h : Keep F w w') (hr : Rd w A l) (hA : ∀ ad, A = some ad → ¬ F ad.block) : Rd w' A l := fun j hj => by
  obtain ⟨b, off, rfl, hc⟩ := hr j hj
  exact ⟨b, off, rfl, (World.cell?_of_block (w := w) (h.block b (block_lt_of_cell hc) (hA _ rfl))).trans hc⟩
theorem Keep.row {F : Nat → Prop} {w w' : World} {e g cap : Nat} {l : Bytes} (h : Keep F w w') (hr : Row w e g cap l) (hg : ¬ F g) : Row w' e g cap l := by
  obtain ⟨cur, h0, h1⟩ := hr
  exact ⟨cur, (h.block g (Array.getElem?_eq_some_iff.1 h0).1 hg).trans h0, h1⟩
theorem Keep.drewN {F : Nat → Prop} {w w' : World} (h : Keep F w w') (n : Nat) : Keep F w (w'.drewN n) := ⟨h.os, h.tape, h.output, h.size, h.block⟩

section
variable {w w' : World}
theorem ownsRow_block {base : Nat} {e : TypeId} {size : Nat} {v : Value} {n : Nat} {xs : List Value} (h : w.ownsRow base e size v n xs) (hb : ∀ q, v.ownBlock = some q → w'.heap[q]? = w.heap[q]?) : w'.ownsRow base e size v n xs := by
  refine ⟨h.1, ?_⟩
  rcases h.2 with hn | ⟨g, cap, cur, rfl, hb0, hgg, rest⟩
  · exact .inl hn
  · exact .inr ⟨g, cap, cur, rfl, hb0, (hb g rfl).trans hgg, rest⟩
theorem Row.block {e g cap : Nat} {l : Bytes} (h : Row w e g cap l) (hb : w'.heap[g]? = w.heap[g]?) : Row w' e g cap l := by
  obtain ⟨cur, h0, h1⟩ := h
  exact ⟨cur, hb.trans h0, h1⟩
theorem ne_cells {g : Nat} {cur cur' : Array Value} {t t' : TypeId} (h1 : w.heap[g]? = some (.cells cur t (0, 0))) {g' : Nat} (h2 : w.heap[g']? = some (.cells cur' t' (0, 0))) (hne : t ≠ t') : g ≠ g' := fun e => by
  rw [e, h2] at h1
  injection h1 with h1
  injection h1 with _ h1
  exact hne h1.symm
theorem ne_row {g : Nat} {cur : Array Value} {t : TypeId} (h1 : w.heap[g]? = some (.cells cur t (0, 0))) {e g' cap : Nat} {l : Bytes} (h2 : Row w e g' cap l) (hne : t ≠ e) : g ≠ g' := by
  obtain ⟨cur', h0, _⟩ := h2
  exact ne_cells h1 h0 hne
end
theorem heap_setK {w : World} {d k : Nat} {cur : Array Value} {t : TypeId} (h : w.heap[d]? = some (.cells cur t (0, 0))) (v : Value) : (w.setCell ⟨d, k, none⟩ v).heap[d]? = some (.cells (cur.setIfInBounds k v) t (0, 0)) := by
  rw [setCell_eq_setRow w d k cur t _ _ h]
  exact setRow_heap w d cur _ t _ h
def FourAt (w : World) (p : Nat) (a b c d : Int) : Prop := w.cell? ⟨p, 0, none⟩ = some (.int .i64 a) ∧ w.cell? ⟨p, 1, none⟩ = some (.int .i64 b) ∧ w.cell? ⟨p, 2, none⟩ = some (.int .i64 c) ∧ w.cell? ⟨p, 3, none⟩ = some (.int .i64 d)
theorem fourAt_one (w : World) (a b c d : Int) (t : TypeId) : FourAt (w.alloc (.cells #[.int .i64 a, .int .i64 b, .int .i64 c, .int .i64 d] t)) w.heap.size a b c d := by
  have h := heap_alloc_new w (.cells #[.int .i64 a, .int .i64 b, .int .i64 c, .int .i64 d] t)
  unfold FourAt
  simp only [World.cell?]
  rw [h]
  exact ⟨rfl, rfl, rfl, rfl⟩
theorem FourAt.below {w w' : World} {p : Nat} {a b c d : Int} (h : FourAt w p a b c d) (hb : Below w.heap.size w w') : FourAt w' p a b c d := by
  have hlt := block_lt_of_cell h.1
  exact ⟨(hb.cell (p := ⟨p, 0, none⟩) hlt).trans h.1, (hb.cell (p := ⟨p, 1, none⟩) hlt).trans h.2.1, (hb.cell (p := ⟨p, 2, none⟩) hlt).trans h.2.2.1, (hb.cell (p := ⟨p, 3, none⟩) hlt).trans h.2.2.2⟩
end Go.Proofs.YtbnobjlphmkgeaaGreatDoor
/- A device in memory: what lies where. -/
namespace Go.Proofs.YtbnobjlphmkgeaaGreatDoor
open Go.RowKit

/-- what a device is -/
structure Dv where
  S : List Bytes
  O : List Nat
  M : Nat → Bytes
  left : Int
  down : Bool
/-- where it lies -/
structure Lay where
  gs : Nat
  cs : Nat
  gm : Nat
  vo : Value
  sb : Nat → Nat
  sc : Nat → Nat
  mb : Nat → Nat
  mc : Nat → Nat
def natL (k : Nat) : Lit := .int .i64 k
theorem natL_inj (x y : Nat) (h : natL x = natL y) : x = y := by
  unfold natL at h; injection h with _ h; omega
section
variable {w w' : World} {F F' : Nat → Prop} {d : Nat} {D : Dv} {Y : Lay} {live : Nat → Prop}
end
end Go.Proofs.YtbnobjlphmkgeaaGreatDoor
/- The contracts of package device: Len, Down, step, Fail, forget. -/
namespace Go.Proofs.YtbnobjlphmkgeaaGreatDoor
open Go.RowKit

theorem five {w : World} {d : Nat} {a b c e f : Value} {t : TypeId} (h : w.heap[d]? = some (.cells #[a, b, c, e, f] t (0, 0))) :
    (w.cell? ⟨d, 0, none⟩ = some a ∧ w.cell? ⟨d, 1, none⟩ = some b ∧ w.cell? ⟨d, 2, none⟩ = some c ∧ w.cell? ⟨d, 3, none⟩ = some e ∧ w.cell? ⟨d, 4, none⟩ = some f) ∧ ∀ k, w.frozen? ⟨d, k, none⟩ = false := by
  refine ⟨⟨?_, ?_, ?_, ?_, ?_⟩, fun k => by simp [World.frozen?, h]⟩ <;> simp [World.cell?, h]
theorem Keep.setCell {F : Nat → Prop} {w w' : World} (h : Keep F w w') {p : Addr} (hp : F p.block ∨ w.heap.size ≤ p.block) (u : Value) : Keep F w (w'.setCell p u) :=
  ⟨h.os, h.tape, h.output, by simpa using h.size, fun k hk hn => by
    have : k ≠ p.block := fun e => by rcases hp with h' | h'; exact hn (e ▸ h'); omega
    exact (Below.heap_setCell w' p u k this).trans (h.block k hk hn)⟩
end Go.Proofs.YtbnobjlphmkgeaaGreatDoor
/- The contracts of package device: Read and Write. -/
namespace Go.Proofs.YtbnobjlphmkgeaaGreatDoor
open Go.RowKit Go.Maps Go.ChangeMaps

theorem wf_nat {n : Nat} (hn : n ≤ 100000) : (Lit.int .i64 (n : Int)).wf = true := by
  have : (-9223372036854775808 : Int) ≤ n ∧ (n : Int) ≤ 9223372036854775807 := by omega
  simpa [Lit.wf, IntKind.min, IntKind.max, IntKind.bits, IntKind.signed] using this
theorem int_key {n : Nat} (hn : n ≤ 100000) : keyOf Tryz.prog 3 (.int .i64 (n : Int)) = some (natL n) := keyOf_int_mk Tryz.underlying3 (wf_nat hn)
theorem int_keyed : Go.Maps.Keyed Tryz.prog 3 := Go.Maps.int_keyed Tryz.underlying3
end Go.Proofs.YtbnobjlphmkgeaaGreatDoor
/- The contract of Write. -/
namespace Go.Proofs.YtbnobjlphmkgeaaGreatDoor
open Go.RowKit Go.Maps Go.ChangeMaps

section
variable {P : Program} {T K E : TypeId} {κ : Type} [DecidableEq κ] {kl : κ → Lit} {b cnt : Nat} {f : κ → Option Value}
end
theorem nodup_le : ∀ (n : Nat) (l : List Nat), l.Nodup → (∀ x ∈ l, x < n) → l.length ≤ n
  | 0, l, _, h => by
    cases l with
    | nil => simp
    | cons x r => have := h x (by simp); omega
  | n + 1, l, hd, h => by
    by_cases hm : n ∈ l
    · have h1 := nodup_le n (l.erase n) (hd.erase n) (fun x hx => by
        have h2 := (hd.mem_erase_iff).1 hx
        have := h x h2.2
        omega)
      rw [List.length_erase_of_mem hm] at h1
      omega
    · have h1 := nodup_le n l hd (fun x hx => by
        have := h x hx
        have : x ≠ n := fun e => hm (e ▸ hx)
        omega)
      omega
end Go.Proofs.YtbnobjlphmkgeaaGreatDoor
/- The contracts of package device: Flush. -/
namespace Go.Proofs.YtbnobjlphmkgeaaGreatDoor
open Go.RowKit Go.Maps Go.ChangeMaps

end Go.Proofs.YtbnobjlphmkgeaaGreatDoor
/- The contracts of package device: New, Pending. -/
namespace Go.Proofs.YtbnobjlphmkgeaaGreatDoor
open Go.RowKit Go.Maps Go.ChangeMaps

end Go.Proofs.YtbnobjlphmkgeaaGreatDoor
/- The contract of Crash. -/
namespace Go.Proofs.YtbnobjlphmkgeaaGreatDoor
open Go.RowKit Go.Maps Go.ChangeMaps

end Go.Proofs.YtbnobjlphmkgeaaGreatDoor
/- A device that a call has made: the contracts once more, with what they leave of the rest. -/
namespace Go.Proofs.YtbnobjlphmkgeaaGreatDoor
open Go.RowKit Go.Maps Go.ChangeMaps

section
variable {w0 w : World} {F : Nat → Prop} {d : Nat} {D : Dv}
end
end Go.Proofs.YtbnobjlphmkgeaaGreatDoor
/- What comes in: arguments opened to the words of the text Base. No program in sight. -/
namespace Go.Proofs.YtbnobjlphmkgeaaGreatDoor
open Go.RowKit Go.ChangeShapes Go.WideShapes Go.ChangeAt
open Go.ChangeMaps (open_string shut_string)

section
variable {H : Type} {enc : TypeId × Value → H} {P : Program} {w : World}
theorem wf_u8 {n : Int} (h : (Lit.int .u8 n).wf = true) : 0 ≤ n ∧ n ≤ 255 := by
  simpa [Lit.wf, IntKind.min, IntKind.max, IntKind.bits, IntKind.signed] using h
theorem wf_i64' {n : Int} (h : (Lit.int .i64 n).wf = true) : -9223372036854775808 ≤ n ∧ n ≤ 9223372036854775807 := by
  simpa [Lit.wf, IntKind.min, IntKind.max, IntKind.bits, IntKind.signed] using h

def toBytes (zs : List Int) : Bytes := zs.map fun z => UInt8.ofNat z.toNat
theorem toBytes_at {zs : List Int} (hz : ∀ n ∈ zs, (Lit.int .u8 n).wf = true) (j : Nat) (hj : j < zs.length) : .int .u8 (zs.getD j 0) = bv ((toBytes zs)[j]'(by simpa [toBytes] using hj)) := by
  have h1 : zs.getD j 0 = zs[j] := by simp [hj]
  have h2 := wf_u8 (hz _ (List.getElem_mem hj))
  have h3 : (zs[j].toNat % 256 : Nat) = zs[j].toNat := Nat.mod_eq_of_lt (by omega)
  rw [h1]
  simp only [toBytes, List.getElem_map, bv]
  congr 1
  rw [UInt8.toNat_ofNat', show 2 ^ 8 = 256 from rfl, h3]
  omega

/-- a slice of bytes that came in -/
theorem open_bytes {t e : TypeId} {v : Value} {d : DataW H} {ps : List MemPlace} {base : Nat} {r : Reach} (ht : P.underlying t = some (.slice e)) (he : P.underlying e = some (.int .u8)) (hc : P.cellsOf e = 1) (hb : P.bytesOf e = 1)
    (hv : Value.okWide P w r base t v) (h : DataW.Trod enc P w 0 (fun _ => true) true t v d ps) (hz : (d.weights P t).all (· ≤ reachBytes) = true) :
    ∃ (A : Option Addr) (c : Nat) (l : Bytes), v = .slice A l.length c ∧ l.length ≤ c ∧ c ≤ 140737488351232 ∧ Rd w A l := by
  obtain ⟨a0, len0, cap0, rfl⟩ := okWide_slice ht hv
  obtain ⟨fuel, hf⟩ := h
  rcases open_ints ht he hc hf with ⟨hcs, _⟩ | ⟨x, l, c, zs, hcs, _, hl, hm, hlen, hx, hcell, hwz⟩
  · simp [Value.cells] at hcs
    obtain ⟨rfl, rfl, rfl⟩ := hcs
    exact ⟨none, 0, [], rfl, by simp, by omega, Rd.nil_⟩
  · simp [Value.cells] at hcs
    obtain ⟨rfl, rfl, rfl⟩ := hcs
    simp only [Prod.mk.injEq] at hx
    obtain ⟨rfl, rfl⟩ := hx
    have hlen' : zs.length = cap0 := by simpa using hlen
    have hreach : cap0 ≤ 140737488351232 := by
      have := List.all_eq_true.1 hz ((zs.take len0).length * 1 + (zs.drop len0).length * 1) (by
        simp [DataW.weights, ht, hb, lits, Nat.mul_one, hlen'])
      have h2 := of_decide_eq_true this
      simp [hlen'] at h2
      have h3 : reachBytes = 140737488351232 := by decide
      omega
    have hlt : len0 ≤ zs.length := by omega
    refine ⟨some x, cap0, (toBytes zs).take len0, ?_, ?_, hreach, ?_⟩
    · simp [toBytes]; omega
    · simp [toBytes]; omega
    · intro j hj
      have hj' : j < len0 := by simp [toBytes] at hj; omega
      have hc0 := hcell j (by omega)
      obtain ⟨b, off, spot⟩ := x
      have hs : spot = none := by
        have hc1 := hcell 0 (by omega)
        simpa [Addr.add] using World.cell?_spot hc1
      subst hs
      refine ⟨b, off, rfl, ?_⟩
      rw [Addr.add_lit] at hc0
      rw [hc0, toBytes_at hwz j (by omega)]
      simp
end
end Go.Proofs.YtbnobjlphmkgeaaGreatDoor
/- What comes in: slices of structs, of booleans. No program in sight. -/
namespace Go.Proofs.YtbnobjlphmkgeaaGreatDoor
open Go.RowKit Go.ChangeShapes Go.WideShapes Go.ChangeAt

/-- the slice at A has these elements, C cells each -/
def RdX {X : Type} (cells : X → List Value) (C : Nat) (w : World) (A : Option Addr) (L : List X) : Prop :=
  ∀ i (h : i < L.length), ∃ b off, A = some ⟨b, off, none⟩ ∧ ∀ q u, (cells L[i])[q]? = some u → w.cell? ⟨b, off + i * C + q, none⟩ = some u
section
variable {X : Type} {cells : X → List Value} {C : Nat} {w w' : World} {A : Option Addr} {L : List X}
theorem RdX.block (h : RdX cells C w A L) (hb : ∀ ad, A = some ad → ad.block < w.heap.size → w'.heap[ad.block]? = w.heap[ad.block]?) : RdX cells C w' A L := fun i hi => by
  obtain ⟨b, off, hA, hc⟩ := h i hi
  exact ⟨b, off, hA, fun q u hq => (World.cell?_of_block (w := w) (a := ⟨b, off + i * C + q, none⟩) (hb ⟨b, off, none⟩ hA (show b < w.heap.size from block_lt_of_cell (hc q u hq)))).trans (hc q u hq)⟩
theorem RdX.below (h : RdX cells C w A L) (hb : Below w.heap.size w w') : RdX cells C w' A L := h.block fun _ _ hlt => hb.block _ hlt
end
section
variable {H : Type} {enc : TypeId × Value → H} {P : Program} {w : World}
theorem weights_all {e : TypeId} : ∀ (l : List (DataW H)) (n : Nat), (DataW.weightsAll P e l).all (· ≤ n) = true → ∀ d ∈ l, (d.weights P e).all (· ≤ n) = true
  | [], _, _, d, hd => by simp at hd
  | x :: r, n, h, d, hd => by
    rw [DataW.weightsAll, List.all_append, Bool.and_eq_true] at h
    rcases List.mem_cons.1 hd with rfl | hd
    · exact h.1
    · exact weights_all r n h.2 d hd
theorem open_seq {X : Type} [Inhabited X] (cells : X → List Value) (C : Nat) (ok : World → X → Prop) {t e : TypeId} {v : Value} {d : DataW H} {ps : List MemPlace} {base : Nat} {r : Reach} (ht : P.underlying t = some (.slice e)) (hC : P.cellsOf e = C) (hC0 : 0 < C) (hb : 1 ≤ P.bytesOf e)
    (hel : ∀ n cs x, cs.length = C → DataW.trod enc P w 0 (fun _ => true) true n e cs = some x → (x.1.weights P e).all (· ≤ reachBytes) = true → ∃ y : X, cs = cells y ∧ ok w y)
    (hv : Value.okWide P w r base t v) (h : DataW.Trod enc P w 0 (fun _ => true) true t v d ps) (hz : (d.weights P t).all (· ≤ reachBytes) = true) :
    ∃ (A : Option Addr) (c : Nat) (L : List X), v = .slice A L.length c ∧ L.length ≤ c ∧ c ≤ 140737488351232 ∧ (∀ x ∈ L, ok w x) ∧ RdX cells C w A L := by
  obtain ⟨a0, len0, cap0, rfl⟩ := okWide_slice ht hv
  obtain ⟨fuel, hf⟩ := h
  rcases Go.Deep.open_slice ht hf with ⟨hcs, _⟩ | ⟨a, len, cap, m, n, D, Pl, hcs, _, hl, hm, hmm, hx, hi⟩
  · simp [Value.cells] at hcs
    obtain ⟨rfl, rfl, rfl⟩ := hcs
    exact ⟨none, 0, [], rfl, by simp, by omega, fun x hx => by simp at hx, fun i hi => by simp at hi⟩
  · simp [Value.cells] at hcs
    obtain ⟨rfl, rfl, rfl⟩ := hcs
    simp only [if_true] at hmm
    subst hmm
    simp only [Prod.mk.injEq] at hx
    obtain ⟨rfl, rfl⟩ := hx
    rw [DataW.weights, ht] at hz
    simp only [List.all_cons, List.all_append, Bool.and_eq_true, decide_eq_true_eq, List.length_map, List.length_range] at hz
    have hreach : m ≤ 140737488351232 := by
      have h3 : reachBytes = 140737488351232 := by decide
      have h4 := hz.1
      rw [h3] at h4
      have h5 : (len0 + (m - len0)) * 1 ≤ (len0 + (m - len0)) * P.bytesOf e := Nat.mul_le_mul_left _ hb
      omega
    have hex : ∀ i, i < len0 → ∃ y : X, ok w y ∧ w.cells? 0 (a.add (i * C)) C = some (cells y) := fun i hil => by
      obtain ⟨cs', h1, h2⟩ := hi i (by omega)
      obtain ⟨y, hy, hok⟩ := hel n cs' _ (by rw [← hC]; exact (World.cells?_some h1).2.1) h2 (weights_all _ _ hz.2.1 _ (List.mem_map.2 ⟨i, List.mem_range.2 hil, rfl⟩))
      refine ⟨y, hok, ?_⟩
      rw [← hy, ← hC]; exact h1
    obtain ⟨Y, hY⟩ := Go.Deep.choose_lt (α := X) (p := fun i y => ok w y ∧ w.cells? 0 (a.add (i * C)) C = some (cells y)) hex
    have hlen : ((List.range len0).map Y).length = len0 := by simp
    refine ⟨some a, m, (List.range len0).map Y, by rw [hlen], by rw [hlen]; exact hl, hreach, fun x hx => ?_, fun i hil => ?_⟩
    · obtain ⟨i, hi', rfl⟩ := List.mem_map.1 hx
      exact (hY i (List.mem_range.1 hi')).1
    · rw [hlen] at hil
      obtain ⟨_, h2⟩ := hY i hil
      obtain ⟨_, hcl, hat⟩ := World.cells?_some h2
      have hYi : ((List.range len0).map Y)[i]'(by rw [hlen]; exact hil) = Y i := by simp
      rw [hYi]
      obtain ⟨b, off, spot⟩ := a
      have hcell : ∀ q u, (cells (Y i))[q]? = some u → w.cell? ((⟨b, off, spot⟩ : Addr).add (i * C + q)) = some u := fun q u hq => by
        have hql : q < C := by have := (List.getElem?_eq_some_iff.1 hq).1; omega
        rw [← Go.Deep.add_add, hat q hql, hq]
      have hs : spot = none := by
        obtain ⟨_, h20⟩ := hY 0 (by omega)
        obtain ⟨_, hcl0, hat0⟩ := World.cells?_some h20
        have h0 := hat0 0 hC0
        rw [List.getElem?_eq_getElem (by omega), Nat.zero_mul] at h0
        simpa [Addr.add] using World.cell?_spot h0
      subst hs
      refine ⟨b, off, rfl, fun q u hq => ?_⟩
      have := hcell q u hq
      rw [Addr.add_lit, ← Nat.add_assoc] at this
      exact this
/-- a page: its number, its bytes -/
structure PgX where
  num : Int
  A : Option Addr
  cap : Nat
  body : Bytes
  deriving Inhabited
/-- bytes within something else -/
theorem open_bytes_in {t e : TypeId} {v : Value} {y : DataW H × List MemPlace} {n : Nat} (ht : P.underlying t = some (.slice e)) (he : P.underlying e = some (.int .u8)) (hc : P.cellsOf e = 1) (hb : P.bytesOf e = 1)
    (h : DataW.trod enc P w 0 (fun _ => true) true n t [v] = some y) (hz : (y.1.weights P t).all (· ≤ reachBytes) = true) :
    ∃ (A : Option Addr) (c : Nat) (l : Bytes), v = .slice A l.length c ∧ l.length ≤ c ∧ c ≤ 140737488351232 ∧ Rd w A l := by
  rcases open_ints ht he hc h with ⟨hcs, _⟩ | ⟨x, l, c, zs, hcs, _, hl, hm, hlen, hx, hcell, hwz⟩
  · simp at hcs
    exact ⟨none, 0, [], by simpa using hcs, by simp, by omega, Rd.nil_⟩
  · simp at hcs
    subst hcs
    have hd := congrArg Prod.fst hx
    simp only at hd
    rw [hd] at hz
    have hlen' : zs.length = c := by simpa using hlen
    have hreach : c ≤ 140737488351232 := by
      have := List.all_eq_true.1 hz ((zs.take l).length * 1 + (zs.drop l).length * 1) (by
        simp [DataW.weights, ht, hb, lits, Nat.mul_one, hlen'])
      have h2 := of_decide_eq_true this
      simp [hlen'] at h2
      have h3 : reachBytes = 140737488351232 := by decide
      omega
    refine ⟨some x, c, (toBytes zs).take l, ?_, ?_, hreach, ?_⟩
    · simp [toBytes]; omega
    · simp [toBytes]; omega
    · intro j hj
      have hj' : j < l := by simp [toBytes] at hj; omega
      have hc0 := hcell j (by omega)
      obtain ⟨b, off, spot⟩ := x
      have hs : spot = none := by
        have hc1 := hcell 0 (by omega)
        simpa [Addr.add] using World.cell?_spot hc1
      subst hs
      refine ⟨b, off, rfl, ?_⟩
      rw [Addr.add_lit] at hc0
      rw [hc0, toBytes_at hwz j (by omega)]
      simp
end
end Go.Proofs.YtbnobjlphmkgeaaGreatDoor
/- A device under whatever writes: the plain words, and Write of whatever page. -/
namespace Go.Proofs.YtbnobjlphmkgeaaGreatDoor
open Go.RowKit Go.Maps Go.ChangeMaps

section
variable {w0 w : World} {F : Nat → Prop} {d : Nat} {D : Dv}
end
end Go.Proofs.YtbnobjlphmkgeaaGreatDoor
/- A byte stored into a row; the bytes of a number one by one. -/
namespace Go.Proofs.YtbnobjlphmkgeaaGreatDoor
open Go.RowKit

theorem Row.store {w : World} {e g cap : Nat} {l : Bytes} (h : Row w e g cap l) (p : Nat) (_hp : p < l.length) (x : UInt8) :
    Row (w.setCell ⟨g, p, none⟩ (bv x)) e g cap (l.set p x) := by
  obtain ⟨cur, hg, h1, h2, h3, h4⟩ := h
  rw [setCell_eq_setRow w g p cur e _ _ hg]
  refine ⟨_, setRow_heap w g cur _ e _ hg, by simpa using h1, h2, by simpa using h3, ?_⟩
  rw [Array.toList_setIfInBounds, List.length_set, List.take_set, h4, List.map_set]
theorem Row.frozen {w : World} {e g cap : Nat} {l : Bytes} (h : Row w e g cap l) (p : Nat) : w.frozen? ⟨g, p, none⟩ = false := by
  obtain ⟨cur, hg, _⟩ := h
  exact frozen_of_row w g p cur e hg
theorem numB_get (s : Nat) : ∀ (n k : Nat), k < s → (numB n s)[k]? = some (UInt8.ofNat (n / 2 ^ (8 * k) % 256)) := by
  induction s with
  | zero => intro n k h; omega
  | succ s ih =>
    intro n k h
    cases k with
    | zero => simp [numB]
    | succ k =>
      simp only [numB, List.getElem?_cons_succ]
      rw [ih _ _ (by omega), Nat.div_div_eq_div_mul, show 8 * (k + 1) = 8 + 8 * k from by omega, Nat.pow_add]
theorem splice_rd (l x : Bytes) (o p : Nat) (h : o + x.length ≤ l.length) : (splice l o x)[p]? = if o ≤ p ∧ p < o + x.length then x[p - o]? else l[p]? := by
  unfold splice
  have hl : (l.take o).length = o := by simp; omega
  by_cases h1 : p < o
  · rw [if_neg (by omega), List.getElem?_append_left (by omega), List.getElem?_take, if_pos h1]
  · rw [List.getElem?_append_right (by omega), hl]
    by_cases h2 : p < o + x.length
    · rw [if_pos (by omega), List.getElem?_append_left (by omega)]
    · rw [if_neg (by omega), List.getElem?_append_right (by omega), List.getElem?_drop]
      congr 1; omega
theorem div_step (n k : Nat) : n / 2 ^ (8 * k) / 256 = n / 2 ^ (8 * (k + 1)) := by
  rw [Nat.div_div_eq_div_mul, show 8 * (k + 1) = 8 * k + 8 from by omega, Nat.pow_add]
end Go.Proofs.YtbnobjlphmkgeaaGreatDoor
/- The contract of num.Same. -/
namespace Go.Proofs.YtbnobjlphmkgeaaGreatDoor
open Go.RowKit

end Go.Proofs.YtbnobjlphmkgeaaGreatDoor
/- Contracts over strings and bytes: slices.IndexFunc and ContainsFunc at whatever pure predicate. -/
namespace Go.Proofs.YtbnobjlphmkgeaaGreatDoor
open Go.RowKit

/-- function F answers as p, of whatever byte, and leaves the world alone -/
def Pred (F : FuncId) (p : UInt8 → Bool) : Prop := ∀ (x : UInt8) (w : World), Calls Tryz.prog F #[bv x] w fun e w' => e = .returned (.bool (p x)) ∧ w = w'

def idxP (p : UInt8 → Bool) (l : Bytes) : Int := match l.findIdx? p with | some k => k | none => -1
theorem idxP_at (p : UInt8 → Bool) (l : Bytes) (k : Nat) (hk : k < l.length) (hn : ∀ x ∈ l.take k, p x = false) (he : p l[k] = true) : idxP p l = k := by
  have : l.findIdx? p = some k := by
    rw [List.findIdx?_eq_some_iff_getElem]
    refine ⟨hk, he, fun j hj => ?_⟩
    have := hn l[j] (by rw [List.mem_take_iff_getElem]; exact ⟨j, by omega, rfl⟩)
    simpa using this
  unfold idxP; rw [this]
theorem idxP_none (p : UInt8 → Bool) (l : Bytes) (hn : ∀ x ∈ l, p x = false) : idxP p l = -1 := by
  have : l.findIdx? p = none := by rw [List.findIdx?_eq_none_iff]; exact hn
  unfold idxP; rw [this]
theorem idxP_any (p : UInt8 → Bool) (l : Bytes) : decide (0 ≤ idxP p l) = l.any p := by
  unfold idxP
  cases h : l.findIdx? p with
  | none =>
    rw [List.findIdx?_eq_none_iff] at h
    simp only [Int.reduceNeg, Int.reduceLE, decide_false]
    symm
    simpa using h
  | some k =>
    rw [List.findIdx?_eq_some_iff_getElem] at h
    obtain ⟨hk, he, _⟩ := h
    have : l.any p = true := List.any_eq_true.2 ⟨l[k], List.getElem_mem hk, he⟩
    rw [this]
    simp
theorem forall_take_succ {p : UInt8 → Bool} {l : Bytes} {k : Nat} (hk : k < l.length) (hn : ∀ x ∈ l.take k, p x = false) (he : p l[k] = false) : ∀ x ∈ l.take (k + 1), p x = false := by
  rw [List.take_succ_eq_append_getElem hk]
  intro x hx
  rw [List.mem_append, List.mem_singleton] at hx
  rcases hx with hx | rfl
  · exact hn x hx
  · exact he

theorem ret_bool {a b : Bool} (h : a = b) : Ending.returned (.bool a) = .returned (.bool b) := by rw [h]
def notLower (c : UInt8) : Bool := decide (c.toNat < 97) || decide (122 < c.toNat)
def nonZero (c : UInt8) : Bool := c != 0
theorem pred_name : Pred 192 notLower := by
  intro x w
  by_cases h : x.toNat < 97
  · go_enter Tryz.func192, Tryz.ntmps192
    go_wp2
    go_ret
    exact ⟨ret_bool (by simp [notLower, h]), rfl⟩
  · go_enter Tryz.func192, Tryz.ntmps192
    go_wp2
    go_ret
    exact ⟨ret_bool (by unfold notLower; congr 1 <;> (rw [decide_eq_decide]; omega)), rfl⟩
theorem bv_bne (x : UInt8) : ((x.toNat : Int) != 0) = nonZero x := by
  unfold nonZero
  have := bv_beq x 0
  simp only [bne, ← this]; rfl
theorem pred_zero : Pred 195 nonZero := by
  intro x w
  have hb := Hidden.mk (bv_bne x)
  go_enter Tryz.func195, Tryz.ntmps195
  go_wp2
  go_ret
  exact ⟨ret_bool hb.out, rfl⟩
theorem idxf_name (A : Option Addr) (n c : Nat) (l : Bytes) (w : World) (hn : l.length = n) (hl : n ≤ maxLen) (hr : Rd w A l) :
    Calls Tryz.prog 220 #[.slice A n c, .func (.func 192) #[] #[]] w fun e w' => e = .returned (.int .i64 (idxP notLower l)) ∧ w = w' := by
  subst hn
  unfold maxLen at hl
  have HP := Hidden.mk pred_name
  generalize notLower = p at HP ⊢
  go_enter Tryz.func220, Tryz.ntmps220
  go_wp2
  go_loopw [8] (fun i wr => w = wr ∧ ∃ k : Nat, k ≤ l.length ∧ i = .int .i64 k ∧ Hidden (∀ x ∈ l.take k, p x = false)) (fun i _ => l.length - (intOf i).toNat)
  case atStart => exact ⟨rfl, 0, Nat.zero_le _, rfl, ⟨by simp⟩⟩
  case round =>
    obtain ⟨rfl, k, hk, rfl, hnot⟩ := hrel
    by_cases hlt : k < l.length
    · obtain ⟨b, off, rfl, hc⟩ := hr k hlt
      go_wp2_with fail
      refine (HP.out _ _).mono ?_
      rintro e w1 ⟨rfl, rfl⟩
      cases he : p l[k] with
      | true =>
        have hi : Hidden (idxP p l = k) := ⟨idxP_at p l k hlt hnot.out he⟩
        clear he
        go_wp2
        go_ret
        exact ⟨ret_i64 hi.out.symm, rfl⟩
      | false =>
        have hnk : Hidden (∀ x ∈ l.take (k + 1), p x = false) := ⟨forall_take_succ hlt hnot.out he⟩
        clear he hnot
        go_wp2
        go_roundw
        case rel => exact ⟨by trivial, k + 1, by omega, by go_num, hnk⟩
        case measure => simp [intOf]; omega
    · have hi : Hidden (idxP p l = -1) := ⟨idxP_none p l (by have := hnot.out; rwa [List.take_of_length_le (by omega)] at this)⟩
      go_wp2
      go_ret
      exact ⟨ret_i64 hi.out.symm, rfl⟩
theorem containsf_name (A : Option Addr) (n c : Nat) (l : Bytes) (w : World) (hn : l.length = n) (hl : n ≤ maxLen) (hr : Rd w A l) :
    Calls Tryz.prog 191 #[.slice A n c, .func (.func 192) #[] #[]] w fun e w' => e = .returned (.bool (l.any notLower)) ∧ w = w' := by
  have hv := Hidden.mk (idxP_any notLower l)
  go_enter Tryz.func191, Tryz.ntmps191
  go_wp2_with fail
  refine (idxf_name A n c l _ hn hl hr).mono ?_
  rintro e w1 ⟨rfl, rfl⟩
  go_wp2
  go_ret
  exact ⟨congrArg (fun b => Ending.returned (.bool b)) hv.out, rfl⟩
theorem idxf_zero (A : Option Addr) (n c : Nat) (l : Bytes) (w : World) (hn : l.length = n) (hl : n ≤ maxLen) (hr : Rd w A l) :
    Calls Tryz.prog 220 #[.slice A n c, .func (.func 195) #[] #[]] w fun e w' => e = .returned (.int .i64 (idxP nonZero l)) ∧ w = w' := by
  subst hn
  unfold maxLen at hl
  have HP := Hidden.mk pred_zero
  generalize nonZero = p at HP ⊢
  go_enter Tryz.func220, Tryz.ntmps220
  go_wp2
  go_loopw [8] (fun i wr => w = wr ∧ ∃ k : Nat, k ≤ l.length ∧ i = .int .i64 k ∧ Hidden (∀ x ∈ l.take k, p x = false)) (fun i _ => l.length - (intOf i).toNat)
  case atStart => exact ⟨rfl, 0, Nat.zero_le _, rfl, ⟨by simp⟩⟩
  case round =>
    obtain ⟨rfl, k, hk, rfl, hnot⟩ := hrel
    by_cases hlt : k < l.length
    · obtain ⟨b, off, rfl, hc⟩ := hr k hlt
      go_wp2_with fail
      refine (HP.out _ _).mono ?_
      rintro e w1 ⟨rfl, rfl⟩
      cases he : p l[k] with
      | true =>
        have hi : Hidden (idxP p l = k) := ⟨idxP_at p l k hlt hnot.out he⟩
        clear he
        go_wp2
        go_ret
        exact ⟨ret_i64 hi.out.symm, rfl⟩
      | false =>
        have hnk : Hidden (∀ x ∈ l.take (k + 1), p x = false) := ⟨forall_take_succ hlt hnot.out he⟩
        clear he hnot
        go_wp2
        go_roundw
        case rel => exact ⟨by trivial, k + 1, by omega, by go_num, hnk⟩
        case measure => simp [intOf]; omega
    · have hi : Hidden (idxP p l = -1) := ⟨idxP_none p l (by have := hnot.out; rwa [List.take_of_length_le (by omega)] at this)⟩
      go_wp2
      go_ret
      exact ⟨ret_i64 hi.out.symm, rfl⟩
theorem containsf_zero (A : Option Addr) (n c : Nat) (l : Bytes) (w : World) (hn : l.length = n) (hl : n ≤ maxLen) (hr : Rd w A l) :
    Calls Tryz.prog 191 #[.slice A n c, .func (.func 195) #[] #[]] w fun e w' => e = .returned (.bool (l.any nonZero)) ∧ w = w' := by
  have hv := Hidden.mk (idxP_any nonZero l)
  go_enter Tryz.func191, Tryz.ntmps191
  go_wp2_with fail
  refine (idxf_zero A n c l _ hn hl hr).mono ?_
  rintro e w1 ⟨rfl, rfl⟩
  go_wp2
  go_ret
  exact ⟨congrArg (fun b => Ending.returned (.bool b)) hv.out, rfl⟩
end Go.Proofs.YtbnobjlphmkgeaaGreatDoor
/- The contracts of num.name, PutName, GetName. -/
namespace Go.Proofs.YtbnobjlphmkgeaaGreatDoor
open Go.RowKit

def isName (l : Bytes) : Bool := !l.isEmpty && decide (l.length ≤ 8) && !l.any notLower

/-- a text as bytes: a new block -/
theorem conv_bytes (w : World) (l : Bytes) : ∃ cap W', (convert 9 22 (sv l)).run Tryz.prog w = .ok (.slice (some ⟨w.heap.size, 0, none⟩) l.length cap) W' ∧
    l.length ≤ cap ∧ Rd W' (some ⟨w.heap.size, 0, none⟩) l ∧ Below w.heap.size w W' := by
  refine ⟨_, _, Lib.run_convert_string_bytes w 9 22 5 ⟨l.toArray⟩ Tryz.underlying9 Tryz.underlying22 Tryz.underlying5, ?_, ?_, ?_⟩
  · exact grownCap_ge _ _ _ _
  · intro j hj
    refine ⟨_, 0, rfl, ?_⟩
    rw [Nat.zero_add, Lib.bytesWorld_cell w 5 ⟨l.toArray⟩ j hj]
    simp [hj]
  · exact ⟨rfl, rfl, rfl, by rw [Lib.bytesWorld_size]; omega, fun k hk => Lib.bytesWorld_at_old w _ ⟨l.toArray⟩ k hk⟩

set_option maxRecDepth 100000 in
theorem name_any (l : Bytes) (w : World) (hs : l.length ≤ 140737488351232) :
    Calls Tryz.prog 150 #[sv l] w fun e w' => e = .returned (.bool (isName l)) ∧ Below w.heap.size w w' := by
  by_cases h0 : l = []
  · subst h0
    go_enter Tryz.func150, Tryz.ntmps150
    go_wp2
    go_ret
    exact ⟨rfl, Below.refl _ _⟩
  · have h0' : l.isEmpty = false := by
      cases l with
      | nil => exact absurd rfl h0
      | cons a b => rfl
    clear h0
    by_cases h8 : (l.length : Int) ≤ 8
    · obtain ⟨cap, W1, hrun, hcap, hrd, hbel⟩ := conv_bytes w l
      have hv : Hidden ((!l.any notLower) = isName l) := ⟨by simp [isName, h0']; intros; omega⟩
      go_enter Tryz.func150, Tryz.ntmps150
      go_wp2_with fail
      refine (containsf_name _ _ _ l _ rfl (by simp only [maxLen]; omega) hrd).mono ?_
      rintro e w1 ⟨rfl, rfl⟩
      go_wp2
      go_ret
      exact ⟨ret_bool hv.out, hbel⟩
    · have hv : Hidden (false = isName l) := ⟨by simp [isName, h0']; intros; omega⟩
      go_enter Tryz.func150, Tryz.ntmps150
      go_wp2
      go_ret
      exact ⟨ret_bool hv.out, Below.refl _ _⟩

theorem splice_zeros (n : Nat) (l : Bytes) : splice (List.replicate n 0) 0 l = l ++ List.replicate (n - l.length) 0 := by
  simp only [splice, List.take_zero, List.nil_append, Nat.zero_add, List.drop_replicate]
/-- the bytes of a name: zeros behind it -/
def nameB (l : Bytes) : Bytes := l ++ List.replicate (8 - l.length) 0

theorem putName_no (l : Bytes) (w : World) (hs : l.length ≤ 140737488351232) (hn : isName l = false) :
    Calls Tryz.prog 82 #[sv l] w fun e w' => e = .returned (.tuple #[.slice none 0 0, .iface 111 (.int .i64 2)]) ∧ Below w.heap.size w w' := by
  go_enter Tryz.func82, Tryz.ntmps82
  go_wp2_with fail
  refine (name_any l _ hs).mono ?_
  rintro e w1 ⟨rfl, hb⟩
  rw [hn]
  go_wp2
  go_ret2
  exact ⟨rfl, hb⟩
set_option maxRecDepth 100000 in
theorem putName_ok (l : Bytes) (w : World) (hn : isName l = true) :
    Calls Tryz.prog 82 #[sv l] w fun e w' => ∃ g, e = .returned (.tuple #[.slice (some ⟨g, 0, none⟩) 8 8, .nilIface]) ∧ w.heap.size ≤ g ∧ Row w' 5 g 8 (nameB l) ∧ Below w.heap.size w w' := by
  have h8 : l.length ≤ 8 := by simp [isName] at hn; omega
  go_enter Tryz.func82, Tryz.ntmps82
  go_wp2_with fail
  refine (name_any l _ (by omega)).mono ?_
  rintro e w1 ⟨rfl, hb⟩
  rw [hn]
  have hmk := mk_bytes 8 8 rfl (by omega) w1
  have hz := row_zeros w1 8 (by simp [maxLen])
  have hblk : (w1.alloc (.cells (zeroRow 8) 5)).heap[w1.heap.size]? = some (.cells (zeroRow 8) 5 (0, 0)) := heap_alloc_new w1 _
  have hcopy := fun ty => run_copy_text (w1.alloc (.cells (zeroRow 8) 5)) w1.heap.size 0 8 8 l.length l (zeroRow 8) 5 hblk (Nat.min_eq_left h8).symm (by rw [zeroRow_size]; omega) ty
  have hres := hz.set_ 0 l (by simp; omega) _ hblk
  have hBB : Below w.heap.size w ((w1.alloc (.cells (zeroRow 8) 5)).setRow w1.heap.size (setB (zeroRow 8) 0 (l.map bv))) := below_setRow (hb.alloc hb.size _) hb.size _
  rw [List.take_of_length_le (Nat.le_refl _)] at hcopy
  generalize (w1.alloc (.cells (zeroRow 8) 5)).setRow w1.heap.size (setB (zeroRow 8) 0 (l.map bv)) = W2 at hcopy hres hBB
  clear hz hblk
  go_wp2_with fail
  go_ret2
  refine ⟨_, rfl, hb.size, ?_, hBB⟩
  rw [splice_zeros] at hres
  exact hres
end Go.Proofs.YtbnobjlphmkgeaaGreatDoor
/- The contract of num.GetName. -/
namespace Go.Proofs.YtbnobjlphmkgeaaGreatDoor
open Go.RowKit

/-- bytes as a text -/
theorem conv_text (w : World) (A : Option Addr) (n c : Nat) (l : Bytes) (hn : l.length = n) (hr : Rd w A l) : (convert 22 9 (.slice A n c)).run Tryz.prog w = .ok (sv l) w := by
  subst hn
  rcases A with _ | ad
  · have h0 : l = [] := by
      cases l with
      | nil => rfl
      | cons x r => obtain ⟨b, off, h, _⟩ := hr 0 (by simp); cases h
    subst h0
    have he := Tryz.underlying5
    simp [convert, run_underlying Tryz.underlying22, run_underlying Tryz.underlying9, run_underlying he, Conv.bytesToString]
    rfl
  · exact run_convert_bytes_back w _ _ _ ad c l Tryz.underlying22 Tryz.underlying5 Tryz.underlying9 (fun j hj => by
      have := hr.cells j (bv l[j]) (by simp [hj])
      exact this)

def nameAt (l : Bytes) : Bytes := l.take (l.idxOf 0)
def nameRest (l : Bytes) : Bytes := l.drop (l.idxOf 0)
def gotName (l : Bytes) : Bool := isName (nameAt l) && !(nameRest l).any nonZero

set_option maxRecDepth 100000 in
theorem getName_any (A : Option Addr) (c : Nat) (l : Bytes) (w : World) (h8 : l.length = 8) (hc : 8 ≤ c) (hr : Rd w A l) :
    Calls Tryz.prog 153 #[.slice A 8 c] w fun e w' => e = .returned (.tuple (if gotName l = true then #[sv (nameAt l), .nilIface] else #[sv [], .iface 111 (.int .i64 2)])) ∧ Below w.heap.size w w' := by
  generalize hres : (if gotName l = true then #[sv (nameAt l), .nilIface] else #[sv [], .iface 111 (.int .i64 2)]) = res
  have HRES := Hidden.mk hres
  clear hres
  go_enter Tryz.func153, Tryz.ntmps153
  go_wp2_with fail
  refine (index_any A 8 c l 0 _ h8 (by simp [maxLen]) hr).mono ?_
  rintro e w1 ⟨rfl, rfl⟩
  by_cases hz : (0 : UInt8) ∈ l
  · have hk : l.idxOf 0 < l.length := List.idxOf_lt_length_of_mem hz
    have hi : idxB l 0 = (l.idxOf 0 : Nat) := if_pos hz
    rw [hi]
    have hna : Rd w A (nameAt l) := hr.take _ (by omega)
    have hlen : (nameAt l).length = l.idxOf 0 := by simp [nameAt]; omega
    have HN : Hidden (nameRest l = l.drop (l.idxOf 0)) := ⟨rfl⟩
    generalize l.idxOf 0 = k at *
    have hcv := conv_text w A k c (nameAt l) hlen hna
    go_wp2_with fail
    refine (name_any (nameAt l) _ (by omega)).mono ?_
    rintro e w2 ⟨rfl, hb2⟩
    cases hnm : isName (nameAt l) with
    | false =>
      have hr2 : Hidden (#[sv [], .iface 111 (.int .i64 2)] = res) := ⟨by rw [← HRES.out]; simp [gotName, hnm]⟩
      clear hnm
      go_wp2_with fail
      go_ret2
      exact ⟨congrArg (fun r => Ending.returned (.tuple r)) hr2.out, hb2⟩
    | true =>
      have hrest : Rd w2 (A.map (·.add k)) ((l.drop k).take (8 - k)) := (hr.below hb2).cut k (8 - k) (by omega)
      rw [List.take_of_length_le (by simp; omega), ← HN.out] at hrest
      have hlr : (nameRest l).length = 8 - k := by rw [HN.out]; simp; omega
      go_wp2_with fail
      refine (containsf_zero _ _ _ (nameRest l) _ hlr (by simp only [maxLen]; omega) hrest).mono ?_
      rintro e w3 ⟨rfl, rfl⟩
      cases hz2 : (nameRest l).any nonZero with
      | true =>
        have hr2 : Hidden (#[sv [], .iface 111 (.int .i64 2)] = res) := ⟨by rw [← HRES.out]; simp [gotName, hz2]⟩
        clear hnm hz2
        go_wp2_with fail
        go_ret2
        exact ⟨congrArg (fun r => Ending.returned (.tuple r)) hr2.out, hb2⟩
      | false =>
        have hr2 : Hidden (#[sv (nameAt l), .nilIface] = res) := ⟨by rw [← HRES.out]; simp [gotName, hnm, hz2]⟩
        clear hnm hz2
        go_wp2_with fail
        go_ret2
        exact ⟨congrArg (fun r => Ending.returned (.tuple r)) hr2.out, hb2⟩
  · have hi : idxB l 0 = -1 := if_neg hz
    rw [hi]
    have hk : l.idxOf 0 = 8 := by rw [List.idxOf_eq_length hz, h8]
    have hna : Rd w A (nameAt l) := hr.take _ (by omega)
    have hlen : (nameAt l).length = 8 := by simp [nameAt]; omega
    have hrest0 : nameRest l = [] := by simp [nameRest, hk]; omega
    have hcv := conv_text w A 8 c (nameAt l) hlen hna
    clear hk hz hi
    go_wp2_with fail
    refine (name_any (nameAt l) _ (by omega)).mono ?_
    rintro e w2 ⟨rfl, hb2⟩
    cases hnm : isName (nameAt l) with
    | false =>
      have hr2 : Hidden (#[sv [], .iface 111 (.int .i64 2)] = res) := ⟨by rw [← HRES.out]; simp [gotName, hnm]⟩
      clear hnm hrest0
      go_wp2_with fail
      go_ret2
      exact ⟨congrArg (fun r => Ending.returned (.tuple r)) hr2.out, hb2⟩
    | true =>
      have hr2 : Hidden (#[sv (nameAt l), .nilIface] = res) := ⟨by rw [← HRES.out]; simp [gotName, hnm, hrest0]⟩
      clear hnm hrest0
      go_wp2_with fail
      all_goals
        refine (containsf_zero _ _ _ [] _ rfl (by simp) Rd.nil_).mono ?_
        rintro e w3 ⟨rfl, rfl⟩
        go_wp2_with fail
        go_ret2
        exact ⟨congrArg (fun r => Ending.returned (.tuple r)) hr2.out, hb2⟩
end Go.Proofs.YtbnobjlphmkgeaaGreatDoor
/- The contracts of stamp.Make and bytes.Equal. -/
namespace Go.Proofs.YtbnobjlphmkgeaaGreatDoor
open Go.RowKit

theorem splice_app (a b c d : Bytes) (h : b.length = d.length) : splice (a ++ (b ++ c)) a.length d = a ++ (d ++ c) := by
  simp only [splice, List.take_left, ← h]
  rw [← List.append_assoc a b c, ← List.length_append, List.drop_left]
end Go.Proofs.YtbnobjlphmkgeaaGreatDoor
/- The contracts of stamp.Open and vaultref1.Zero. -/
namespace Go.Proofs.YtbnobjlphmkgeaaGreatDoor
open Go.RowKit

end Go.Proofs.YtbnobjlphmkgeaaGreatDoor
/- The contracts of the reference's Number, Make and Open. -/
namespace Go.Proofs.YtbnobjlphmkgeaaGreatDoor
open Go.RowKit

theorem ofB_drop (l : Bytes) (j : Nat) (h : j < l.length) : ofB (l.drop j) = l[j].toNat + 256 * ofB (l.drop (j + 1)) := by
  rw [List.drop_eq_getElem_cons h]; rfl
theorem number_any (A : Option Addr) (n c : Nat) (l : Bytes) (w : World) (hn : l.length = n) (hl : n ≤ 4) (hr : Rd w A l) :
    Calls Tryz.prog 95 #[.slice A n c] w fun e w' => e = .returned (.int .i64 (ofB l)) ∧ w = w' := by
  subst hn
  have s0 : IntKind.i64.wrap ((l.length : Int) - 1) = (l.length : Int) - 1 := IntWalk.i64_in _ (by omega)
  go_enter Tryz.func95, Tryz.ntmps95
  go_wp2
  go_loop [3, 4] (fun n i => ∃ j : Nat, j ≤ l.length ∧ i = .int .i64 ((j : Int) - 1) ∧ n = .int .i64 (ofB (l.drop j))) (fun _ i => (intOf i + 1).toNat)
  case atStart => exact ⟨l.length, Nat.le_refl _, rfl, by simp [ofB]⟩
  case round =>
    obtain ⟨j, hj, rfl, rfl⟩ := hrel
    rcases j with _ | j
    · rw [show (((0 : Nat) : Int) - 1) = (-1 : Int) from rfl, List.drop_zero]
      go_wp2
      go_ret
      exact ⟨rfl, rfl⟩
    · rw [show (((j + 1 : Nat) : Int) - 1) = (j : Int) from by omega]
      obtain ⟨b, off, rfl, hc⟩ := hr j (by omega)
      have hd := ofB_drop l j (by omega)
      have h1 := ofB_lt (l.drop (j + 1))
      have hp : 2 ^ (8 * (l.drop (j + 1)).length) ≤ 16777216 := by
        have : (l.drop (j + 1)).length ≤ 3 := by simp; omega
        calc 2 ^ (8 * (l.drop (j + 1)).length) ≤ 2 ^ 24 := Nat.pow_le_pow_right (by omega) (by omega)
          _ = 16777216 := by decide
      have hx := u8_lt l[j]
      have HD := Hidden.mk hd
      generalize ofB (l.drop (j + 1)) = m at *
      generalize l[j] = x at *
      have s1 : IntKind.i64.wrap ((m : Int) * 256) = (m : Int) * 256 := IntWalk.i64_in _ (by omega)
      have s2 : IntKind.i64.wrap (x.toNat : Int) = (x.toNat : Int) := IntWalk.i64_in _ (by omega)
      have s3 : IntKind.i64.wrap ((m : Int) * 256 + (x.toNat : Int)) = (m : Int) * 256 + (x.toNat : Int) := IntWalk.i64_in _ (by omega)
      have s4 : IntKind.i64.wrap ((j : Int) - 1) = (j : Int) - 1 := IntWalk.i64_in _ (by omega)
      have k0 : (0 : Int) ≤ j := by omega
      have k1 : (j : Int) < l.length := by omega
      clear hd h1 hp
      go_wp2
      go_round
      case rel => exact ⟨j, by omega, rfl, by rw [HD.out]; exact int_i64 (by omega)⟩
      case measure => simp [intOf]

end Go.Proofs.YtbnobjlphmkgeaaGreatDoor
/- NumLow: plain facts on numbers as bytes; the contract of pow. -/
namespace Go.Proofs.YtbnobjlphmkgeaaGreatDoor
open Go.RowKit

end Go.Proofs.YtbnobjlphmkgeaaGreatDoor
/- NumBack: the walk. -/
namespace Go.Proofs.YtbnobjlphmkgeaaGreatDoor
open Go.RowKit

theorem nameB_len (s : Bytes) (h : isName s = true) : (nameB s).length = 8 := by
  have h8 : s.length ≤ 8 := by simp [isName] at h; omega
  simp [nameB]; omega
theorem nameB_back (s : Bytes) (h : isName s = true) : gotName (nameB s) = true ∧ nameAt (nameB s) = s := by
  have h8 : s.length ≤ 8 := by simp [isName] at h; omega
  have hz : (0 : UInt8) ∉ s := by
    intro h0
    simp only [isName, Bool.and_eq_true, Bool.not_eq_true', List.any_eq_false] at h
    exact h.2 0 h0 (by decide)
  have hi : (nameB s).idxOf 0 = s.length := by
    unfold nameB
    rw [List.idxOf_append, if_neg hz]
    rcases Nat.lt_or_ge s.length 8 with hlt | hge
    · obtain ⟨m, hm⟩ : ∃ m, 8 - s.length = m + 1 := ⟨7 - s.length, by omega⟩
      rw [hm, List.replicate_succ]
      simp
    · have : 8 - s.length = 0 := by omega
      simp [this]
  have h1 : nameAt (nameB s) = s := by unfold nameAt; rw [hi]; simp [nameB]
  have h2 : nameRest (nameB s) = List.replicate (8 - s.length) 0 := by unfold nameRest; rw [hi]; simp [nameB]
  refine ⟨?_, h1⟩
  unfold gotName
  rw [h1, h2, h]
  simp [nonZero]

end Go.Proofs.YtbnobjlphmkgeaaGreatDoor
/- StampRow: the walk. -/
namespace Go.Proofs.YtbnobjlphmkgeaaGreatDoor
open Go.RowKit

end Go.Proofs.YtbnobjlphmkgeaaGreatDoor
/- Pages: the plain words: what a device becomes while pages are opened, committed; what is safe. -/
namespace Go.Proofs.YtbnobjlphmkgeaaGreatDoor
open Go.RowKit

def andThen (a : Dv × Nat) (g : Dv → Dv × Nat) : Dv × Nat := if a.2 = 0 then g a.1 else a
def pick (a b : Nat × Bytes) : Nat × Nat × Bytes := if a.1 < b.1 then (b.1, 1, b.2) else (a.1, 0, a.2)
end Go.Proofs.YtbnobjlphmkgeaaGreatDoor
/- A device: Write, Flush, Read of whatever, in one form each. -/
namespace Go.Proofs.YtbnobjlphmkgeaaGreatDoor
open Go.RowKit Go.Maps Go.ChangeMaps

theorem errV0 : errV 0 = .nilIface := rfl
theorem errV_pos {n : Nat} (h : n ≠ 0) : errV n = .iface 111 (.int .i64 n) := by unfold errV; rw [if_neg h]
section
variable {w0 w : World} {F : Nat → Prop} {d : Nat} {D : Dv}
end
end Go.Proofs.YtbnobjlphmkgeaaGreatDoor
/- The contracts of package pages: area, of, mark, and what is read of pages. -/
namespace Go.Proofs.YtbnobjlphmkgeaaGreatDoor
open Go.RowKit Go.Maps Go.ChangeMaps

theorem three {w : World} {p : Nat} {a b c : Value} {t : TypeId} (h : w.heap[p]? = some (.cells #[a, b, c] t (0, 0))) :
    (w.cell? ⟨p, 0, none⟩ = some a ∧ w.cell? ⟨p, 1, none⟩ = some b ∧ w.cell? ⟨p, 2, none⟩ = some c) ∧ ∀ k, w.frozen? ⟨p, k, none⟩ = false := by
  refine ⟨⟨?_, ?_, ?_⟩, fun k => by simp [World.frozen?, h]⟩ <;> simp [World.cell?, h]
section
variable {w0 w w' : World} {F F' : Nat → Prop} {p d st n : Nat} {D : Dv}
end
end Go.Proofs.YtbnobjlphmkgeaaGreatDoor
/- The contracts of package pages: a mark that is read, Format, Open. -/
namespace Go.Proofs.YtbnobjlphmkgeaaGreatDoor
open Go.RowKit Go.Maps Go.ChangeMaps

section
variable {w0 w w' : World} {F F' : Nat → Prop} {p d st n : Nat} {D : Dv}
end
end Go.Proofs.YtbnobjlphmkgeaaGreatDoor
/- The contracts of package pages: Format, Open. -/
namespace Go.Proofs.YtbnobjlphmkgeaaGreatDoor
open Go.RowKit Go.Maps Go.ChangeMaps

section
variable {w0 w w' : World} {F F' : Nat → Prop} {p d st n : Nat} {D : Dv}
end
end Go.Proofs.YtbnobjlphmkgeaaGreatDoor
/- The contract of pages.Open. -/
namespace Go.Proofs.YtbnobjlphmkgeaaGreatDoor
open Go.RowKit Go.Maps Go.ChangeMaps

section
variable {w0 w : World} {F : Nat → Prop} {d : Nat} {D : Dv}
end
end Go.Proofs.YtbnobjlphmkgeaaGreatDoor
/- The contract of pages.check. -/
namespace Go.Proofs.YtbnobjlphmkgeaaGreatDoor
open Go.RowKit Go.Maps Go.ChangeMaps

section
variable {w0 w : World} {F : Nat → Prop} {p d st n : Nat}
end
end Go.Proofs.YtbnobjlphmkgeaaGreatDoor
/- Pages: what is safe, wherever the power goes. No program in sight. -/
namespace Go.Proofs.YtbnobjlphmkgeaaGreatDoor
open Go.RowKit

section
variable {n st : Nat} {D D' : Dv} {l : Bytes} {pg : Nat → Bytes}
end
section
variable {X : Type} {f : Nat → X → Dv → Dv × Nat}
end
end Go.Proofs.YtbnobjlphmkgeaaGreatDoor
/- Pages: what Open and Commit keep, wherever the power goes. No program in sight. -/
namespace Go.Proofs.YtbnobjlphmkgeaaGreatDoor
open Go.RowKit

section
variable {n st : Nat} {D : Dv} {l : Bytes} {pg : Nat → Bytes}
end
end Go.Proofs.YtbnobjlphmkgeaaGreatDoor
/- The contracts of package pages: write, with each of its two functions. -/
namespace Go.Proofs.YtbnobjlphmkgeaaGreatDoor
open Go.RowKit Go.Maps Go.ChangeMaps

section
variable {w0 w w' : World} {F F' : Nat → Prop} {p d st n : Nat} {D : Dv} {A : Option Addr} {L : List PgX}
end
end Go.Proofs.YtbnobjlphmkgeaaGreatDoor
/- The contract of pages.Commit. -/
namespace Go.Proofs.YtbnobjlphmkgeaaGreatDoor
open Go.RowKit Go.Maps Go.ChangeMaps

section
variable {w0 w w' : World} {F F' : Nat → Prop} {p d st n : Nat} {D : Dv}
end
theorem andThen_ok {a : Dv × Nat} {g : Dv → Dv × Nat} (h : a.2 = 0) : andThen a g = g a.1 := by unfold andThen; rw [if_pos h]
section
variable {w0 w : World} {F : Nat → Prop} {p d st n : Nat} {D : Dv}
end
end Go.Proofs.YtbnobjlphmkgeaaGreatDoor
/- Pages: while the power stays; and what comes behind a commit that was cut. No program in sight. -/
namespace Go.Proofs.YtbnobjlphmkgeaaGreatDoor
open Go.RowKit

section
variable {n st : Nat} {D : Dv} {l : Bytes} {pg : Nat → Bytes}
end
end Go.Proofs.YtbnobjlphmkgeaaGreatDoor
/- A list of rows of one's own, beside a device; what is pending; booleans that came in. -/
namespace Go.Proofs.YtbnobjlphmkgeaaGreatDoor
open Go.RowKit Go.Maps Go.ChangeMaps

section
variable {w w' : World} {F F' : Nat → Prop} {go n k : Nat} {f : Nat → Bytes}
end
end Go.Proofs.YtbnobjlphmkgeaaGreatDoor
/- Is an error nil? As equations, for a walk. -/
namespace Go.Proofs.YtbnobjlphmkgeaaGreatDoor
open Go.RowKit

end Go.Proofs.YtbnobjlphmkgeaaGreatDoor
/- Pages as a law plays with them: what a run keeps; rows that may be the argument's own. -/
namespace Go.Proofs.YtbnobjlphmkgeaaGreatDoor
open Go.RowKit Go.Maps Go.ChangeMaps

section
variable {w0 w w' : World} {F F' : Nat → Prop} {p d st n : Nat} {D : Dv}
end
section
variable {w0 w w' : World} {F F' : Nat → Prop} {go n : Nat} {f : Nat → Bytes}
end
end Go.Proofs.YtbnobjlphmkgeaaGreatDoor
/- Laid: library functions whose contracts are proved over whatever program: the table of numbers, and a field a function or a type. -/
namespace Go.Proofs.YtbnobjlphmkgeaaGreatDoor
open Go.Shelf
end Go.Proofs.YtbnobjlphmkgeaaGreatDoor
/- Package view: Len, has, All. -/
namespace Go.Proofs.YtbnobjlphmkgeaaGreatDoor
open Go.RowKit Go.Maps Go.ChangeMaps

section
variable {w0 w : World} {F : Nat → Prop} {p d st : Nat} {D : Dv}
end
end Go.Proofs.YtbnobjlphmkgeaaGreatDoor
/- Package view: New. -/
namespace Go.Proofs.YtbnobjlphmkgeaaGreatDoor
open Go.RowKit Go.Maps Go.ChangeMaps

/-- an own row of bytes that is not empty, as a row -/
theorem row_of_owns {w : World} {base n : Nat} {v : Value} {l : Bytes} (h : w.ownsRow base 5 1 v n (l.map bv)) (hl : l.length = n) (hn : 0 < n) : ∃ g cap, v = .slice (some ⟨g, 0, none⟩) n cap ∧ base ≤ g ∧ Row w 5 g cap l := by
  obtain ⟨-, ⟨_, h0⟩ | ⟨g, cap, cur, rfl, hb, hg, h1, h2, h3, h4⟩⟩ := h
  · omega
  · exact ⟨g, cap, rfl, hb, cur, hg, by omega, h2, by omega, by simpa [hl] using h4⟩
section
variable {w0 w : World} {F : Nat → Prop} {p d st : Nat} {D : Dv}
end
end Go.Proofs.YtbnobjlphmkgeaaGreatDoor
/- Package view: Len, has, Read. -/
namespace Go.Proofs.YtbnobjlphmkgeaaGreatDoor
open Go.RowKit Go.Maps Go.ChangeMaps

theorem four {w : World} {p : Nat} {a b c d : Value} {t : TypeId} (h : w.heap[p]? = some (.cells #[a, b, c, d] t (0, 0))) :
    w.cell? ⟨p, 0, none⟩ = some a ∧ w.cell? ⟨p, 1, none⟩ = some b ∧ w.cell? ⟨p, 2, none⟩ = some c ∧ w.cell? ⟨p, 3, none⟩ = some d :=
  ⟨by rw [cell_of_row w p 0 _ _ _ h]; rfl, by rw [cell_of_row w p 1 _ _ _ h]; rfl, by rw [cell_of_row w p 2 _ _ _ h]; rfl, by rw [cell_of_row w p 3 _ _ _ h]; rfl⟩
section
variable {w : World} {G : Nat → Prop} {v p cnt : Nat} {K N : Bytes} {f : Nat → Option Value}
end
end Go.Proofs.YtbnobjlphmkgeaaGreatDoor
/- Laid: library functions whose contracts are proved over whatever program: the table of numbers, and a field a function or a type. -/
namespace Go.Proofs.YtbnobjlphmkgeaaGreatDoor
open Go.Shelf
def sortI_ren : Go.Shelf.Ren := ⟨fun | 5 => 206 | 8 => 156 | 7 => 226 | 19 => 204 | 20 => 205 | 10 => 239 | 11 => 240 | 12 => 241 | 13 => 242 | 14 => 243 | 15 => 244 | 16 => 245 | 17 => 246 | 18 => 247 | 30 => 261 | 31 => 222 | 32 => 223 | 33 => 262 | 34 => 263 | 35 => 157 | 40 => 269 | n => n, fun | 23 => 54 | 25 => 3 | 3 => 3 | 32 => 213 | 22 => 54 | 0 => 0 | 44 => 272 | 46 => 274 | 4 => 4 | 36 => 266 | 35 => 265 | 41 => 217 | 5 => 5 | 9 => 9 | 53 => 296 | 57 => 300 | 63 => 310 | 64 => 58 | n => n, fun | n => n⟩
theorem sortI : Go.Proofs.SlLaysM.n5 Tryz.prog sortI_ren := {
  mixed := by kernel_rfl
  f5 := ⟨Tryz.f206.name, by decide, Tryz.func206.trans (congrArg some (by kernel_rfl))⟩
  f7 := ⟨Tryz.f226.name, by decide, Tryz.func226.trans (congrArg some (by kernel_rfl))⟩
  f8 := Tryz.func156.trans (congrArg some (by kernel_rfl))
  f10 := ⟨Tryz.f239.name, by decide, Tryz.func239.trans (congrArg some (by kernel_rfl))⟩
  f11 := ⟨Tryz.f240.name, by decide, Tryz.func240.trans (congrArg some (by kernel_rfl))⟩
  f12 := ⟨Tryz.f241.name, by decide, Tryz.func241.trans (congrArg some (by kernel_rfl))⟩
  f13 := ⟨Tryz.f242.name, by decide, Tryz.func242.trans (congrArg some (by kernel_rfl))⟩
  f14 := ⟨Tryz.f243.name, by decide, Tryz.func243.trans (congrArg some (by kernel_rfl))⟩
  f15 := ⟨Tryz.f244.name, by decide, Tryz.func244.trans (congrArg some (by kernel_rfl))⟩
  f16 := ⟨Tryz.f245.name, by decide, Tryz.func245.trans (congrArg some (by kernel_rfl))⟩
  f17 := ⟨Tryz.f246.name, by decide, Tryz.func246.trans (congrArg some (by kernel_rfl))⟩
  f18 := ⟨Tryz.f247.name, by decide, Tryz.func247.trans (congrArg some (by kernel_rfl))⟩
  f19 := Tryz.func204.trans (congrArg some (by kernel_rfl))
  f20 := Tryz.func205.trans (congrArg some (by kernel_rfl))
  f30 := ⟨Tryz.f261.name, by decide, Tryz.func261.trans (congrArg some (by kernel_rfl))⟩
  f31 := Tryz.func222.trans (congrArg some (by kernel_rfl))
  f32 := Tryz.func223.trans (congrArg some (by kernel_rfl))
  f33 := ⟨Tryz.f262.name, by decide, Tryz.func262.trans (congrArg some (by kernel_rfl))⟩
  f34 := ⟨Tryz.f263.name, by decide, Tryz.func263.trans (congrArg some (by kernel_rfl))⟩
  f35 := ⟨Tryz.f157.name, by decide, Tryz.func157.trans (congrArg some (by kernel_rfl))⟩
  f40 := ⟨Tryz.f269.name, by decide, Tryz.func269.trans (congrArg some (by kernel_rfl))⟩
  t0 := Tryz.underlying0
  a0 := Tryz.isAgg0
  z0 := Tryz.sizeOf0
  v0 := Tryz.zeroValue0
  t3 := Tryz.underlying3
  a3 := Tryz.isAgg3
  z3 := Tryz.sizeOf3
  v3 := Tryz.zeroValue3
  t4 := Tryz.underlying4
  a4 := Tryz.isAgg4
  z4 := Tryz.sizeOf4
  v4 := Tryz.zeroValue4
  t5 := Tryz.underlying5
  a5 := Tryz.isAgg5
  z5 := Tryz.sizeOf5
  v5 := Tryz.zeroValue5
  t9 := Tryz.underlying9
  a9 := Tryz.isAgg9
  z9 := Tryz.sizeOf9
  v9 := Tryz.zeroValue9
  t22 := Tryz.underlying54
  a22 := Tryz.isAgg54
  z22 := Tryz.sizeOf54
  v22 := Tryz.zeroValue54
  t23 := Tryz.underlying54
  a23 := Tryz.isAgg54
  z23 := Tryz.sizeOf54
  v23 := Tryz.zeroValue54
  t25 := Tryz.underlying3
  a25 := Tryz.isAgg3
  z25 := Tryz.sizeOf3
  v25 := Tryz.zeroValue3
  t32 := Tryz.underlying213
  a32 := Tryz.isAgg213
  z32 := Tryz.sizeOf213
  v32 := Tryz.zeroValue213
  t35 := Tryz.underlying265
  a35 := Tryz.isAgg265
  z35 := Tryz.sizeOf265
  v35 := Tryz.zeroValue265
  t36 := Tryz.underlying266
  a36 := Tryz.isAgg266
  z36 := Tryz.sizeOf266
  v36 := Tryz.zeroValue266
  t41 := Tryz.underlying217
  a41 := Tryz.isAgg217
  z41 := Tryz.sizeOf217
  v41 := Tryz.zeroValue217
  t44 := Tryz.underlying272
  a44 := Tryz.isAgg272
  z44 := Tryz.sizeOf272
  v44 := Tryz.zeroValue272
  t46 := Tryz.underlying274
  a46 := Tryz.isAgg274
  z46 := Tryz.sizeOf274
  v46 := Tryz.zeroValue274
  t53 := Tryz.underlying296
  a53 := Tryz.isAgg296
  z53 := Tryz.sizeOf296
  v53 := Tryz.zeroValue296
  t57 := Tryz.underlying300
  a57 := Tryz.isAgg300
  z57 := Tryz.sizeOf300
  v57 := Tryz.zeroValue300
  t63 := Tryz.underlying310
  a63 := Tryz.isAgg310
  z63 := Tryz.sizeOf310
  v63 := Tryz.zeroValue310
  t64 := Tryz.underlying58
  a64 := Tryz.isAgg58
  z64 := Tryz.sizeOf58
  v64 := Tryz.zeroValue58 }
end Go.Proofs.YtbnobjlphmkgeaaGreatDoor
/- slices.Sorted(maps.Keys(m)) of maps from numbers to booleans. -/
namespace Go.Proofs.YtbnobjlphmkgeaaGreatDoor
open Go.RowKit Go.Maps Go.ChangeMaps Go.Sort Go.Shelf

section
variable {P : Program} {K : TypeId} {w : World} {b cnt : Nat} {f : Nat → Option Value}
/-- the keys of a map that is told by a function -/
theorem IM.keys (h : IM P K natL w b f cnt) (hK : P.underlying K = some (.int .i64)) :
    ∃ D : DataW Value, w.ownsMap P K heldR b cnt D ∧ Maps.size D = cnt ∧ (intKeys D).Nodup ∧ (∀ x ∈ intKeys D, ∃ k : Nat, x = k ∧ (f k).isSome = true) ∧ ∀ k, (f k).isSome = true → (k : Int) ∈ intKeys D := by
  obtain ⟨D, hown, hs, hh⟩ := h
  have hK2 := Go.Maps.int_keyed hK
  refine ⟨D, hown, hs, ?_⟩
  obtain ⟨L, hD, hp, _⟩ := hown.entries hK2
  obtain ⟨L', hD', hko⟩ := hown.keysOf
  obtain rfl : L = L' := by rw [hD] at hD'; simpa using hD'
  subst hD
  have hint : ∀ p ∈ L, ∃ x, p.1 = .int .i64 x := fun p hp => by
    obtain ⟨v, hv⟩ := hko p hp
    obtain ⟨x, _, hx, _⟩ := Maps.keyOf_i64 hK hv
    exact ⟨x, hx⟩
  clear hown hD'
  have hmem : ∀ x : Int, x ∈ intKeys (.map L) ↔ has (.map L) (.int .i64 x) = true := fun x => by
    rw [has_eq, List.any_eq_true]
    show x ∈ L.map (fun p => Go.intOf p.1) ↔ _
    rw [List.mem_map]
    constructor
    · rintro ⟨p, hp', rfl⟩
      obtain ⟨a, ha⟩ := hint p hp'
      exact ⟨p, hp', by rw [ha]; simp [Lit.sameKey, Go.intOf]⟩
    · rintro ⟨p, hp', hs'⟩
      obtain ⟨a, ha⟩ := hint p hp'
      rw [ha] at hs'
      exact ⟨p, hp', by rw [ha]; simpa [Lit.sameKey, Go.intOf] using hs'⟩
  refine ⟨?_, fun x hx => ?_, fun k hk => ?_⟩
  · show (L.map fun p => Go.intOf p.1).Nodup
    refine List.pairwise_map.2 (hp.imp_of_mem fun {p q} hp' hq' hne e => hne ?_)
    obtain ⟨a, ha⟩ := hint p hp'
    obtain ⟨c, hc⟩ := hint q hq'
    rw [ha, hc] at e ⊢
    exact congrArg _ e
  · obtain ⟨k, e, hk⟩ := hh.2 _ ((hmem x).1 hx)
    unfold natL at e
    injection e with _ e
    exact ⟨k, e, hk⟩
  · obtain ⟨v, hv⟩ := Option.isSome_iff_exists.1 hk
    exact (hmem k).2 ((hh.1 k).2 v hv).1
end
end Go.Proofs.YtbnobjlphmkgeaaGreatDoor
/- Package view: Dirty. -/
namespace Go.Proofs.YtbnobjlphmkgeaaGreatDoor
open Go.RowKit Go.Maps Go.ChangeMaps

section
variable {w : World} {G : Nat → Prop} {v p cnt : Nat} {K N : Bytes} {f : Nat → Option Value}
end
end Go.Proofs.YtbnobjlphmkgeaaGreatDoor
/- Package view: the clone of a map that is told by a function. -/
namespace Go.Proofs.YtbnobjlphmkgeaaGreatDoor
open Go.RowKit Go.Maps Go.ChangeMaps

end Go.Proofs.YtbnobjlphmkgeaaGreatDoor
/- Package view: the plain words: what a write makes of the bytes and of the dirty pages. -/
namespace Go.Proofs.YtbnobjlphmkgeaaGreatDoor
open Go.RowKit Go.Maps Go.ChangeMaps

end Go.Proofs.YtbnobjlphmkgeaaGreatDoor
/- Package view: Write where it changes nothing. -/
namespace Go.Proofs.YtbnobjlphmkgeaaGreatDoor
open Go.RowKit Go.Maps Go.ChangeMaps

section
variable {w : World} {G : Nat → Prop} {v p cnt : Nat} {K N : Bytes} {f : Nat → Option Value}
end
end Go.Proofs.YtbnobjlphmkgeaaGreatDoor
/- Plain facts on changes of bytes. No program in sight. -/
namespace Go.Proofs.YtbnobjlphmkgeaaGreatDoor

end Go.Proofs.YtbnobjlphmkgeaaGreatDoor
/- The region of diff.Diff that appends a change: in whatever order. -/
namespace Go.Proofs.YtbnobjlphmkgeaaGreatDoor
open Go.RowKit

theorem Row.grown {w w' : World} {e g cap : Nat} {l : Bytes} {r : Option Nat} (h : Row w e g cap l) (hg : w.grownBy w' r) (hr : r ≠ some g) : Row w' e g cap l := by
  obtain ⟨cur, h0, h1⟩ := h
  exact ⟨cur, (hg.block g (Array.getElem?_eq_some_iff.1 h0).1 (fun e => hr e.symm)).trans h0, h1⟩
end Go.Proofs.YtbnobjlphmkgeaaGreatDoor
/- The contract of diff.Diff. -/
namespace Go.Proofs.YtbnobjlphmkgeaaGreatDoor
open Go.RowKit

end Go.Proofs.YtbnobjlphmkgeaaGreatDoor
/- Plain facts on where changes lie. No program in sight. -/
namespace Go.Proofs.YtbnobjlphmkgeaaGreatDoor

/-- what was put at a place changes no byte but there -/
theorem splice_same (l x : Bytes) (o p : Nat) (h : o + x.length ≤ l.length) (hp : p < o ∨ o + x.length ≤ p) : l[p]? = (splice l o x)[p]? := by
  unfold splice
  have hl : (l.take o).length = o := by simp; omega
  rcases hp with hp | hp
  · rw [List.getElem?_append_left (by omega), List.getElem?_take, if_pos hp]
  · rw [List.getElem?_append_right (by omega), hl, List.getElem?_append_right (by omega), List.getElem?_drop]
    congr 1; omega
theorem splice_get (l x : Bytes) (o q : Nat) (h : o + x.length ≤ l.length) (hq : q < x.length) : (splice l o x)[o + q]? = x[q]? := by
  unfold splice
  have hl : (l.take o).length = o := by simp; omega
  rw [List.getElem?_append_right (by omega), hl, List.getElem?_append_left (by omega)]
  congr 1; omega
end Go.Proofs.YtbnobjlphmkgeaaGreatDoor
/- Reading what diff.Diff gave. -/
namespace Go.Proofs.YtbnobjlphmkgeaaGreatDoor
open Go.RowKit

end Go.Proofs.YtbnobjlphmkgeaaGreatDoor
/- Plain facts on applying changes, and turning them. No program in sight. -/
namespace Go.Proofs.YtbnobjlphmkgeaaGreatDoor

end Go.Proofs.YtbnobjlphmkgeaaGreatDoor
/- The contract of diff.Apply. -/
namespace Go.Proofs.YtbnobjlphmkgeaaGreatDoor
open Go.RowKit

end Go.Proofs.YtbnobjlphmkgeaaGreatDoor
/- The contract of diff.Pages. -/
namespace Go.Proofs.YtbnobjlphmkgeaaGreatDoor
open Go.RowKit Go.Maps Go.ChangeMaps

theorem IM.size_le {P : Program} {K : TypeId} {w : World} {b cnt : Nat} {f : Nat → Option Value} (h : IM P K natL w b f cnt) (hK : P.underlying K = some (.int .i64)) (n : Nat) (hn : ∀ k, (f k).isSome = true → k < n) : cnt ≤ n := by
  obtain ⟨D, hown, hs, hnd, h1, _⟩ := h.keys hK
  have hl : (intKeys D).length = cnt := by
    obtain ⟨L, hD, _⟩ := hown.entries (Go.Maps.int_keyed hK)
    subst hD
    rw [← hs]; simp [intKeys, Maps.size]
  have hm : ((intKeys D).map Int.toNat).Nodup := by
    refine List.pairwise_map.2 (hnd.imp_of_mem fun {a b} ha hb hne e => hne ?_)
    obtain ⟨x, rfl, _⟩ := h1 a ha
    obtain ⟨y, rfl, _⟩ := h1 b hb
    simp only [Int.toNat_natCast] at e
    rw [e]
  have := nodup_le n ((intKeys D).map Int.toNat) hm (fun x hx => by
    obtain ⟨y, hy, rfl⟩ := List.mem_map.1 hx
    obtain ⟨z, rfl, hz⟩ := h1 y hy
    exact hn z hz)
  rw [List.length_map, hl] at this
  exact this
end Go.Proofs.YtbnobjlphmkgeaaGreatDoor
/- Contracts of package image: the small ones, and New. -/
namespace Go.Proofs.YtbnobjlphmkgeaaGreatDoor
open Go.RowKit

def rightB (n : Int) : Bool := decide (288 ≤ n) && decide (n ≤ 6400)
theorem rightB_true {n : Int} : rightB n = true ↔ 288 ≤ n ∧ n ≤ 6400 := by simp [rightB]
theorem right_any (n : Int) (w : World) : Calls Tryz.prog 99 #[.int .i64 n] w fun e w' => e = .returned (.bool (rightB n)) ∧ w = w' := by
  by_cases h1 : 288 ≤ n
  · go_enter Tryz.func99, Tryz.ntmps99
    go_wp2
    go_ret
    exact ⟨ret_bool (by simp [rightB]; intros; omega), rfl⟩
  · go_enter Tryz.func99, Tryz.ntmps99
    go_wp2
    go_ret
    exact ⟨ret_bool (by symm; simp [rightB]; omega), rfl⟩
def handleB (n : Int) : Bool := decide (1 ≤ n) && decide (n ≤ 40)
theorem handleB_true {n : Int} : handleB n = true ↔ 1 ≤ n ∧ n ≤ 40 := by simp [handleB]
theorem handle_any (n : Int) (w : World) : Calls Tryz.prog 180 #[.int .i64 n] w fun e w' => e = .returned (.bool (handleB n)) ∧ w = w' := by
  by_cases h1 : 1 ≤ n
  · go_enter Tryz.func180, Tryz.ntmps180
    go_wp2
    go_ret
    exact ⟨ret_bool (by simp [handleB]; intros; omega), rfl⟩
  · go_enter Tryz.func180, Tryz.ntmps180
    go_wp2
    go_ret
    exact ⟨ret_bool (by symm; simp [handleB]; omega), rfl⟩
def tagB (n : Int) : Bool := decide (0 ≤ n) && decide (n ≤ 15)
theorem tagB_true {n : Int} : tagB n = true ↔ 0 ≤ n ∧ n ≤ 15 := by simp [tagB]
theorem tagB_false {n : Int} : tagB n = false ↔ n < 0 ∨ 15 < n := by simp [tagB]; omega
theorem tag_any (n : Int) (w : World) : Calls Tryz.prog 65 #[.int .i64 n] w fun e w' => e = .returned (.bool (tagB n)) ∧ w = w' := by
  by_cases h1 : 0 ≤ n
  · go_enter Tryz.func65, Tryz.ntmps65
    go_wp2
    go_ret
    exact ⟨ret_bool (by simp [tagB]; intros; omega), rfl⟩
  · go_enter Tryz.func65, Tryz.ntmps65
    go_wp2
    go_ret
    exact ⟨ret_bool (by symm; simp [tagB]; omega), rfl⟩
def lenB (n : Int) : Bool := decide (1 ≤ n) && decide (n ≤ 1000)
theorem lenB_true {n : Int} : lenB n = true ↔ 1 ≤ n ∧ n ≤ 1000 := by simp [lenB]
theorem lenB_false {n : Int} : lenB n = false ↔ n < 1 ∨ 1000 < n := by simp [lenB]; omega
theorem len_any (n : Int) (w : World) : Calls Tryz.prog 64 #[.int .i64 n] w fun e w' => e = .returned (.bool (lenB n)) ∧ w = w' := by
  by_cases h1 : 1 ≤ n
  · go_enter Tryz.func64, Tryz.ntmps64
    go_wp2
    go_ret
    exact ⟨ret_bool (by simp [lenB]; intros; omega), rfl⟩
  · go_enter Tryz.func64, Tryz.ntmps64
    go_wp2
    go_ret
    exact ⟨ret_bool (by symm; simp [lenB]; omega), rfl⟩
def withinB (n at_ len : Int) : Bool := decide (288 ≤ at_) && decide (len ≤ n) && decide (at_ ≤ n - len)
theorem withinB_true {n a l : Int} : withinB n a l = true ↔ 288 ≤ a ∧ l ≤ n ∧ a ≤ n - l := by simp [withinB, and_assoc]
theorem within_any (n at_ len : Int) (w : World) (hn0 : 0 ≤ n) (hn : n ≤ 1000000) (hl : 0 ≤ len) (hl2 : len ≤ 1000000) :
    Calls Tryz.prog 173 #[.int .i64 n, .agg #[.int .i64 at_, .int .i64 len]] w fun e w' => e = .returned (.bool (withinB n at_ len)) ∧ Below w.heap.size w w' := by
  have hB : ∀ o, Below w.heap.size w (w.alloc o) := fun o => (Below.refl _ _).alloc (Nat.le_refl _) o
  by_cases h1 : 288 ≤ at_
  · by_cases h2 : len ≤ n
    · go_enter Tryz.func173, Tryz.ntmps173
      go_wp2
      go_ret
      exact ⟨ret_bool (by rw [Bool.eq_iff_iff]; simp [withinB]; omega), hB _⟩
    · go_enter Tryz.func173, Tryz.ntmps173
      go_wp2
      go_ret
      exact ⟨ret_bool (by rw [Bool.eq_iff_iff]; simp [withinB]; omega), hB _⟩
  · go_enter Tryz.func173, Tryz.ntmps173
    go_wp2
    go_ret
    exact ⟨ret_bool (by rw [Bool.eq_iff_iff]; simp [withinB]; omega), hB _⟩

theorem check_e1 (A : Option Addr) (n c : Nat) (h : Int) (w : World) (hr : rightB n = true) (hh : handleB h = false) :
    Calls Tryz.prog 144 #[.slice A n c, .int .i64 h] w fun e w' => e = .returned (.iface 111 (.int .i64 1)) ∧ w = w' := by
  go_enter Tryz.func144, Tryz.ntmps144
  go_wp2_with fail
  refine (right_any _ _).mono ?_
  rintro e w' ⟨rfl, rfl⟩
  rw [hr]
  go_wp2_with fail
  refine (handle_any _ _).mono ?_
  rintro e w' ⟨rfl, rfl⟩
  rw [hh]
  go_wp2
  go_ret
  exact ⟨rfl, rfl⟩
theorem check_ok (A : Option Addr) (n c : Nat) (h : Int) (w : World) (hr : rightB n = true) (hh : handleB h = true) :
    Calls Tryz.prog 144 #[.slice A n c, .int .i64 h] w fun e w' => e = .returned .nilIface ∧ w = w' := by
  go_enter Tryz.func144, Tryz.ntmps144
  go_wp2_with fail
  refine (right_any _ _).mono ?_
  rintro e w' ⟨rfl, rfl⟩
  rw [hr]
  go_wp2_with fail
  refine (handle_any _ _).mono ?_
  rintro e w' ⟨rfl, rfl⟩
  rw [hh]
  go_wp2
  go_ret
  exact ⟨rfl, rfl⟩

end Go.Proofs.YtbnobjlphmkgeaaGreatDoor
/- The contract of image.Put. -/
namespace Go.Proofs.YtbnobjlphmkgeaaGreatDoor
open Go.RowKit

theorem splice_join (l x y : Bytes) (o : Nat) (h : o + x.length + y.length ≤ l.length) : splice (splice l o x) (o + x.length) y = splice l o (x ++ y) := by
  unfold splice
  have h1 : (l.take o).length = o := by simp; omega
  rw [List.take_append, h1, List.take_of_length_le (by omega), List.take_append, show o + x.length - o = x.length from by omega, List.take_of_length_le (Nat.le_refl _), Nat.sub_self, List.take_zero, List.append_nil]
  rw [List.drop_append, h1, List.drop_of_length_le (by omega), List.nil_append, List.drop_append, List.drop_of_length_le (by omega), List.nil_append, List.drop_drop]
  simp only [List.append_assoc, List.length_append]
  congr 4
  omega
/-- the five bytes of an entry -/
def entB (at_ len tag : Nat) : Bytes := UInt8.ofNat (tag + 1) :: (numB at_ 2 ++ numB len 2)
theorem entB_len (at_ len tag : Nat) : (entB at_ len tag).length = 5 := by simp [entB, numB_length]
def entO (h : Int) : Nat := (5 * (h - 1)).toNat

theorem raw_any (A : Option Addr) (n c : Nat) (h : Int) (w : World) (h1 : 1 ≤ h) (h2 : h ≤ 40) (hn : 200 ≤ n) (hc : n ≤ c) :
    Calls Tryz.prog 148 #[.slice A n c, .int .i64 h] w fun e w' => e = .returned (.slice (A.map (·.add (entO h))) 5 (c - entO h)) ∧ w = w' := by
  obtain ⟨k, rfl⟩ : ∃ k : Nat, h = (k : Int) + 1 := ⟨(h - 1).toNat, by omega⟩
  have he : Hidden (entO ((k : Int) + 1) = 5 * k) := ⟨by unfold entO; omega⟩
  have hk : k < 40 := by omega
  go_enter Tryz.func148, Tryz.ntmps148
  go_wp2
  go_ret
  rw [he.out]
  refine ⟨?_, rfl⟩
  show Ending.returned (.slice (A.map (·.add (k * 5))) ((k + 1) * 5 - k * 5) (c - k * 5)) = _
  rw [Nat.mul_comm k 5, show (k + 1) * 5 - 5 * k = 5 from by omega]

/-- an entry as a value -/
abbrev entV (h at_ len tag : Int) : Value := .agg #[.int .i64 h, .int .i64 at_, .int .i64 len, .int .i64 tag]
/-- a block of an entry's four cells -/
structure EntAt (w : World) (p : Nat) (h at_ len tag : Int) : Prop where
  c0 : w.cell? ⟨p, 0, none⟩ = some (.int .i64 h)
  c1 : w.cell? ⟨p, 1, none⟩ = some (.int .i64 at_)
  c2 : w.cell? ⟨p, 2, none⟩ = some (.int .i64 len)
  c3 : w.cell? ⟨p, 3, none⟩ = some (.int .i64 tag)
theorem EntAt.new (w : World) (h at_ len tag : Int) (t : TypeId) : EntAt (w.alloc (.cells #[.int .i64 h, .int .i64 at_, .int .i64 len, .int .i64 tag] t)) w.heap.size h at_ len tag :=
  ⟨World.cell?_alloc_mark w _ t (0, 0) 0, World.cell?_alloc_mark w _ t (0, 0) 1, World.cell?_alloc_mark w _ t (0, 0) 2, World.cell?_alloc_mark w _ t (0, 0) 3⟩
theorem EntAt.keep {w w' : World} {p : Nat} {h at_ len tag : Int} (e : EntAt w p h at_ len tag) (hk : w'.heap[p]? = w.heap[p]?) : EntAt w' p h at_ len tag :=
  ⟨(World.cell?_of_block (w := w) hk).trans e.c0, (World.cell?_of_block (w := w) hk).trans e.c1, (World.cell?_of_block (w := w) hk).trans e.c2, (World.cell?_of_block (w := w) hk).trans e.c3⟩

/-- an image with an entry -/
def putEnt (l : Bytes) (h at_ len tag : Int) : Bytes := splice l (entO h) (entB at_.toNat len.toNat tag.toNat)
theorem putEnt_len (l : Bytes) (h at_ len tag : Int) (h1 : 1 ≤ h) (h2 : h ≤ 40) (hl : 200 ≤ l.length) : (putEnt l h at_ len tag).length = l.length := by
  unfold putEnt; refine splice_len _ _ _ ?_; rw [entB_len]; unfold entO; omega

set_option maxRecDepth 100000 in
set_option maxHeartbeats 1000000 in
theorem iput_ok (A : Option Addr) (n c : Nat) (l : Bytes) (h at_ len tag : Int) (w : World) (hn : l.length = n) (_hnc : n ≤ c) (hrd : Rd w A l) (hr : rightB n = true) (hx : handleB h = true) (hy : tagB tag = true) (hz : lenB len = true) (hw : withinB n at_ len = true) :
    Calls Tryz.prog 126 #[.slice A n c, entV h at_ len tag] w fun e w' => ∃ g cap, e = .returned (.tuple #[.slice (some ⟨g, 0, none⟩) n cap, .nilIface]) ∧ w.heap.size ≤ g ∧ Row w' 5 g cap (putEnt l h at_ len tag) ∧ Below w.heap.size w w' := by
  have hrb := rightB_true.1 hr
  have hlb := lenB_true.1 hz
  have hhb := handleB_true.1 hx
  have htb := tagB_true.1 hy
  have hwb := withinB_true.1 hw
  obtain ⟨a, rfl⟩ := Int.eq_ofNat_of_zero_le (show 0 ≤ at_ by omega)
  obtain ⟨m, rfl⟩ := Int.eq_ofNat_of_zero_le (show 0 ≤ len by omega)
  obtain ⟨t, rfl⟩ := Int.eq_ofNat_of_zero_le htb.1
  have heo : entO h + 5 ≤ 200 := by unfold entO; omega
  have hB0 : Below w.heap.size w (w.alloc (.cells #[.int .i64 h, .int .i64 a, .int .i64 m, .int .i64 t] 66)) := (Below.refl _ _).alloc (Nat.le_refl _) _
  have he0 := EntAt.new w h a m t 66
  obtain ⟨p0, off0, rfl, hlt0⟩ := hrd.lt (by omega)
  go_enter Tryz.func126, Tryz.ntmps126
  go_wp2_with fail
  refine (check_ok _ _ _ _ _ hr hx).mono ?_
  rintro e w' ⟨rfl, rfl⟩
  go_wp2_with fail
  refine (tag_any _ _).mono ?_
  rintro e w' ⟨rfl, rfl⟩
  rw [hy]
  go_wp2_with fail
  refine (len_any _ _).mono ?_
  rintro e w' ⟨rfl, rfl⟩
  rw [hz]
  go_wp2_with fail
  refine (within_any _ _ _ _ (by omega) (by omega) (by omega) (by omega)).mono ?_
  rintro e w1 ⟨rfl, hb1⟩
  rw [hw]
  have hB1 : Below w.heap.size w w1 := hB0.trans (hb1.mono hB0.size)
  have he1 := he0.keep (hb1.block w.heap.size (by simp))
  clear he0 hb1 hB0
  go_wp2_with fail
  refine (clone_some _ _ _ l _ hn (by omega) (hrd.below hB1)).mono ?_
  rintro e w2 ⟨g, cap, rfl, hg, hrow, hb2⟩
  have hB2 : Below w.heap.size w w2 := hB1.trans (hb2.mono hB1.size)
  have hlt1 : w.heap.size < w1.heap.size := block_lt_of_cell he1.c0
  have he2 := he1.keep (hb2.block w.heap.size hlt1)
  have hgw : w.heap.size ≤ g := Nat.le_trans hB1.size hg
  have hgne : w.heap.size ≠ g := by omega
  have hlc := hrow.le
  have hc0 := he2.c0
  clear he1 hb2 hB1
  go_wp2_with fail
  refine (raw_any (some ⟨g, 0, none⟩) n cap h _ hhb.1 hhb.2 (by omega) (by omega)).mono ?_
  rintro e w3 ⟨rfl, rfl⟩
  simp only [Option.map_some, Addr.add_lit, Nat.zero_add]
  have hrow' := hrow
  obtain ⟨cur, hcur, hcl, hcm, hcs, hct⟩ := hrow'
  generalize ho : entO h = o at *
  have HO := Hidden.mk ho
  clear ho
  have hcell : w2.cell? ⟨g, o, none⟩ = some (cur[o]'(by omega)) := by
    rw [cell_of_row w2 g _ _ _ _ hcur]; exact Array.getElem?_eq_getElem (by omega)
  have hfr : w2.frozen? ⟨g, o, none⟩ = false := frozen_of_row w2 g _ _ _ hcur
  generalize cur[o]'(by omega) = u0 at hcell
  have hc3 := he2.c3
  have hst : w2.setCell ⟨g, o, none⟩ (.int .u8 ((t : Int) + 1)) = w2.setRow g (setB cur o ([UInt8.ofNat (t + 1)].map bv)) := by
    rw [setCell_eq_setRow w2 g _ _ _ _ _ hcur]
    have := setB_snoc cur o [] (bv (UInt8.ofNat (t + 1))) (by simp; omega)
    rw [setB_nil] at this
    simp only [List.length_nil, Nat.add_zero, List.nil_append] at this
    rw [List.map_cons, List.map_nil, ← this]
    congr 2
    simp only [bv, UInt8.toNat_ofNat']
    congr 1
    omega
  have he3 : EntAt (w2.setCell ⟨g, o, none⟩ (.int .u8 ((t : Int) + 1))) w.heap.size h a m t := by rw [hst]; exact he2.keep (setRow_other w2 g _ _ hgne)
  have hB3 : Below w.heap.size w (w2.setCell ⟨g, o, none⟩ (.int .u8 ((t : Int) + 1))) := hB2.setCell hgw _
  have hrow3 : Row (w2.setCell ⟨g, o, none⟩ (.int .u8 ((t : Int) + 1))) 5 g cap (splice l o [UInt8.ofNat (t + 1)]) := by rw [hst]; exact hrow.set_ o _ (by simp; omega) cur hcur
  have hw3 : ∃ w3, w2.setCell ⟨g, o, none⟩ (.int .u8 ((t : Int) + 1)) = w3 := ⟨_, rfl⟩
  have hc1 := he3.c1
  clear hst
  go_wp2_with fail
  generalize w2.setCell ⟨g, o, none⟩ (.int .u8 ((t : Int) + 1)) = w3 at *
  clear hcell hfr hcur hcs hct hcl hcm hrow hB2 he2 hc0 hc1 hc3 hw3
  obtain ⟨cur3, hcur3, _, hcm3, hcs3, _⟩ := id hrow3
  refine (set_any g o 5 (cap - o) 5 cur3 1 a 2 _ hcur3 (by omega) (by omega) (by simp [maxLen]) (by omega)).mono ?_
  rintro e w4 ⟨rfl, hw4⟩
  have hl3 : (splice l o [UInt8.ofNat (t + 1)]).length = l.length := splice_len _ _ _ (by simp; omega)
  have hrow4 := hrow3.set_ (o + 1) (numB a 2) (by rw [hl3, numB_length]; omega) cur3 hcur3
  rw [← hw4] at hrow4
  have he4 : EntAt w4 w.heap.size h a m t := by rw [hw4]; exact he3.keep (setRow_other w3 g _ _ hgne)
  have hB4 : Below w.heap.size w w4 := by rw [hw4]; exact below_setRow hB3 hgw _
  have hc2 := he4.c2
  clear hw4 hcur3 hcm3 hcs3 he3 hB3 hrow3
  go_wp2_with fail
  clear hc2
  obtain ⟨cur4, hcur4, _, hcm4, hcs4, _⟩ := id hrow4
  refine (set_any g o 5 (cap - o) 5 cur4 3 m 2 _ hcur4 (by omega) (by omega) (by simp [maxLen]) (by omega)).mono ?_
  rintro e w5 ⟨rfl, rfl⟩
  have hl4 : (splice (splice l o [UInt8.ofNat (t + 1)]) (o + 1) (numB a 2)).length = l.length := by rw [splice_len _ _ _ (by rw [hl3, numB_length]; omega), hl3]
  have hrow5 := hrow4.set_ (o + 3) (numB m 2) (by rw [hl4, numB_length]; omega) cur4 hcur4
  have hB5 : Below w.heap.size w (w4.setRow g (setB cur4 (o + 3) ((numB m 2).map bv))) := below_setRow hB4 hgw _
  generalize w4.setRow g (setB cur4 (o + 3) ((numB m 2).map bv)) = w5 at *
  clear hcur4 hcs4
  go_wp2_with fail
  go_ret2
  refine ⟨g, cap, rfl, hgw, ?_, hB5⟩
  have e1 := splice_join l [UInt8.ofNat (t + 1)] (numB a 2) o (by simp [numB_length]; omega)
  have e2 := splice_join l ([UInt8.ofNat (t + 1)] ++ numB a 2) (numB m 2) o (by simp [numB_length]; omega)
  simp only [List.length_append, List.length_cons, List.length_nil, numB_length] at e1 e2
  have : putEnt l h a m t = splice l o (([UInt8.ofNat (t + 1)] ++ numB a 2) ++ numB m 2) := by
    unfold putEnt; rw [HO.out]; rfl
  rw [this, ← e2, ← e1]
  exact hrow5

end Go.Proofs.YtbnobjlphmkgeaaGreatDoor
/- The contract of image.PutRoot. -/
namespace Go.Proofs.YtbnobjlphmkgeaaGreatDoor
open Go.RowKit

abbrev rootV (s : Bytes) (h : Int) : Value := .agg #[sv s, .int .i64 h]
def rootO (i : Int) : Nat := (200 + i * 11).toNat
theorem rawRoot_any (A : Option Addr) (n c : Nat) (i : Int) (w : World) (h1 : 0 ≤ i) (h2 : i < 8) (hn : 288 ≤ n) (hc : n ≤ c) :
    Calls Tryz.prog 151 #[.slice A n c, .int .i64 i] w fun e w' => e = .returned (.slice (A.map (·.add (rootO i))) 11 (c - rootO i)) ∧ w = w' := by
  obtain ⟨k, rfl⟩ := Int.eq_ofNat_of_zero_le h1
  have he : Hidden (rootO (k : Int) = 200 + k * 11) := ⟨by unfold rootO; omega⟩
  have hk : k < 8 := by omega
  go_enter Tryz.func151, Tryz.ntmps151
  go_wp2
  go_ret
  rw [he.out]
  refine ⟨?_, rfl⟩
  show Ending.returned (.slice (A.map (·.add (200 + k * 11))) ((200 + (k + 1) * 11) - (200 + k * 11)) (c - (200 + k * 11))) = _
  rw [show (200 + (k + 1) * 11) - (200 + k * 11) = 11 from by omega]

set_option maxRecDepth 100000 in
theorem root_zero (A : Option Addr) (n c : Nat) (l : Bytes) (i : Int) (w : World) (hn : l.length = n) (_hnc : n ≤ c) (hrd : Rd w A l) (hr : rightB n = true) (hi1 : 0 ≤ i) (hi2 : i < 8) :
    Calls Tryz.prog 154 #[.slice A n c, .int .i64 i, rootV [] 0] w fun e w' => ∃ g cap, e = .returned (.tuple #[.slice (some ⟨g, 0, none⟩) n cap, .nilIface]) ∧ w.heap.size ≤ g ∧ Row w' 5 g cap (splice l (rootO i) (List.replicate 11 0)) ∧ Below w.heap.size w w' := by
  have hone : handleB 1 = true := by decide
  have hmk := mk_bytes 11 11 rfl (by omega)
  go_enter Tryz.func154, Tryz.ntmps154
  go_wp2_with fail
  refine (check_ok _ _ _ _ _ hr hone).mono ?_
  rintro e w' ⟨rfl, rfl⟩
  go_wp2_with fail
  have hrb := rightB_true.1 hr
  obtain ⟨p0, off0, rfl, hlt0⟩ := hrd.lt (by omega)
  have hW : Below w.heap.size w (w.alloc (.cells #[sv [], .int .i64 0] 128)) := (Below.refl _ _).alloc (Nat.le_refl _) _
  have hB1 := hW.alloc hW.size (.cells (zeroRow 11) 5)
  have hxr := row_zeros (w.alloc (.cells #[sv [], .int .i64 0] 128)) 11 (by simp [maxLen])
  have hxl : (List.replicate 11 (0 : UInt8)).length = 11 := by decide
  simp only [World.size_alloc] at hxr ⊢
  generalize (w.alloc (.cells #[sv [], .int .i64 0] 128)).alloc (.cells (zeroRow 11) 5) = w1 at *
  generalize w.heap.size + 1 = xb at *
  generalize hXL : List.replicate 11 (0 : UInt8) = xl at *
  have HXL := Hidden.mk hXL
  clear hXL
  refine (clone_some _ _ _ l _ hn (by omega) (hrd.below hB1)).mono ?_
  rintro e w2 ⟨g, cap, rfl, hg, hrow, hb2⟩
  have hB2 : Below w.heap.size w w2 := hB1.trans (hb2.mono hB1.size)
  have hgw : w.heap.size ≤ g := Nat.le_trans hB1.size hg
  have hxr2 := hxr.below hb2 hxr.lt
  have hlc := hrow.le
  clear hxr hb2 hB1 hg
  go_wp2_with fail
  refine (rawRoot_any (some ⟨g, 0, none⟩) n cap i _ hi1 hi2 (by omega) (by omega)).mono ?_
  rintro e w3 ⟨rfl, rfl⟩
  simp only [Option.map_some, Addr.add_lit, Nat.zero_add]
  have hro : rootO i + 11 ≤ 288 := by unfold rootO; omega
  generalize hO : rootO i = o at *
  have HO := Hidden.mk hO
  clear hO
  obtain ⟨cur, hcur, _, _, hcs, _⟩ := id hrow
  have hcopy := fun ty => run_copy_rd w2 g o 11 (cap - o) 11 11 11 (some ⟨xb, 0, none⟩) xl cur 5 hcur hxl hxr2.rd rfl (by omega) ty
  rw [List.take_of_length_le (by omega)] at hcopy
  have hrow4 := hrow.set_ o xl (by omega) cur hcur
  have hB4 : Below w.heap.size w (w2.setRow g (setB cur o (xl.map bv))) := below_setRow hB2 hgw _
  generalize w2.setRow g (setB cur o (xl.map bv)) = w4 at *
  clear hcur hcs hxr2 hrow hB2
  go_wp2_with fail
  go_ret2
  exact ⟨g, cap, rfl, hgw, by rw [HO.out, HXL.out]; exact hrow4, hB4⟩

/-- the eleven bytes of a root -/
def rootB (s : Bytes) (h : Int) : Bytes := nameB s ++ [0, 0, UInt8.ofNat h.toNat]
set_option maxRecDepth 100000 in
set_option maxHeartbeats 1000000 in
theorem root_ok (A : Option Addr) (n c : Nat) (l : Bytes) (i : Int) (s : Bytes) (h : Int) (w : World) (hn : l.length = n) (hrd : Rd w A l) (hr : rightB n = true) (hi1 : 0 ≤ i) (hi2 : i < 8) (hh : handleB h = true) (hnm : isName s = true) :
    Calls Tryz.prog 154 #[.slice A n c, .int .i64 i, rootV s h] w fun e w' => ∃ g cap, e = .returned (.tuple #[.slice (some ⟨g, 0, none⟩) n cap, .nilIface]) ∧ w.heap.size ≤ g ∧ Row w' 5 g cap (splice l (rootO i) (rootB s h)) ∧ Below w.heap.size w w' := by
  have hone : handleB 1 = true := by decide
  have hmk := mk_bytes 11 11 rfl (by omega)
  have hB1 := ((Below.refl w.heap.size w).alloc (Nat.le_refl _) (.cells #[sv s, .int .i64 h] 128)).alloc (by simp) (.cells (zeroRow 11) 5)
  have hhb := handleB_true.1 hh
  have hrb := rightB_true.1 hr
  have h8 := nameB_len s hnm
  have hs0 : s.isEmpty = false := by
    cases s with
    | nil => cases hnm
    | cons x r => rfl
  obtain ⟨p0, off0, rfl, hlt0⟩ := hrd.lt (by omega)
  obtain ⟨k, rfl⟩ := Int.eq_ofNat_of_zero_le (show 0 ≤ h by omega)
  go_enter Tryz.func154, Tryz.ntmps154
  go_wp2_with fail
  refine (check_ok _ _ _ _ _ hr hone).mono ?_
  rintro e w' ⟨rfl, rfl⟩
  go_wp2_with fail
  refine (handle_any _ _).mono ?_
  rintro e w' ⟨rfl, rfl⟩
  rw [hh]
  go_wp2_with fail
  refine (putName_ok s _ hnm).mono ?_
  rintro e w1 ⟨gs, rfl, hgs, hsrow, hb⟩
  have hx0 := row_zeros (w.alloc (.cells #[sv s, .int .i64 k] 128)) 11 (by simp [maxLen])
  have hc1 : ((w.alloc (.cells #[sv s, .int .i64 k] 128)).alloc (.cells (zeroRow 11) 5)).cell? ⟨w.heap.size, 1, none⟩ = some (.int .i64 k) := by
    rw [World.cell?_alloc_lt _ _ _ (by simp)]; exact World.cell?_alloc_mark w _ _ (0, 0) 1
  have hBB : Below w.heap.size w w1 := hB1.trans (hb.mono hB1.size)
  have hx1 := hx0.below hb hx0.lt
  have hc2 := (hb.cell (p := ⟨w.heap.size, 1, none⟩) (by simp; omega)).trans hc1
  simp only [World.size_alloc] at hx1 hgs
  clear hx0 hc1 hB1 hb hmk
  obtain ⟨cur, hcur, _, _, hcs, _⟩ := id hx1
  have hcopy := fun ty => run_copy_rd w1 (w.heap.size + 1) 0 11 11 8 8 8 (some ⟨gs, 0, none⟩) (nameB s) cur 5 hcur h8 hsrow.rd rfl (by omega) ty
  rw [List.take_of_length_le (by omega)] at hcopy
  have hx2 := hx1.set_ 0 (nameB s) (by simp; omega) cur hcur
  have hBB2 : Below w.heap.size w (w1.setRow (w.heap.size + 1) (setB cur 0 ((nameB s).map bv))) := below_setRow hBB (by omega) _
  have hc3 : (w1.setRow (w.heap.size + 1) (setB cur 0 ((nameB s).map bv))).cell? ⟨w.heap.size, 1, none⟩ = some (.int .i64 k) := by
    rw [cell_setRow_other _ _ _ _ (by simp)]; exact hc2
  rw [splice_zeros] at hx2
  generalize w1.setRow (w.heap.size + 1) (setB cur 0 ((nameB s).map bv)) = w2 at *
  clear hcur hcs hx1 hBB hc2 hsrow
  obtain ⟨cur, hcur, _, _, hcs, _⟩ := id hx2
  have hcell : w2.cell? ⟨w.heap.size + 1, 10, none⟩ = some (cur[10]'(by omega)) := by
    rw [cell_of_row w2 _ _ _ _ _ hcur]; exact Array.getElem?_eq_getElem (by omega)
  have hfr : w2.frozen? ⟨w.heap.size + 1, 10, none⟩ = false := frozen_of_row w2 _ _ _ _ hcur
  generalize cur[10]'(by omega) = u0 at hcell
  have hst : w2.setCell ⟨w.heap.size + 1, 10, none⟩ (.int .u8 (k : Int)) = w2.setRow (w.heap.size + 1) (setB cur 10 ([UInt8.ofNat k].map bv)) := by
    rw [setCell_eq_setRow w2 _ _ _ _ _ _ hcur]
    have := setB_snoc cur 10 [] (bv (UInt8.ofNat k)) (by simp; omega)
    rw [setB_nil] at this
    simp only [List.length_nil, Nat.add_zero, List.nil_append] at this
    rw [List.map_cons, List.map_nil, ← this]
    congr 2
    simp only [bv, UInt8.toNat_ofNat']
    congr 1
    omega
  have hxr : Row (w2.setCell ⟨w.heap.size + 1, 10, none⟩ (.int .u8 (k : Int))) 5 (w.heap.size + 1) 11 (splice (nameB s ++ List.replicate (11 - (nameB s).length) 0) 10 [UInt8.ofNat k]) := by
    rw [hst]; exact hx2.set_ 10 _ (by simp; omega) cur hcur
  have hB1 : Below w.heap.size w (w2.setCell ⟨w.heap.size + 1, 10, none⟩ (.int .u8 (k : Int))) := hBB2.setCell (by simp) _
  have hXL : splice (nameB s ++ List.replicate (11 - (nameB s).length) 0) 10 [UInt8.ofNat k] = rootB s k := by
    have := splice_app (nameB s ++ [0, 0]) [0] [] [UInt8.ofNat k] rfl
    simp only [List.append_nil, List.length_append, h8] at this
    rw [h8, show List.replicate (11 - 8) (0 : UInt8) = [0, 0] ++ [0] from rfl, ← List.append_assoc]
    rw [show 8 + [(0 : UInt8), 0].length = 10 from rfl] at this
    rw [this]
    simp [rootB]
  have hxl : (rootB s (k : Int)).length = 11 := by simp [rootB, h8]
  rw [hXL] at hxr
  have hc3' := hc3
  clear hst hXL hBB2 hc3' hcur hcs hx2
  go_wp2_with fail
  clear hcell hfr
  generalize w2.setCell ⟨w.heap.size + 1, 10, none⟩ (.int .u8 (k : Int)) = w3 at *
  generalize w.heap.size + 1 = xb at *
  generalize hXL : rootB s (k : Int) = xl at *
  have HXL := Hidden.mk hXL
  clear hXL
  refine (clone_some _ _ _ l _ hn (by omega) (hrd.below hB1)).mono ?_
  rintro e w2 ⟨g, cap, rfl, hg, hrow, hb2⟩
  have hB2 : Below w.heap.size w w2 := hB1.trans (hb2.mono hB1.size)
  have hgw : w.heap.size ≤ g := Nat.le_trans hB1.size hg
  have hxr2 := hxr.below hb2 hxr.lt
  have hlc := hrow.le
  clear hxr hb2 hB1 hg
  go_wp2_with fail
  refine (rawRoot_any (some ⟨g, 0, none⟩) n cap i _ hi1 hi2 (by omega) (by omega)).mono ?_
  rintro e w3 ⟨rfl, rfl⟩
  simp only [Option.map_some, Addr.add_lit, Nat.zero_add]
  have hro : rootO i + 11 ≤ 288 := by unfold rootO; omega
  generalize hO : rootO i = o at *
  have HO := Hidden.mk hO
  clear hO
  obtain ⟨cur, hcur, _, _, hcs, _⟩ := id hrow
  have hcopy := fun ty => run_copy_rd w2 g o 11 (cap - o) 11 11 11 (some ⟨xb, 0, none⟩) xl cur 5 hcur hxl hxr2.rd rfl (by omega) ty
  rw [List.take_of_length_le (by omega)] at hcopy
  have hrow4 := hrow.set_ o xl (by omega) cur hcur
  have hB4 : Below w.heap.size w (w2.setRow g (setB cur o (xl.map bv))) := below_setRow hB2 hgw _
  generalize w2.setRow g (setB cur o (xl.map bv)) = w4 at *
  clear hcur hcs hxr2 hrow hB2
  go_wp2_with fail
  go_ret2
  exact ⟨g, cap, rfl, hgw, by rw [HO.out, HXL.out]; exact hrow4, hB4⟩
end Go.Proofs.YtbnobjlphmkgeaaGreatDoor
/- Plain words for what is wrong with an image, and what mending makes of it. No walk here. -/
namespace Go.Proofs.YtbnobjlphmkgeaaGreatDoor

/-- the five bytes of the handle k + 1 -/
def rawE (l : Bytes) (k : Nat) : Bytes := (l.drop (5 * k)).take 5
/-- the eleven bytes of a root -/
def rawR (l : Bytes) (i : Nat) : Bytes := (l.drop (200 + 11 * i)).take 11
def rHd (r : Bytes) : UInt8 := r.headD 0
def rAt (r : Bytes) : Nat := ofB ((r.drop 1).take 2)
def rLen (r : Bytes) : Nat := ofB ((r.drop 3).take 2)
def rTag (r : Bytes) : Int := ((rHd r).toNat : Int) - 1
def hasE (r : Bytes) : Bool := rHd r != 0
def strayE (n : Nat) (r : Bytes) : Bool := !(tagB (rTag r) && lenB (rLen r) && withinB n (rAt r) (rLen r))
def zeroE (r : Bytes) : Bool := !r.any nonZero
def overE (r s : Bytes) : Bool := decide (rAt r < rAt s + rLen s) && decide (rAt s < rAt r + rLen r)
def wholeE (n : Nat) (r : Bytes) : Bool := hasE r && !strayE n r

/-- a fault -/
structure Flt where
  what : Nat
  which : Nat
/-- what a handle is: 0: none; 1, 2, 3: a fault; 6: right -/
def kindH (n : Nat) (R : Nat → Bytes) (k : Nat) : Nat :=
  if hasE (R k) = true then (if strayE n (R k) = true then 1 else if (List.range k).any (fun j => wholeE n (R j) && overE (R k) (R j)) = true then 2 else 6)
  else (if zeroE (R k) = true then 0 else 3)
def fltOf (kind which : Nat) : List Flt := if kind = 0 ∨ kind = 6 then [] else [⟨kind, which⟩]
def faultsH (n : Nat) (R : Nat → Bytes) (m : Nat) : List Flt := (List.range m).flatMap fun k => fltOf (kindH n R k) (k + 1)
def leadsE (n : Nat) (R : Nat → Bytes) (x : UInt8) : Bool := (List.range 40).any fun k => kindH n R k == 6 && x.toNat == k + 1
def nmR (r : Bytes) : Bytes := nameAt (r.take 8)
def badR (leads : UInt8 → Bool) (r : Bytes) : Bool := !gotName (r.take 8) || r.getD 8 0 != 0 || r.getD 9 0 != 0 || !leads (r.getD 10 0)
def okR (leads : UInt8 → Bool) (r : Bytes) : Bool := !zeroE r && !badR leads r
/-- what a root is: 0: none; 4, 5: a fault; 6: right -/
def kindR (leads : UInt8 → Bool) (S : Nat → Bytes) (i : Nat) : Nat :=
  if zeroE (S i) = true then 0 else if badR leads (S i) = true then 4 else if (List.range i).any (fun j => okR leads (S j) && (nmR (S i) == nmR (S j))) = true then 5 else 6
def faultsR (leads : UInt8 → Bool) (S : Nat → Bytes) (m : Nat) : List Flt := (List.range m).flatMap fun i => fltOf (kindR leads S i) i
/-- what is wrong with an image -/
def checkL (l : Bytes) : List Flt := faultsH l.length (rawE l) 40 ++ faultsR (leadsE l.length (rawE l)) (rawR l) 8

theorem faultsH_succ (n : Nat) (R : Nat → Bytes) (m : Nat) : faultsH n R (m + 1) = faultsH n R m ++ fltOf (kindH n R m) (m + 1) := by
  simp [faultsH, List.range_succ]
theorem faultsR_succ (leads : UInt8 → Bool) (S : Nat → Bytes) (m : Nat) : faultsR leads S (m + 1) = faultsR leads S m ++ fltOf (kindR leads S m) m := by
  simp [faultsR, List.range_succ]
theorem fltOf_len (a b : Nat) : (fltOf a b).length ≤ 1 := by unfold fltOf; split <;> simp
theorem faultsH_len (n : Nat) (R : Nat → Bytes) (m : Nat) : (faultsH n R m).length ≤ m := by
  induction m with
  | zero => simp [faultsH]
  | succ m ih => rw [faultsH_succ, List.length_append]; have := fltOf_len (kindH n R m) (m + 1); omega
theorem faultsR_len (leads : UInt8 → Bool) (S : Nat → Bytes) (m : Nat) : (faultsR leads S m).length ≤ m := by
  induction m with
  | zero => simp [faultsR]
  | succ m ih => rw [faultsR_succ, List.length_append]; have := fltOf_len (kindR leads S m) m; omega
theorem kindH_cases (n : Nat) (R : Nat → Bytes) (k : Nat) : kindH n R k = 0 ∨ kindH n R k = 1 ∨ kindH n R k = 2 ∨ kindH n R k = 3 ∨ kindH n R k = 6 := by
  unfold kindH; repeat' split
  all_goals simp
theorem kindR_cases (leads : UInt8 → Bool) (S : Nat → Bytes) (k : Nat) : kindR leads S k = 0 ∨ kindR leads S k = 4 ∨ kindR leads S k = 5 ∨ kindR leads S k = 6 := by
  unfold kindR; repeat' split
  all_goals simp
theorem mem_fltOf {a b : Nat} {f : Flt} : f ∈ fltOf a b ↔ ¬ (a = 0 ∨ a = 6) ∧ f = ⟨a, b⟩ := by
  unfold fltOf; split <;> simp_all
theorem mem_checkL {l : Bytes} {f : Flt} : f ∈ checkL l ↔ (∃ k, k < 40 ∧ ¬ (kindH l.length (rawE l) k = 0 ∨ kindH l.length (rawE l) k = 6) ∧ f = ⟨kindH l.length (rawE l) k, k + 1⟩) ∨
    (∃ i, i < 8 ∧ ¬ (kindR (leadsE l.length (rawE l)) (rawR l) i = 0 ∨ kindR (leadsE l.length (rawE l)) (rawR l) i = 6) ∧ f = ⟨kindR (leadsE l.length (rawE l)) (rawR l) i, i⟩) := by
  simp only [checkL, List.mem_append, faultsH, faultsR, List.mem_flatMap, List.mem_range, mem_fltOf]

/-- the same handles, once what is wrong is 0 -/
theorem zeros_has : hasE (List.replicate 5 0) = false := by decide
theorem zeros_zero (n : Nat) : zeroE (List.replicate n 0) = true := by
  simp [zeroE, nonZero]
theorem kindH_after (n : Nat) (R R' : Nat → Bytes) (h : ∀ k, k < 40 → R' k = if kindH n R k = 0 ∨ kindH n R k = 6 then R k else List.replicate 5 0) (k : Nat) (hk : k < 40) :
    kindH n R' k = if kindH n R k = 6 then 6 else 0 := by
  have hz : kindH n R k ≠ 0 → kindH n R k ≠ 6 → kindH n R' k = 0 := fun h0 h6 => by
    have := h k hk
    rw [if_neg (by omega)] at this
    unfold kindH
    rw [this, zeros_has, zeros_zero]; simp
  rcases kindH_cases n R k with h0 | h0 | h0 | h0 | h0
  · rw [if_neg (by omega)]
    have hR := h k hk
    rw [if_pos (by omega)] at hR
    unfold kindH at h0 ⊢
    rw [hR]
    split at h0
    · repeat' split at h0
      all_goals simp at h0
    · rename_i hh
      rw [if_neg hh]
      split at h0
      · rename_i hz; rw [if_pos hz]
      · simp at h0
  · rw [if_neg (by omega)]; exact hz (by omega) (by omega)
  · rw [if_neg (by omega)]; exact hz (by omega) (by omega)
  · rw [if_neg (by omega)]; exact hz (by omega) (by omega)
  · rw [if_pos h0]
    have hR := h k hk
    rw [if_pos (by omega)] at hR
    unfold kindH at h0 ⊢
    rw [hR]
    split at h0
    · rename_i hh
      rw [if_pos hh]
      split at h0
      · simp at h0
      · rename_i hs
        rw [if_neg hs]
        split at h0
        · simp at h0
        · rename_i ha
          rw [if_neg]
          intro hx
          apply ha
          rw [List.any_eq_true] at hx ⊢
          obtain ⟨j, hj, hw⟩ := hx
          refine ⟨j, hj, ?_⟩
          have hj' : j < k := List.mem_range.1 hj
          have hRj := h j (by omega)
          split at hRj
          · rw [← hRj]; exact hw
          · rw [hRj] at hw; simp only [wholeE, zeros_has, Bool.false_and, Bool.false_eq_true] at hw
    · split at h0 <;> simp at h0
theorem leadsE_after (n : Nat) (R R' : Nat → Bytes) (h : ∀ k, k < 40 → kindH n R' k = if kindH n R k = 6 then 6 else 0) : leadsE n R' = leadsE n R := by
  funext x
  have : ∀ k ∈ List.range 40, (kindH n R' k == 6 && x.toNat == k + 1) = (kindH n R k == 6 && x.toNat == k + 1) := fun k hk => by
    rw [h k (List.mem_range.1 hk)]
    split
    · rename_i h6; rw [h6]
    · rename_i h6; simp [h6]
  unfold leadsE
  rw [Bool.eq_iff_iff, List.any_eq_true, List.any_eq_true]
  constructor
  · rintro ⟨k, hk, h⟩; exact ⟨k, hk, (this k hk) ▸ h⟩
  · rintro ⟨k, hk, h⟩; exact ⟨k, hk, (this k hk).symm ▸ h⟩
theorem kindR_after (leads : UInt8 → Bool) (S S' : Nat → Bytes) (h : ∀ i, i < 8 → S' i = if kindR leads S i = 0 ∨ kindR leads S i = 6 then S i else List.replicate 11 0) (i : Nat) (hi : i < 8) :
    kindR leads S' i = if kindR leads S i = 6 then 6 else 0 := by
  have hz : kindR leads S i ≠ 0 → kindR leads S i ≠ 6 → kindR leads S' i = 0 := fun h0 h6 => by
    have := h i hi
    rw [if_neg (by omega)] at this
    unfold kindR
    rw [this, zeros_zero]; simp
  rcases kindR_cases leads S i with h0 | h0 | h0 | h0
  · rw [if_neg (by omega)]
    have hS := h i hi
    rw [if_pos (by omega)] at hS
    unfold kindR at h0 ⊢
    rw [hS]
    split at h0
    · rename_i hh; rw [if_pos hh]
    · repeat' split at h0
      all_goals simp at h0
  · rw [if_neg (by omega)]; exact hz (by omega) (by omega)
  · rw [if_neg (by omega)]; exact hz (by omega) (by omega)
  · rw [if_pos h0]
    have hS := h i hi
    rw [if_pos (by omega)] at hS
    unfold kindR at h0 ⊢
    rw [hS]
    split at h0
    · simp at h0
    · rename_i hh
      rw [if_neg hh]
      split at h0
      · simp at h0
      · rename_i hb
        rw [if_neg hb]
        split at h0
        · simp at h0
        · rename_i ha
          rw [if_neg]
          intro hx
          apply ha
          rw [List.any_eq_true] at hx ⊢
          obtain ⟨j, hj, hw⟩ := hx
          refine ⟨j, hj, ?_⟩
          have hj' : j < i := List.mem_range.1 hj
          have hSj := h j (by omega)
          split at hSj
          · rw [← hSj]; exact hw
          · rw [hSj] at hw; simp only [okR, zeros_zero, Bool.not_true, Bool.false_and, Bool.false_eq_true] at hw

/-- where a fault's bytes lie -/
def fltO (f : Flt) : Nat := if f.what = 4 ∨ f.what = 5 then 200 + 11 * f.which else 5 * (f.which - 1)
def fltN (f : Flt) : Nat := if f.what = 4 ∨ f.what = 5 then 11 else 5
def clearF (l : Bytes) (f : Flt) : Bytes := splice l (fltO f) (List.replicate (fltN f) 0)
def clearAll (l : Bytes) (fs : List Flt) : Bytes := fs.foldl clearF l
def FltIn (n : Nat) (f : Flt) : Prop := fltO f + fltN f ≤ n
theorem splice_at (l x : Bytes) (o p : Nat) (h : o + x.length ≤ l.length) : (splice l o x)[p]? = if o ≤ p ∧ p < o + x.length then x[p - o]? else l[p]? := by
  split
  · rename_i hp
    have := splice_get l x o (p - o) h (by omega)
    rw [show o + (p - o) = p from by omega] at this
    exact this
  · exact (splice_same l x o p h (by omega)).symm
theorem clearF_len (l : Bytes) (f : Flt) (h : FltIn l.length f) : (clearF l f).length = l.length := by
  unfold clearF; exact length_splice _ _ _ (by rw [List.length_replicate]; exact h)
theorem clearAll_len (fs : List Flt) : ∀ l : Bytes, (∀ f ∈ fs, FltIn l.length f) → (clearAll l fs).length = l.length := by
  induction fs with
  | nil => intro l _; rfl
  | cons f fs ih =>
    intro l h
    have h1 := clearF_len l f (h f (by simp))
    show (clearAll (clearF l f) fs).length = _
    rw [ih _ (fun g hg => by rw [h1]; exact h g (by simp [hg])), h1]
def Cleared (fs : List Flt) (p : Nat) : Prop := ∃ f ∈ fs, fltO f ≤ p ∧ p < fltO f + fltN f
theorem clearAll_out (fs : List Flt) (p : Nat) (hp : ¬ Cleared fs p) : ∀ l : Bytes, (∀ f ∈ fs, FltIn l.length f) → (clearAll l fs)[p]? = l[p]? := by
  induction fs with
  | nil => intro l _; rfl
  | cons f fs ih =>
    intro l h
    have h1 := clearF_len l f (h f (by simp))
    show (clearAll (clearF l f) fs)[p]? = _
    rw [ih (fun ⟨g, hg, hh⟩ => hp ⟨g, by simp [hg], hh⟩) _ (fun g hg => by rw [h1]; exact h g (by simp [hg]))]
    unfold clearF
    rw [splice_at _ _ _ _ (by rw [List.length_replicate]; exact h f (by simp)), if_neg]
    rw [List.length_replicate]
    exact fun hh => hp ⟨f, by simp, hh⟩
theorem clearAll_zero (fs : List Flt) (p : Nat) : ∀ l : Bytes, (∀ f ∈ fs, FltIn l.length f) → l[p]? = some 0 → (clearAll l fs)[p]? = some 0 := by
  induction fs with
  | nil => intro l _ h; exact h
  | cons f fs ih =>
    intro l h hz
    have h1 := clearF_len l f (h f (by simp))
    show (clearAll (clearF l f) fs)[p]? = _
    refine ih _ (fun g hg => by rw [h1]; exact h g (by simp [hg])) ?_
    unfold clearF
    rw [splice_at _ _ _ _ (by rw [List.length_replicate]; exact h f (by simp))]
    split
    · rename_i hh; rw [List.length_replicate] at hh; rw [List.getElem?_replicate, if_pos (by omega)]
    · exact hz
theorem clearAll_in (fs : List Flt) (p : Nat) (hp : Cleared fs p) : ∀ l : Bytes, (∀ f ∈ fs, FltIn l.length f) → (clearAll l fs)[p]? = some 0 := by
  induction fs with
  | nil => obtain ⟨f, hf, _⟩ := hp; simp at hf
  | cons f fs ih =>
    intro l h
    have h1 := clearF_len l f (h f (by simp))
    have h2 : ∀ g ∈ fs, FltIn (clearF l f).length g := fun g hg => by rw [h1]; exact h g (by simp [hg])
    show (clearAll (clearF l f) fs)[p]? = _
    by_cases hc : Cleared fs p
    · exact ih hc _ h2
    · refine clearAll_zero fs p _ h2 ?_
      obtain ⟨g, hg, hh⟩ := hp
      rcases List.mem_cons.1 hg with rfl | hg
      · unfold clearF
        rw [splice_at _ _ _ _ (by rw [List.length_replicate]; exact h g (by simp)), if_pos (by rw [List.length_replicate]; exact hh), List.getElem?_replicate, if_pos (by omega)]
      · exact absurd ⟨g, hg, hh⟩ hc
/-- an image without what is wrong -/
def mendL (l : Bytes) : Bytes := clearAll l (checkL l)
theorem flt_in {l : Bytes} (hl : 288 ≤ l.length) {f : Flt} (hf : f ∈ checkL l) : FltIn l.length f := by
  unfold FltIn fltO fltN
  rcases mem_checkL.1 hf with ⟨k, hk, hn, rfl⟩ | ⟨i, hi, hn, rfl⟩
  · have := kindH_cases l.length (rawE l) k
    rw [if_neg (by simp only; omega), if_neg (by simp only; omega)]
    simp only; omega
  · have := kindR_cases (leadsE l.length (rawE l)) (rawR l) i
    rw [if_pos (by simp only; omega), if_pos (by simp only; omega)]
    simp only; omega
theorem mendL_len {l : Bytes} (hl : 288 ≤ l.length) : (mendL l).length = l.length := clearAll_len _ l (fun _ hf => flt_in hl hf)
theorem cleared_h {l : Bytes} {k q : Nat} (hk : k < 40) (hq : q < 5) : Cleared (checkL l) (5 * k + q) ↔ ¬ (kindH l.length (rawE l) k = 0 ∨ kindH l.length (rawE l) k = 6) := by
  constructor
  · rintro ⟨f, hf, h1, h2⟩
    unfold fltO fltN at *
    rcases mem_checkL.1 hf with ⟨k', hk', hn, rfl⟩ | ⟨i, hi, hn, rfl⟩
    · have := kindH_cases l.length (rawE l) k'
      rw [if_neg (by simp only; omega)] at h1 h2
      rw [if_neg (by simp only; omega)] at h2
      simp only at h1 h2
      obtain rfl : k' = k := by omega
      exact hn
    · have := kindR_cases (leadsE l.length (rawE l)) (rawR l) i
      rw [if_pos (by simp only; omega)] at h1 h2
      simp only at h1; omega
  · intro hn
    refine ⟨_, mem_checkL.2 (.inl ⟨k, hk, hn, rfl⟩), ?_⟩
    have := kindH_cases l.length (rawE l) k
    unfold fltO fltN
    rw [if_neg (by simp only; omega), if_neg (by simp only; omega)]
    simp only; omega
theorem cleared_r {l : Bytes} {i q : Nat} (hi : i < 8) (hq : q < 11) : Cleared (checkL l) (200 + 11 * i + q) ↔ ¬ (kindR (leadsE l.length (rawE l)) (rawR l) i = 0 ∨ kindR (leadsE l.length (rawE l)) (rawR l) i = 6) := by
  constructor
  · rintro ⟨f, hf, h1, h2⟩
    unfold fltO fltN at *
    rcases mem_checkL.1 hf with ⟨k', hk', hn, rfl⟩ | ⟨i', hi', hn, rfl⟩
    · have := kindH_cases l.length (rawE l) k'
      rw [if_neg (by simp only; omega)] at h1 h2
      rw [if_neg (by simp only; omega)] at h2
      simp only at h1 h2
      omega
    · have := kindR_cases (leadsE l.length (rawE l)) (rawR l) i'
      rw [if_pos (by simp only; omega)] at h1 h2
      rw [if_pos (by simp only; omega)] at h2
      simp only at h1 h2
      obtain rfl : i' = i := by omega
      exact hn
  · intro hn
    refine ⟨_, mem_checkL.2 (.inr ⟨i, hi, hn, rfl⟩), ?_⟩
    have := kindR_cases (leadsE l.length (rawE l)) (rawR l) i
    unfold fltO fltN
    rw [if_pos (by simp only; omega), if_pos (by simp only; omega)]
    simp only; omega
theorem mend_rawE {l : Bytes} (hl : 288 ≤ l.length) (k : Nat) (hk : k < 40) : rawE (mendL l) k = if kindH l.length (rawE l) k = 0 ∨ kindH l.length (rawE l) k = 6 then rawE l k else List.replicate 5 0 := by
  have hin : ∀ f ∈ checkL l, FltIn l.length f := fun _ hf => flt_in hl hf
  apply List.ext_getElem?
  intro q
  unfold rawE
  rw [List.getElem?_take, List.getElem?_drop]
  by_cases hq : q < 5
  · rw [if_pos hq]
    by_cases hc : kindH l.length (rawE l) k = 0 ∨ kindH l.length (rawE l) k = 6
    · have := clearAll_out (checkL l) (5 * k + q) (fun h => (cleared_h hk hq).1 h hc) l hin
      show (clearAll l (checkL l))[5 * k + q]? = _
      unfold rawE at *
      rw [this, if_pos hc, List.getElem?_take, if_pos hq, List.getElem?_drop]
    · have := clearAll_in (checkL l) (5 * k + q) ((cleared_h hk hq).2 hc) l hin
      show (clearAll l (checkL l))[5 * k + q]? = _
      unfold rawE at *
      rw [this, if_neg hc, List.getElem?_replicate, if_pos hq]
  · rw [if_neg hq]
    split
    · rw [List.getElem?_take, if_neg hq]
    · rw [List.getElem?_replicate, if_neg hq]
theorem mend_rawR {l : Bytes} (hl : 288 ≤ l.length) (i : Nat) (hi : i < 8) : rawR (mendL l) i = if kindR (leadsE l.length (rawE l)) (rawR l) i = 0 ∨ kindR (leadsE l.length (rawE l)) (rawR l) i = 6 then rawR l i else List.replicate 11 0 := by
  have hin : ∀ f ∈ checkL l, FltIn l.length f := fun _ hf => flt_in hl hf
  apply List.ext_getElem?
  intro q
  have hL : (rawR (mendL l) i)[q]? = if q < 11 then (clearAll l (checkL l))[200 + 11 * i + q]? else none := by
    unfold rawR mendL; rw [List.getElem?_take, List.getElem?_drop]
  have hR : (rawR l i)[q]? = if q < 11 then l[200 + 11 * i + q]? else none := by
    unfold rawR; rw [List.getElem?_take, List.getElem?_drop]
  rw [hL]
  by_cases hq : q < 11
  · rw [if_pos hq]
    by_cases hc : kindR (leadsE l.length (rawE l)) (rawR l) i = 0 ∨ kindR (leadsE l.length (rawE l)) (rawR l) i = 6
    · rw [clearAll_out (checkL l) (200 + 11 * i + q) (fun h => (cleared_r hi hq).1 h hc) l hin, if_pos hc, hR, if_pos hq]
    · rw [clearAll_in (checkL l) (200 + 11 * i + q) ((cleared_r hi hq).2 hc) l hin, if_neg hc, List.getElem?_replicate, if_pos hq]
  · rw [if_neg hq]
    split
    · rw [hR, if_neg hq]
    · rw [List.getElem?_replicate, if_neg hq]
theorem mend_kindH {l : Bytes} (hl : 288 ≤ l.length) (k : Nat) (hk : k < 40) : kindH (mendL l).length (rawE (mendL l)) k = if kindH l.length (rawE l) k = 6 then 6 else 0 := by
  rw [mendL_len hl]; exact kindH_after _ _ _ (fun k hk => mend_rawE hl k hk) k hk
theorem mend_leads {l : Bytes} (hl : 288 ≤ l.length) : leadsE (mendL l).length (rawE (mendL l)) = leadsE l.length (rawE l) := by
  rw [mendL_len hl]
  exact leadsE_after _ _ _ (fun k hk => by have := mend_kindH hl k hk; rwa [mendL_len hl] at this)
theorem mend_clean {l : Bytes} (hl : 288 ≤ l.length) : checkL (mendL l) = [] := by
  rw [List.eq_nil_iff_forall_not_mem]
  intro f hf
  rcases mem_checkL.1 hf with ⟨k, hk, hn, rfl⟩ | ⟨i, hi, hn, rfl⟩
  · apply hn
    rw [mend_kindH hl k hk]
    split <;> simp
  · apply hn
    rw [mend_leads hl, kindR_after _ _ _ (fun i hi => mend_rawR hl i hi) i hi]
    split <;> simp
theorem mend_id {l : Bytes} (h : checkL l = []) : mendL l = l := by unfold mendL; rw [h]; rfl
end Go.Proofs.YtbnobjlphmkgeaaGreatDoor
/- image.find and image.Get: an entry read back. -/
namespace Go.Proofs.YtbnobjlphmkgeaaGreatDoor
open Go.RowKit

theorem rawE_len (l : Bytes) (k : Nat) (hk : k < 40) (hn : 200 ≤ l.length) : (rawE l k).length = 5 := by
  unfold rawE; simp; omega
theorem rawE_rd {w : World} {A : Option Addr} {l : Bytes} (h : Rd w A l) (k : Nat) (hk : k < 40) (hn : 200 ≤ l.length) : Rd w (A.map (·.add (5 * k))) (rawE l k) := h.cut (5 * k) 5 (by omega)
/-- the handle's number -/
theorem entO_k (k : Nat) : entO ((k : Int) + 1) = 5 * k := by unfold entO; omega
/-- the entry that stands in five bytes -/
def entR (h : Int) (r : Bytes) : Value := entV h (rAt r) (rLen r) (rTag r)

set_option maxRecDepth 100000 in
theorem find_ok (A : Option Addr) (n c : Nat) (l : Bytes) (k : Nat) (w : World) (hn : l.length = n) (hl : 200 ≤ n) (hnc : n ≤ c) (hrd : Rd w A l) (hk : k < 40) :
    Calls Tryz.prog 145 #[.slice A n c, .int .i64 ((k : Int) + 1)] w fun e w' => e = .returned (.tuple #[entR ((k : Int) + 1) (rawE l k), .bool (hasE (rawE l k))]) ∧ Below w.heap.size w w' := by
  have hW : Below w.heap.size w (w.alloc (.cells #[.int .i64 0, .int .i64 0, .int .i64 0, .int .i64 0] 66)) := (Below.refl _ _).alloc (Nat.le_refl _) _
  have hR := rawE_rd (hrd.below hW) k hk (by omega)
  have hRl := rawE_len l k hk (by omega)
  obtain ⟨p, off, rfl, hpl⟩ := hrd.lt (by omega)
  rw [Option.map_some, Addr.add_lit] at hR
  have hP := entO_k k
  go_enter Tryz.func145, Tryz.ntmps145
  go_wp2_with fail
  refine (raw_any _ _ _ ((k : Int) + 1) _ (by omega) (by omega) hl hnc).mono ?_
  rintro e w' ⟨rfl, rfl⟩
  rw [Option.map_some, Addr.add_lit, hP]
  generalize hrr : rawE l k = r at *
  have h0 := hR.at_ 0 (by omega)
  have hR1 := hR.cut 1 2 (by omega)
  have hR3 := hR.cut 3 2 (by omega)
  rw [Option.map_some, Addr.add_lit] at hR1 hR3
  rw [Nat.add_zero] at h0
  have hw0 : IntKind.i64.wrap (((r[0]'(by omega)).toNat : Int)) = ((r[0]'(by omega)).toNat : Int) := IntWalk.i64_in _ (by have := u8_lt (r[0]'(by omega)); omega)
  have hw1 : IntKind.i64.wrap (((r[0]'(by omega)).toNat : Int) - 1) = ((r[0]'(by omega)).toNat : Int) - 1 := IntWalk.i64_in _ (by have := u8_lt (r[0]'(by omega)); omega)
  have hd1 : ((r.drop 1).take 2).length = 2 := by simp; omega
  have hd3 : ((r.drop 3).take 2).length = 2 := by simp; omega
  have H1 : Hidden (ofB ((r.drop 1).take 2) = rAt r) := ⟨rfl⟩
  have H3 : Hidden (ofB ((r.drop 3).take 2) = rLen r) := ⟨rfl⟩
  have HH : Hidden (r[0]'(by omega) = rHd r) := ⟨by unfold rHd; cases r with | nil => simp at hRl | cons x y => rfl⟩
  have c1 := fun (cap : Nat) (W : World) (hb : Below (w.heap.size + 1) (w.alloc (.cells #[.int .i64 0, .int .i64 0, .int .i64 0, .int .i64 0] 66)) W) => of_any (some ⟨p, off + 5 * k + 1, none⟩) 2 cap ((r.drop 1).take 2) W hd1 (by omega) (hR1.below (by simpa using hb))
  have c3 := fun (cap : Nat) (W : World) (hb : Below (w.heap.size + 1) (w.alloc (.cells #[.int .i64 0, .int .i64 0, .int .i64 0, .int .i64 0] 66)) W) => of_any (some ⟨p, off + 5 * k + 3, none⟩) 2 cap ((r.drop 3).take 2) W hd3 (by omega) (hR3.below (by simpa using hb))
  have C1 := Hidden.mk c1
  have C3 := Hidden.mk c3
  clear c1 c3 hR hR1 hR3 hrd hW
  generalize r[0]'(by omega) = hd at *
  go_wp2_with fail
  have hq1 : ¬ c - 5 * k = 1 := by omega
  have hq3 : ¬ c - 5 * k = 3 := by omega
  have hq5 : 5 ≤ c - 5 * k := by omega
  have hq4 : 3 ≤ c - 5 * k := by omega
  have hS : Hidden (∀ W : World, Below (w.heap.size) (w.alloc (.cells #[.int .i64 0, .int .i64 0, .int .i64 0, .int .i64 0] 66)) W → W.cell? ⟨p, off + 5 * k, none⟩ = some (bv hd)) := ⟨fun W hb => (hb.cell (p := ⟨p, off + 5 * k, none⟩) hpl).trans h0⟩
  have hsl1 := run_cut p (off + 5 * k) 5 (c - 5 * k) 1 3 (by omega) (by omega) (by omega)
  have hsl3 := run_cut p (off + 5 * k) 5 (c - 5 * k) 3 5 (by omega) (by omega) (by omega)
  simp only [Nat.reduceSub, Int.cast_ofNat_Int] at hsl1 hsl3
  have hw : w.cell? ⟨p, off + 5 * k, none⟩ = some (bv hd) := (World.cell?_alloc_lt w _ ⟨p, off + 5 * k, none⟩ hpl).symm.trans h0
  have HRR := Hidden.mk hrr
  clear hn hl hnc hk hP hrr hRl hd1 hd3
  go_region_held3 (fun W => W.cell? ⟨p, off + 5 * k, none⟩ = some (bv hd)) (first | exact hS.out _ (Below.refl _ _).drew | exact h0 | exact (World.cell?_alloc_lt _ _ _ hpl).trans hw)
    (first
      | (go_at_call 181; refine (C1.out _ _ ((Below.refl _ _).drew)).mono ?_; clear C1; rintro e w' ⟨rfl, rfl⟩)
      | (go_at_call 181; refine (C3.out _ _ ((Below.refl _ _).drew)).mono ?_; clear C3; rintro e w' ⟨rfl, rfl⟩))
  go_wp2_with fail
  refine bodyPost_ret (v := .tuple #[.agg #[.int .i64 ((k : Int) + 1), .int .i64 (ofB (List.take 2 (List.tail r))), .int .i64 (ofB (List.take 2 (List.drop 3 r))), .int .i64 ((hd.toNat : Int) - 1)], .bool ((hd.toNat : Int) != 0)]) ?_ rfl ?_
  · simp [results, Tryz.f145, go_sem]
  · refine ⟨?_, ((Below.refl _ _).alloc (Nat.le_refl _) _).drew⟩
    have h1 := H1.out
    have h3 := H3.out
    rw [List.drop_one] at h1
    rw [h1, h3, HRR.out]
    unfold entR entV hasE rTag
    rw [← HH.out, bv_bne]
    rfl
set_option maxRecDepth 100000 in
theorem iget_ok (A : Option Addr) (n c : Nat) (l : Bytes) (k : Nat) (w : World) (hn : l.length = n) (hr : rightB n = true) (hnc : n ≤ c) (hrd : Rd w A l) (hk : k < 40) :
    Calls Tryz.prog 66 #[.slice A n c, .int .i64 ((k : Int) + 1)] w fun e w' => (hasE (rawE l k) = true → e = .returned (.tuple #[entR ((k : Int) + 1) (rawE l k), .nilIface])) ∧ (hasE (rawE l k) = false → e = .returned (.tuple #[entV 0 0 0 0, .iface 111 (.int .i64 5)])) ∧ Below w.heap.size w w' := by
  have hnb := rightB_true.1 hr
  have hh : handleB ((k : Int) + 1) = true := handleB_true.2 (by omega)
  have hW : Below w.heap.size w (w.alloc (.cells #[.int .i64 0, .int .i64 0, .int .i64 0, .int .i64 0] 66)) := (Below.refl _ _).alloc (Nat.le_refl _) _
  have hrd1 := hrd.below hW
  go_enter Tryz.func66, Tryz.ntmps66
  go_wp2_with fail
  refine (check_ok A n c ((k : Int) + 1) _ hr hh).mono ?_
  rintro e w1 ⟨rfl, rfl⟩
  go_wp2_with fail
  refine (find_ok A n c l k _ hn (by omega) hnc hrd1 hk).mono ?_
  rintro e w2 ⟨rfl, hb2⟩
  have hB2 : Below w.heap.size w w2 := hW.trans (hb2.mono hW.size)
  have hc0 : w2.heap[w.heap.size]? = some (.cells #[.int .i64 0, .int .i64 0, .int .i64 0, .int .i64 0] 66 (0, 0)) := (hb2.block w.heap.size (by simp)).trans (heap_alloc_new w _)
  have d0 : w2.cell? ⟨w.heap.size, 0, none⟩ = some (.int .i64 0) := by simp [World.cell?, hc0]
  have d1 : w2.cell? ⟨w.heap.size, 1, none⟩ = some (.int .i64 0) := by simp [World.cell?, hc0]
  have d2 : w2.cell? ⟨w.heap.size, 2, none⟩ = some (.int .i64 0) := by simp [World.cell?, hc0]
  have d3 : w2.cell? ⟨w.heap.size, 3, none⟩ = some (.int .i64 0) := by simp [World.cell?, hc0]
  have f0 : ∀ q, w2.frozen? ⟨w.heap.size, q, none⟩ = false := fun q => by simp [World.frozen?, hc0]
  have f00 := f0 0
  have f01 := f0 1
  have f02 := f0 2
  have f03 := f0 3
  have hlt2 : w.heap.size < w2.heap.size := (Array.getElem?_eq_some_iff.1 hc0).1
  have hne2 : w2.heap.size ≠ w.heap.size := by omega
  have hne3 : w.heap.size ≠ w2.heap.size := by omega
  unfold entR
  cases hE : hasE (rawE l k) with
  | true =>
    generalize ha1 : rAt (rawE l k) = a1 at *
    generalize ha2 : rLen (rawE l k) = a2 at *
    generalize ha3 : rTag (rawE l k) = a3 at *
    have HA := Hidden.mk (And.intro ha1 (And.intro ha2 ha3))
    have HE := Hidden.mk hE
    clear ha1 ha2 ha3 hE
    go_wp2_with fail
    refine bodyPost_ret (v := .tuple #[entV ((k : Int) + 1) a1 a2 a3, .nilIface]) ?_ rfl ?_
    · rw [results_cell_tmp rfl]
      go_simp
    · refine ⟨fun _ => ?_, fun h => ?_, ?_⟩
      · obtain ⟨h1, h2, h3⟩ := HA.out
        rw [entR, h1, h2, h3]
      · rw [HE.out] at h; cases h
      · exact ((((hB2.setCell (p := ⟨w.heap.size, 0, none⟩) (Nat.le_refl _) _).setCell (p := ⟨w.heap.size, 1, none⟩) (Nat.le_refl _) _).setCell (p := ⟨w.heap.size, 2, none⟩) (Nat.le_refl _) _).setCell (p := ⟨w.heap.size, 3, none⟩) (Nat.le_refl _) _).alloc (by simp; omega) _
  | false =>
    have HE := Hidden.mk hE
    clear hE
    go_wp2_with fail
    refine bodyPost_ret (v := .tuple #[entV 0 0 0 0, .iface 111 (.int .i64 5)]) ?_ rfl ?_
    · rw [results_cell_tmp rfl]
      go_simp
    · refine ⟨fun h => ?_, fun _ => rfl, ?_⟩
      · rw [HE.out] at h; cases h
      · exact ((((hB2.setCell (p := ⟨w.heap.size, 0, none⟩) (Nat.le_refl _) _).setCell (p := ⟨w.heap.size, 1, none⟩) (Nat.le_refl _) _).setCell (p := ⟨w.heap.size, 2, none⟩) (Nat.le_refl _) _).setCell (p := ⟨w.heap.size, 3, none⟩) (Nat.le_refl _) _).alloc (by simp; omega) _
end Go.Proofs.YtbnobjlphmkgeaaGreatDoor
/- The contracts of check.stray, check.over and image.Zero. -/
namespace Go.Proofs.YtbnobjlphmkgeaaGreatDoor
open Go.RowKit

theorem stray_any (A : Option Addr) (n c : Nat) (h at_ len tag : Int) (w : World) (hn : n ≤ 6400) (_ha : 0 ≤ at_) (hl : 0 ≤ len) (hl2 : len ≤ 65535) :
    Calls Tryz.prog 167 #[.slice A n c, entV h at_ len tag] w fun e w' => e = .returned (.bool (!(tagB tag && lenB len && withinB n at_ len))) ∧ Below w.heap.size w w' := by
  have hW : Below w.heap.size w (w.alloc (.cells #[.int .i64 h, .int .i64 at_, .int .i64 len, .int .i64 tag] 66)) := (Below.refl _ _).alloc (Nat.le_refl _) _
  cases ht : tagB tag with
  | false =>
    go_enter Tryz.func167, Tryz.ntmps167
    go_wp2_with fail
    refine (tag_any tag _).mono ?_
    rintro e w1 ⟨rfl, rfl⟩
    rw [ht]
    go_wp2_with fail
    go_ret
    exact ⟨rfl, hW⟩
  | true =>
    cases hlb : lenB len with
    | false =>
      go_enter Tryz.func167, Tryz.ntmps167
      go_wp2_with fail
      refine (tag_any tag _).mono ?_
      rintro e w1 ⟨rfl, rfl⟩
      rw [ht]
      go_wp2_with fail
      refine (len_any len _).mono ?_
      rintro e w1 ⟨rfl, rfl⟩
      rw [hlb]
      go_wp2_with fail
      go_ret
      exact ⟨rfl, hW⟩
    | true =>
      go_enter Tryz.func167, Tryz.ntmps167
      go_wp2_with fail
      refine (tag_any tag _).mono ?_
      rintro e w1 ⟨rfl, rfl⟩
      rw [ht]
      go_wp2_with fail
      refine (len_any len _).mono ?_
      rintro e w1 ⟨rfl, rfl⟩
      rw [hlb]
      go_wp2_with fail
      refine (within_any n at_ len _ (by omega) (by omega) hl (by omega)).mono ?_
      rintro e w1 ⟨rfl, hb1⟩
      have hB := hW.trans (hb1.mono hW.size)
      clear hb1 hW
      cases hq : withinB n at_ len with
      | true =>
        go_wp2_with fail
        go_ret
        exact ⟨by rw [hq]; rfl, hB⟩
      | false =>
        go_wp2_with fail
        go_ret
        exact ⟨by rw [hq]; rfl, hB⟩
/-- do two stretches of bytes share one? -/
def overB (a al b bl : Int) : Bool := decide (a < b + bl) && decide (b < a + al)
theorem over_any (a al b bl : Int) (w : World) (h1 : 0 ≤ a) (h2 : a ≤ 100000) (h3 : 0 ≤ al) (h4 : al ≤ 100000) (h5 : 0 ≤ b) (h6 : b ≤ 100000) (h7 : 0 ≤ bl) (h8 : bl ≤ 100000) :
    Calls Tryz.prog 170 #[.agg #[.int .i64 a, .int .i64 al], .agg #[.int .i64 b, .int .i64 bl]] w fun e w' => e = .returned (.bool (overB a al b bl)) ∧ Below w.heap.size w w' := by
  have hW := ((Below.refl w.heap.size w).alloc (Nat.le_refl _) (.cells #[.int .i64 a, .int .i64 al] 64)).alloc (by simp) (.cells #[.int .i64 b, .int .i64 bl] 64)
  have s1 : IntKind.i64.wrap (b + bl) = b + bl := IntWalk.i64_in _ (by omega)
  have s2 : IntKind.i64.wrap (a + al) = a + al := IntWalk.i64_in _ (by omega)
  unfold overB
  by_cases hc : a < b + bl
  · go_enter Tryz.func170, Tryz.ntmps170
    go_wp2_with fail
    go_ret
    exact ⟨by simp [hc], hW⟩
  · go_enter Tryz.func170, Tryz.ntmps170
    go_wp2_with fail
    go_ret
    exact ⟨by simp; omega, hW⟩
theorem pred_izero : Pred 193 nonZero := by
  intro x w
  have hb := Hidden.mk (bv_bne x)
  go_enter Tryz.func193, Tryz.ntmps193
  go_wp2
  go_ret
  exact ⟨ret_bool hb.out, rfl⟩
theorem idxf_izero (A : Option Addr) (n c : Nat) (l : Bytes) (w : World) (hn : l.length = n) (hl : n ≤ maxLen) (hr : Rd w A l) :
    Calls Tryz.prog 220 #[.slice A n c, .func (.func 193) #[] #[]] w fun e w' => e = .returned (.int .i64 (idxP nonZero l)) ∧ w = w' := by
  subst hn
  unfold maxLen at hl
  have HP := Hidden.mk pred_izero
  generalize nonZero = p at HP ⊢
  go_enter Tryz.func220, Tryz.ntmps220
  go_wp2
  go_loopw [8] (fun i wr => w = wr ∧ ∃ k : Nat, k ≤ l.length ∧ i = .int .i64 k ∧ Hidden (∀ x ∈ l.take k, p x = false)) (fun i _ => l.length - (intOf i).toNat)
  case atStart => exact ⟨rfl, 0, Nat.zero_le _, rfl, ⟨by simp⟩⟩
  case round =>
    obtain ⟨rfl, k, hk, rfl, hnot⟩ := hrel
    by_cases hlt : k < l.length
    · obtain ⟨b, off, rfl, hc⟩ := hr k hlt
      go_wp2_with fail
      refine (HP.out _ _).mono ?_
      rintro e w1 ⟨rfl, rfl⟩
      cases he : p l[k] with
      | true =>
        have hi : Hidden (idxP p l = k) := ⟨idxP_at p l k hlt hnot.out he⟩
        clear he
        go_wp2
        go_ret
        exact ⟨ret_i64 hi.out.symm, rfl⟩
      | false =>
        have hnk : Hidden (∀ x ∈ l.take (k + 1), p x = false) := ⟨forall_take_succ hlt hnot.out he⟩
        clear he hnot
        go_wp2
        go_roundw
        case rel => exact ⟨by trivial, k + 1, by omega, by go_num, hnk⟩
        case measure => simp [intOf]; omega
    · have hi : Hidden (idxP p l = -1) := ⟨idxP_none p l (by have := hnot.out; rwa [List.take_of_length_le (by omega)] at this)⟩
      go_wp2
      go_ret
      exact ⟨ret_i64 hi.out.symm, rfl⟩
theorem izero_any (A : Option Addr) (n c : Nat) (l : Bytes) (w : World) (hn : l.length = n) (hl : n ≤ maxLen) (hr : Rd w A l) :
    Calls Tryz.prog 152 #[.slice A n c] w fun e w' => e = .returned (.bool (zeroE l)) ∧ w = w' := by
  have hv := Hidden.mk (idxP_any nonZero l)
  have hcf : Calls Tryz.prog 191 #[.slice A n c, .func (.func 193) #[] #[]] w fun e w' => e = .returned (.bool (l.any nonZero)) ∧ w = w' := by
    go_enter Tryz.func191, Tryz.ntmps191
    go_wp2_with fail
    refine (idxf_izero A n c l _ hn hl hr).mono ?_
    rintro e w1 ⟨rfl, rfl⟩
    go_wp2
    go_ret
    exact ⟨congrArg (fun b => Ending.returned (.bool b)) hv.out, rfl⟩
  have HC := Hidden.mk hcf
  clear hcf
  unfold zeroE
  go_enter Tryz.func152, Tryz.ntmps152
  go_wp2_with fail
  refine HC.out.mono ?_
  rintro e w1 ⟨rfl, rfl⟩
  go_wp2_with fail
  go_ret
  exact ⟨rfl, rfl⟩

theorem forall_take_succ' {α : Type} {l : List α} {k : Nat} {p : α → Bool} (hk : k < l.length) (h : ∀ x ∈ l.take k, p x = false) (hp : p l[k] = false) : ∀ x ∈ l.take (k + 1), p x = false := by
  intro x hx
  rw [List.take_succ_eq_append_getElem hk, List.mem_append, List.mem_singleton] at hx
  rcases hx with hx | rfl
  · exact h x hx
  · exact hp
/-- the slice at A has the entries L: the handle, the bytes -/
def RdEs (w : World) (A : Option Addr) (L : List (Int × Bytes)) : Prop := ∀ i (h : i < L.length), ∃ g off, A = some ⟨g, off, none⟩ ∧ w.cell? ⟨g, off + i * 4, none⟩ = some (.int .i64 L[i].1) ∧ w.cell? ⟨g, off + i * 4 + 1, none⟩ = some (.int .i64 (rAt L[i].2)) ∧
  w.cell? ⟨g, off + i * 4 + 2, none⟩ = some (.int .i64 (rLen L[i].2)) ∧ w.cell? ⟨g, off + i * 4 + 3, none⟩ = some (.int .i64 (rTag L[i].2))
theorem RdEs.below {w w' : World} {A : Option Addr} {L : List (Int × Bytes)} (h : RdEs w A L) (hb : Below w.heap.size w w') : RdEs w' A L := fun i hi => by
  obtain ⟨g, off, hA, c0, c1, c2, c3⟩ := h i hi
  exact ⟨g, off, hA, (hb.cell (block_lt_of_cell c0)).trans c0, (hb.cell (block_lt_of_cell c1)).trans c1, (hb.cell (block_lt_of_cell c2)).trans c2, (hb.cell (block_lt_of_cell c3)).trans c3⟩
theorem idxe_over (p : Int × Bytes → Bool) (A : Option Addr) (n c : Nat) (L : List (Int × Bytes)) (cap : Value) (w : World) (hn : L.length = n) (hl : n ≤ 1000) (hr : RdEs w A L)
    (hP : ∀ x ∈ L, ∀ W, Below w.heap.size w W → Calls Tryz.prog 169 #[entR x.1 x.2, cap] W fun e w' => e = .returned (.bool (p x)) ∧ Below W.heap.size W w') :
    Calls Tryz.prog 210 #[.slice A n c, .func (.func 169) #[] #[cap]] w fun e w' => ∃ z : Int, e = .returned (.int .i64 z) ∧ decide (0 ≤ z) = L.any p ∧ Below w.heap.size w w' := by
  subst hn
  have HP := Hidden.mk hP
  clear hP
  go_enter Tryz.func210, Tryz.ntmps210
  go_wp2_with fail
  go_loopw [8] (fun i wr => Below w.heap.size w wr ∧ ∃ k : Nat, k ≤ L.length ∧ i = .int .i64 k ∧ Hidden (∀ x ∈ L.take k, p x = false)) (fun i _ => L.length - (intOf i).toNat)
  case atStart => exact ⟨Below.refl _ _, 0, Nat.zero_le _, rfl, ⟨by simp⟩⟩
  case round =>
    obtain ⟨hbel, k, hk, rfl, hnot⟩ := hrel
    by_cases hlt : k < L.length
    · obtain ⟨b, off, rfl, c0, c1, c2, c3⟩ := (hr.below hbel) k hlt
      have hp := HP.out L[k] (List.getElem_mem hlt) wr hbel
      have HPK := Hidden.mk hp
      have HE : Hidden (entR L[k].1 L[k].2 = entV L[k].1 (rAt L[k].2) (rLen L[k].2) (rTag L[k].2)) := ⟨rfl⟩
      have i0 : (0 : Int) ≤ k := by omega
      have i1 : (k : Int) < L.length := by omega
      clear hp
      go_wp2_with fail
      refine (HPK.out).mono ?_
      rintro e w1 ⟨rfl, hb1⟩
      have hB1 := hbel.trans (hb1.mono hbel.size)
      cases he : p L[k] with
      | true =>
        have hi : Hidden (true = L.any p) := ⟨(List.any_eq_true.2 ⟨L[k], List.getElem_mem hlt, he⟩).symm⟩
        clear he hb1 hbel
        go_wp2_with fail
        go_ret
        exact ⟨_, rfl, by rw [← hi.out]; simp, hB1⟩
      | false =>
        have hnk : Hidden (∀ x ∈ L.take (k + 1), p x = false) := ⟨forall_take_succ' hlt hnot.out he⟩
        clear he hnot hb1 hbel
        go_wp2_with fail
        go_roundw
        case rel => exact ⟨hB1, k + 1, by omega, by go_num, hnk⟩
        case measure => simp [intOf]; omega
    · have hi : Hidden (false = L.any p) := ⟨by
        have := hnot.out
        rw [List.take_of_length_le (by omega)] at this
        symm; simpa using this⟩
      go_wp2_with fail
      go_ret
      exact ⟨-1, rfl, by rw [← hi.out]; rfl, hbel⟩
theorem cfe_over (p : Int × Bytes → Bool) (A : Option Addr) (n c : Nat) (L : List (Int × Bytes)) (cap : Value) (w : World) (hn : L.length = n) (hl : n ≤ 1000) (hr : RdEs w A L)
    (hP : ∀ x ∈ L, ∀ W, Below w.heap.size w W → Calls Tryz.prog 169 #[entR x.1 x.2, cap] W fun e w' => e = .returned (.bool (p x)) ∧ Below W.heap.size W w') :
    Calls Tryz.prog 168 #[.slice A n c, .func (.func 169) #[] #[cap]] w fun e w' => e = .returned (.bool (L.any p)) ∧ Below w.heap.size w w' := by
  have HC := Hidden.mk (idxe_over p A n c L cap w hn hl hr hP)
  clear hP
  go_enter Tryz.func168, Tryz.ntmps168
  go_wp2_with fail
  refine HC.out.mono ?_
  rintro e w1 ⟨z, rfl, hz, hb⟩
  have HZ := Hidden.mk hz
  clear hz
  go_wp2_with fail
  go_ret
  exact ⟨congrArg (fun b => Ending.returned (.bool b)) HZ.out, hb⟩
theorem idxe_leads (p : Int × Bytes → Bool) (A : Option Addr) (n c : Nat) (L : List (Int × Bytes)) (cap : Value) (w : World) (hn : L.length = n) (hl : n ≤ 1000) (hr : RdEs w A L)
    (hP : ∀ x ∈ L, ∀ W, Below w.heap.size w W → Calls Tryz.prog 171 #[entR x.1 x.2, cap] W fun e w' => e = .returned (.bool (p x)) ∧ Below W.heap.size W w') :
    Calls Tryz.prog 210 #[.slice A n c, .func (.func 171) #[] #[cap]] w fun e w' => ∃ z : Int, e = .returned (.int .i64 z) ∧ decide (0 ≤ z) = L.any p ∧ Below w.heap.size w w' := by
  subst hn
  have HP := Hidden.mk hP
  clear hP
  go_enter Tryz.func210, Tryz.ntmps210
  go_wp2_with fail
  go_loopw [8] (fun i wr => Below w.heap.size w wr ∧ ∃ k : Nat, k ≤ L.length ∧ i = .int .i64 k ∧ Hidden (∀ x ∈ L.take k, p x = false)) (fun i _ => L.length - (intOf i).toNat)
  case atStart => exact ⟨Below.refl _ _, 0, Nat.zero_le _, rfl, ⟨by simp⟩⟩
  case round =>
    obtain ⟨hbel, k, hk, rfl, hnot⟩ := hrel
    by_cases hlt : k < L.length
    · obtain ⟨b, off, rfl, c0, c1, c2, c3⟩ := (hr.below hbel) k hlt
      have hp := HP.out L[k] (List.getElem_mem hlt) wr hbel
      have HPK := Hidden.mk hp
      have HE : Hidden (entR L[k].1 L[k].2 = entV L[k].1 (rAt L[k].2) (rLen L[k].2) (rTag L[k].2)) := ⟨rfl⟩
      have i0 : (0 : Int) ≤ k := by omega
      have i1 : (k : Int) < L.length := by omega
      clear hp
      go_wp2_with fail
      refine (HPK.out).mono ?_
      rintro e w1 ⟨rfl, hb1⟩
      have hB1 := hbel.trans (hb1.mono hbel.size)
      cases he : p L[k] with
      | true =>
        have hi : Hidden (true = L.any p) := ⟨(List.any_eq_true.2 ⟨L[k], List.getElem_mem hlt, he⟩).symm⟩
        clear he hb1 hbel
        go_wp2_with fail
        go_ret
        exact ⟨_, rfl, by rw [← hi.out]; simp, hB1⟩
      | false =>
        have hnk : Hidden (∀ x ∈ L.take (k + 1), p x = false) := ⟨forall_take_succ' hlt hnot.out he⟩
        clear he hnot hb1 hbel
        go_wp2_with fail
        go_roundw
        case rel => exact ⟨hB1, k + 1, by omega, by go_num, hnk⟩
        case measure => simp [intOf]; omega
    · have hi : Hidden (false = L.any p) := ⟨by
        have := hnot.out
        rw [List.take_of_length_le (by omega)] at this
        symm; simpa using this⟩
      go_wp2_with fail
      go_ret
      exact ⟨-1, rfl, by rw [← hi.out]; rfl, hbel⟩
theorem cfe_leads (p : Int × Bytes → Bool) (A : Option Addr) (n c : Nat) (L : List (Int × Bytes)) (cap : Value) (w : World) (hn : L.length = n) (hl : n ≤ 1000) (hr : RdEs w A L)
    (hP : ∀ x ∈ L, ∀ W, Below w.heap.size w W → Calls Tryz.prog 171 #[entR x.1 x.2, cap] W fun e w' => e = .returned (.bool (p x)) ∧ Below W.heap.size W w') :
    Calls Tryz.prog 168 #[.slice A n c, .func (.func 171) #[] #[cap]] w fun e w' => e = .returned (.bool (L.any p)) ∧ Below w.heap.size w w' := by
  have HC := Hidden.mk (idxe_leads p A n c L cap w hn hl hr hP)
  clear hP
  go_enter Tryz.func168, Tryz.ntmps168
  go_wp2_with fail
  refine HC.out.mono ?_
  rintro e w1 ⟨z, rfl, hz, hb⟩
  have HZ := Hidden.mk hz
  clear hz
  go_wp2_with fail
  go_ret
  exact ⟨congrArg (fun b => Ending.returned (.bool b)) HZ.out, hb⟩
end Go.Proofs.YtbnobjlphmkgeaaGreatDoor
/- The contract of check.handles. -/
namespace Go.Proofs.YtbnobjlphmkgeaaGreatDoor
open Go.RowKit

def entsL (p : Nat → Bool) (R : Nat → Bytes) (m : Nat) : List (Int × Bytes) := ((List.range m).filter p).map fun (k : Nat) => (((k : Int) + 1), R k)
def rightL (n : Nat) (R : Nat → Bytes) (m : Nat) : List (Int × Bytes) := entsL (fun k => kindH n R k == 6) R m
def wholeL (n : Nat) (R : Nat → Bytes) (m : Nat) : List (Int × Bytes) := entsL (fun k => wholeE n (R k)) R m
theorem entsL_succ (p : Nat → Bool) (R : Nat → Bytes) (m : Nat) : entsL p R (m + 1) = entsL p R m ++ (if p m = true then [(((m : Int) + 1), R m)] else []) := by
  unfold entsL
  rw [List.range_succ, List.filter_append, List.map_append]
  congr 1
  cases h : p m <;> simp [h]
theorem entsL_len (p : Nat → Bool) (R : Nat → Bytes) (m : Nat) : (entsL p R m).length ≤ m := by
  unfold entsL
  rw [List.length_map]
  have := List.length_filter_le p (List.range m)
  rwa [List.length_range] at this
theorem wholeL_any (n : Nat) (R : Nat → Bytes) (m : Nat) (r : Bytes) : (wholeL n R m).any (fun x => overE r x.2) = (List.range m).any fun j => wholeE n (R j) && overE r (R j) := by
  unfold wholeL entsL
  rw [List.any_map, List.any_filter]
  rfl
def ecells (x : Int × Bytes) : List Value := [.int .i64 x.1, .int .i64 (rAt x.2), .int .i64 (rLen x.2), .int .i64 (rTag x.2)]
def fcells (f : Flt) : List Value := [.int .i64 f.what, .int .i64 f.which]
theorem ecells_at (L : List (Int × Bytes)) (q : Nat) (hq : q < 4) : ∀ i (h : i < L.length), (L.flatMap ecells)[i * 4 + q]? = (ecells L[i])[q]? := by
  induction L with
  | nil => intro i h; simp at h
  | cons x L ih =>
    intro i h
    rw [List.flatMap_cons]
    have hl : (ecells x).length = 4 := rfl
    cases i with
    | zero => rw [List.getElem?_append_left (by omega)]; simp
    | succ i =>
      rw [List.getElem?_append_right (by omega), hl, show (i + 1) * 4 + q - 4 = i * 4 + q from by omega, ih i (by simpa using h)]
      simp
theorem own_rdEs {w : World} {base : Nat} {v : Value} {L : List (Int × Bytes)} (h : w.ownsRow base 66 4 v L.length (L.flatMap ecells)) : ∃ A c, v = .slice A L.length c ∧ L.length ≤ c ∧ RdEs w A L := by
  rcases h.2 with ⟨rfl, h0⟩ | ⟨g, cap, cur, rfl, _, hh, hc, hm, hz, ht⟩
  · exact ⟨none, 0, by rw [h0], by omega, fun i hi => by omega⟩
  · refine ⟨_, cap, rfl, hc, fun i hi => ?_⟩
    have hcell : ∀ q u, q < 4 → (ecells L[i])[q]? = some u → w.cell? ⟨g, 0 + (i * 4 + q), none⟩ = some u := fun q u hq hu => by
      have := h.cells (g := g) rfl (i * 4 + q) u (by rw [ecells_at L q hq i hi]; exact hu)
      rw [Addr.add_lit] at this
      exact this
    refine ⟨g, 0, rfl, ?_, ?_, ?_, ?_⟩
    · exact hcell 0 _ (by omega) rfl
    · exact (Nat.add_assoc 0 (i * 4) 1) ▸ hcell 1 _ (by omega) rfl
    · exact (Nat.add_assoc 0 (i * 4) 2) ▸ hcell 2 _ (by omega) rfl
    · exact (Nat.add_assoc 0 (i * 4) 3) ▸ hcell 3 _ (by omega) rfl
theorem own_apart {w : World} {base e e' size size' n n' : Nat} {v v' : Value} {xs xs' : List Value} (h : w.ownsRow base e size v n xs) (h' : w.ownsRow base e' size' v' n' xs') (hne : e ≠ e') : v.ownBlock = none ∨ v.ownBlock ≠ v'.ownBlock := by
  rcases h.2 with ⟨rfl, _⟩ | ⟨g, cap, cur, rfl, _, hh, _⟩
  · exact .inl rfl
  · right
    intro he
    rcases h'.2 with ⟨rfl, _⟩ | ⟨g', cap', cur', rfl, _, hh', _⟩
    · simp [Value.ownBlock] at he
    · obtain rfl : g = g' := by simpa [Value.ownBlock] using he
      rw [hh] at hh'
      injection hh' with hh'
      injection hh' with _ ht
      exact hne ht
/-- three slices of the call's own: faults, right ones, whole ones -/
structure HSt (w : World) (base : Nat) (vf vr vw : Value) (F : List Flt) (R W : List (Int × Bytes)) : Prop where
  f : w.ownsRow base 200 2 vf F.length (F.flatMap fcells)
  r : w.ownsRow base 66 4 vr R.length (R.flatMap ecells)
  o : w.ownsRow base 66 4 vw W.length (W.flatMap ecells)
  ne : ∀ b, vr.ownBlock = some b → vw.ownBlock ≠ some b
section
variable {w w' : World} {base : Nat} {vf vr vw vf' : Value} {F : List Flt} {R W : List (Int × Bytes)}
theorem HSt.below (h : HSt w base vf vr vw F R W) (hb : Below w.heap.size w w') : HSt w' base vf vr vw F R W := ⟨own_below h.f hb, own_below h.r hb, own_below h.o hb, h.ne⟩
theorem HSt.addF (h : HSt w base vf vr vw F R W) {x : Flt} (hg : w.grownBy w' vf.ownBlock) (h' : w'.ownsRow base 200 2 vf' (F.length + 1) (F.flatMap fcells ++ fcells x)) : HSt w' base vf' vr vw (F ++ [x]) R W :=
  ⟨by simpa using h', h.r.kept hg (own_apart h.r h.f (by decide)), h.o.kept hg (own_apart h.o h.f (by decide)), h.ne⟩
theorem HSt.addR (h : HSt w base vf vr vw F R W) {x : Int × Bytes} {g cap n : Nat} (hg : w.grownBy w' vr.ownBlock) (hn : n = R.length + 1) (h' : w'.ownsRow base 66 4 (.slice (some ⟨g, 0, none⟩) n cap) n (R.flatMap ecells ++ ecells x)) (hat : vr.ownBlock = some g ∨ w.heap.size ≤ g) :
    HSt w' base vf (.slice (some ⟨g, 0, none⟩) n cap) vw F (R ++ [x]) W := by
  subst hn
  refine ⟨h.f.kept hg (own_apart h.f h.r (by decide)), by simpa using h', h.o.kept hg ?_, fun b hb hw => ?_⟩
  · cases hv : vw.ownBlock with
    | none => exact .inl rfl
    | some b => exact .inr fun e => h.ne b e.symm hv
  · obtain rfl : g = b := by simpa [Value.ownBlock] using hb
    rcases hat with ha | ha
    · exact h.ne g ha hw
    · have := (h.o.lt _ hw).2; omega
theorem HSt.addW (h : HSt w base vf vr vw F R W) {x : Int × Bytes} {g cap n : Nat} (hg : w.grownBy w' vw.ownBlock) (hn : n = W.length + 1) (h' : w'.ownsRow base 66 4 (.slice (some ⟨g, 0, none⟩) n cap) n (W.flatMap ecells ++ ecells x)) (hat : vw.ownBlock = some g ∨ w.heap.size ≤ g) :
    HSt w' base vf vr (.slice (some ⟨g, 0, none⟩) n cap) F R (W ++ [x]) := by
  subst hn
  refine ⟨h.f.kept hg (own_apart h.f h.o (by decide)), h.r.kept hg ?_, by simpa using h', fun b hb hw => ?_⟩
  · cases hv : vr.ownBlock with
    | none => exact .inl rfl
    | some b => exact .inr fun e => h.ne b hv e.symm
  · obtain rfl : g = b := by simpa [Value.ownBlock] using hw
    rcases hat with ha | ha
    · exact h.ne g hb ha
    · have := (h.r.lt _ hb).2; omega
end
theorem fault_info : (Tryz.prog.info? 200).map (fun i => (i.zero, i.size, i.bytes)) = some (some (.agg #[.int .i64 0, .int .i64 0]), 2, 16) := by kernel_rfl
theorem entry_info : (Tryz.prog.info? 66).map (fun i => (i.zero, i.size, i.bytes)) = some (some (.agg #[.int .i64 0, .int .i64 0, .int .i64 0, .int .i64 0]), 4, 32) := by kernel_rfl
theorem rAt_le (r : Bytes) : rAt r ≤ 65535 := by
  have h := ofB_lt ((r.drop 1).take 2)
  have h2 : 2 ^ (8 * ((r.drop 1).take 2).length) ≤ 2 ^ 16 := Nat.pow_le_pow_right (by omega) (by simp; omega)
  unfold rAt; omega
theorem rLen_le (r : Bytes) : rLen r ≤ 65535 := by
  have h := ofB_lt ((r.drop 3).take 2)
  have h2 : 2 ^ (8 * ((r.drop 3).take 2).length) ≤ 2 ^ 16 := Nat.pow_le_pow_right (by omega) (by simp; omega)
  unfold rLen; omega
theorem overE_eq (r s : Bytes) : overB (rAt r) (rLen r) (rAt s) (rLen s) = overE r s := by
  unfold overB overE
  congr 1 <;> (rw [decide_eq_decide]; omega)
/-- the closure of handles -/
theorem over1_any (r : Bytes) (Bx : Nat) (x : Int × Bytes) (W : World) (h1 : W.cell? ⟨Bx, 1, none⟩ = some (.int .i64 (rAt r))) (h2 : W.cell? ⟨Bx, 2, none⟩ = some (.int .i64 (rLen r))) :
    Calls Tryz.prog 169 #[entR x.1 x.2, .pointer (some ⟨Bx, 0, none⟩)] W fun e w' => e = .returned (.bool (overE r x.2)) ∧ Below W.heap.size W w' := by
  have hlt := block_lt_of_cell h1
  have hW : Below W.heap.size W (W.alloc (.cells #[.int .i64 x.1, .int .i64 (rAt x.2), .int .i64 (rLen x.2), .int .i64 (rTag x.2)] 66)) := (Below.refl _ _).alloc (Nat.le_refl _) _
  have b1 := rAt_le r
  have b2 := rLen_le r
  have b3 := rAt_le x.2
  have b4 := rLen_le x.2
  have HO := Hidden.mk (overE_eq r x.2)
  obtain ⟨xh, xr⟩ := x
  unfold entR
  dsimp only at *
  generalize rAt xr = c1 at *
  generalize rLen xr = c2 at *
  generalize rTag xr = c3 at *
  generalize rAt r = d1 at *
  generalize rLen r = d2 at *
  go_enter Tryz.func169, Tryz.ntmps169
  go_wp2_with fail
  refine (over_any d1 d2 c1 c2 _ (by omega) (by omega) (by omega) (by omega) (by omega) (by omega) (by omega) (by omega)).mono ?_
  rintro e w' ⟨rfl, hb⟩
  have hB := hW.trans (hb.mono hW.size)
  rw [HO.out]
  go_wp2_with fail
  go_ret
  exact ⟨rfl, hB⟩
end Go.Proofs.YtbnobjlphmkgeaaGreatDoor
