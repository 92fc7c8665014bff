/- Contracts and plain laws, put together: Base, Num1, Num2, Keep, Num3, ErrI, Mem, Num4, Str1, Str2, Img1, Img2, Str3, NumLow1, NumBack1, Stamp1, Img3, DiffP, DiffQ, CheckP, Img4, Heap1, Chk1, Chk2, Chk3. -/
import Derived.WalkKit
import Derived.WalkSpells
import Derived.Deep.QuietTactic
import Derived.BigQuiet
import Derived.Deep.Draws
import Derived.Test.YtijcclpnkfmpnaaGreatChecked
import Derived.Laws.CopyOwn
import Derived.Laws.MakeOwn
import Derived.Lib.ConvBytes
import Derived.Deep.RegionHeld3
import Derived.Deep.AppendLies
/- Words for memory that the other texts use: slices of bytes as lists; no program in sight. -/
namespace Go.Proofs.YtijcclpnkfmpnaaGreat
open Go.RowKit

/-- a fact that the walk does not see -/
structure Hidden (p : Prop) : Prop where
  out : p
abbrev Bytes := List UInt8
/-- a byte as a cell -/
abbrev bv (c : UInt8) : Value := .int .u8 (c.toNat : Int)

/-- a text as a value -/
abbrev sv (l : Bytes) : Value := .string ⟨l.toArray⟩

/-- the slice that begins at A reads as the bytes l -/
def Rd (w : World) (A : Option Addr) (l : Bytes) : Prop :=
  ∀ j (h : j < l.length), ∃ b off, A = some ⟨b, off, none⟩ ∧ w.cell? ⟨b, off + j, none⟩ = some (bv l[j])

section
variable {w w' : World} {A : Option Addr} {l : Bytes}
theorem Rd.nil_ : Rd w A [] := fun j h => absurd h (by simp)
theorem Rd.below (h : Rd w A l) (hb : Below w.heap.size w w') : Rd w' A l := fun j hj => by
  obtain ⟨b, off, hA, hc⟩ := h j hj
  exact ⟨b, off, hA, (hb.cell (block_lt_of_cell hc)).trans hc⟩
theorem Rd.below' {B : Nat} (h : Rd w A l) (hA : ∀ ad, A = some ad → ad.block < B) (hb : Below B w w') : Rd w' A l := fun j hj => by
  obtain ⟨b, off, rfl, hc⟩ := h j hj
  exact ⟨b, off, rfl, (hb.cell (p := ⟨b, off + j, none⟩) (hA ⟨b, off, none⟩ rfl)).trans hc⟩
theorem Rd.drewN (h : Rd w A l) (n : Nat) : Rd (w.drewN n) A l := h
theorem Rd.lt (h : Rd w A l) (hl : 0 < l.length) : ∃ b off, A = some ⟨b, off, none⟩ ∧ b < w.heap.size := by
  obtain ⟨b, off, hA, hc⟩ := h 0 hl
  exact ⟨b, off, hA, block_lt_of_cell hc⟩
theorem Rd.cut (h : Rd w A l) (a s : Nat) (hs : a + s ≤ l.length) : Rd w (A.map (·.add a)) ((l.drop a).take s) := fun j hj => by
  have hj' : j < s := by simp at hj; omega
  obtain ⟨b, off, rfl, hc⟩ := h (a + j) (by omega)
  refine ⟨b, off + a, by simp [Addr.add_lit], ?_⟩
  rw [Nat.add_assoc, hc]
  simp
theorem Rd.cutIf (h : Rd w A l) (a s c : Nat) (hs : a + s ≤ l.length) (hc : l.length ≤ c) : Rd w (if c = a then A else A.map (·.add a)) ((l.drop a).take s) := by
  by_cases hca : c = a
  · have : s = 0 := by omega
    subst this
    simpa using Rd.nil_
  · rw [if_neg hca]; exact h.cut a s hs
theorem Rd.take (h : Rd w A l) (s : Nat) (hs : s ≤ l.length) : Rd w A (l.take s) := fun j hj => by
  obtain ⟨b, off, rfl, hc⟩ := h j (by simp at hj; omega)
  refine ⟨b, off, rfl, ?_⟩
  rw [hc]; simp
theorem Rd.at_ {b off : Nat} (h : Rd w (some ⟨b, off, none⟩) l) (j : Nat) (hj : j < l.length) : w.cell? ⟨b, off + j, none⟩ = some (bv l[j]) := by
  obtain ⟨b', off', hA, hc⟩ := h j hj
  injection hA with hA
  injection hA with h1 h2
  subst h1 h2
  exact hc
theorem Rd.cells {ad : Addr} (h : Rd w (some ad) l) (j : Nat) (u : Value) (hu : (l.map bv)[j]? = some u) : w.cell? (ad.add j) = some u := by
  have hj : j < l.length := by
    have := (List.getElem?_eq_some_iff.1 hu).1
    simpa using this
  obtain ⟨b, off, hA, hc⟩ := h j hj
  injection hA with hA
  subst hA
  rw [Addr.add_lit, hc, ← hu]
  simp [hj]
end
theorem Rd.tail {w : World} {A : Option Addr} {l : Bytes} (h : Rd w A l) (k c : Nat) (hk : k ≤ l.length) (hc : l.length ≤ c) : Rd w (if c = k then A else A.map (·.add k)) (l.drop k) := by
  have := h.cutIf k (l.length - k) c (by omega) hc
  rwa [List.take_of_length_le (by simp)] at this
theorem one_bv {l : Bytes} : ∀ u ∈ l.map bv, u.oneCell' = true := by
  intro u hu
  obtain ⟨c, _, rfl⟩ := List.mem_map.1 hu
  rfl

/-- the slice v is the call's own (blocks from base on), and reads as l; e: the number of the type byte -/
def Own (w : World) (base e : Nat) (v : Value) (l : Bytes) : Prop := w.ownsRow base e 1 v l.length (l.map bv)

theorem Own.slice {w : World} {base e : Nat} {v : Value} {l : Bytes} (h : Own w base e v l) : ∃ A c, v = .slice A l.length c ∧ l.length ≤ c ∧ c ≤ maxLen ∧ Rd w A l := by
  rcases h.2 with ⟨rfl, h0⟩ | ⟨g, cap, cur, rfl, _, hh, hc, hm, hz, ht⟩
  · rw [h0]
    have : l = [] := List.eq_nil_of_length_eq_zero h0
    subst this
    exact ⟨none, 0, rfl, by simp, by simp, Rd.nil_⟩
  · refine ⟨_, cap, rfl, hc, hm, fun j hj => ⟨g, 0, rfl, ?_⟩⟩
    rw [Nat.zero_add, cell_of_row w g j cur e (0, 0) hh]
    have h1 : (l.map bv)[j]? = some (bv l[j]) := by simp [hj]
    rw [← ht, List.getElem?_take, if_pos (by omega)] at h1
    simpa using h1
theorem below_drewN {B : Nat} {a w : World} (h : Below B a w) (n : Nat) : Below B a (w.drewN n) := ⟨h.os, h.tape, h.output, h.size, h.block⟩
theorem grown_below {a w : World} (h : Below a.heap.size a w) (row : Option Nat) : a.grownBy w row := ⟨h.os, h.tape, h.output, h.size, fun i hi _ => h.block i hi⟩
theorem own_below {w w' : World} {base : Nat} {e : TypeId} {size : Nat} {v : Value} {n : Nat} {xs : List Value} (h : w.ownsRow base e size v n xs) (hb : Below w.heap.size w w') : w'.ownsRow base e size v n xs :=
  h.kept (grown_below hb none) (by cases hv : v.ownBlock <;> simp)
theorem grown_trans' {a b c : World} {row : Option Nat} (h : Below a.heap.size a b) (k : b.grownBy c row) : a.grownBy c row :=
  ⟨k.os.trans h.os, k.tape.trans h.tape, k.output.trans h.output, Nat.le_trans h.size k.size, fun i hi hne => (k.block i (Nat.lt_of_lt_of_le hi h.size) hne).trans (h.block i hi)⟩
end Go.Proofs.YtijcclpnkfmpnaaGreat
/- The contracts of package num and of what it calls in package slices, over bytes. -/
namespace Go.Proofs.YtijcclpnkfmpnaaGreat
open Go.RowKit

/-- what so many bytes have at most -/
def mostN (n : Int) : Int := 2 ^ (8 * n.toNat) - 1

/-- slices.Index: the first place, or -1 -/
def idxB (l : Bytes) (x : UInt8) : Int := if x ∈ l then (l.idxOf x : Int) else -1
theorem idxB_at (l : Bytes) (x : UInt8) (k : Nat) (hk : k < l.length) (hn : x ∉ l.take k) (he : l[k] = x) : idxB l x = k := by
  have hm : x ∈ l := by rw [← he]; exact List.getElem_mem hk
  unfold idxB
  rw [if_pos hm]
  have : l.idxOf x = k := by
    conv => lhs; rw [← List.take_append_drop k l]
    rw [List.idxOf_append, if_neg hn]
    have hd : l.drop k = x :: l.drop (k + 1) := by rw [List.drop_eq_getElem_cons hk, he]
    rw [hd]
    simp; omega
  rw [this]
theorem idxB_none (l : Bytes) (x : UInt8) (hn : x ∉ l) : idxB l x = -1 := if_neg hn
theorem bv_beq (x y : UInt8) : ((x.toNat : Int) == (y.toNat : Int)) = (x == y) := by
  rw [Bool.eq_iff_iff]
  simp only [beq_iff_eq]
  rw [← UInt8.toNat_inj]
  omega
theorem not_take_succ {l : Bytes} {x : UInt8} {k : Nat} (hk : k < l.length) (hn : x ∉ l.take k) (he : ¬ l[k] = x) : x ∉ l.take (k + 1) := by
  rw [List.take_succ_eq_append_getElem hk]
  simp only [List.mem_append, List.mem_singleton, not_or]
  exact ⟨hn, fun h => he h.symm⟩

theorem index_any (A : Option Addr) (n c : Nat) (l : Bytes) (x : UInt8) (w : World) (hn : l.length = n) (hl : n ≤ maxLen) (hr : Rd w A l) :
    Calls Tryz.prog 131 #[.slice A n c, bv x] w fun e w' => e = .returned (.int .i64 (idxB l x)) ∧ w = w' := by
  subst hn
  unfold maxLen at hl
  go_enter Tryz.func131, Tryz.ntmps131
  go_wp2
  go_loop [8] (fun i => ∃ k : Nat, k ≤ l.length ∧ i = .int .i64 k ∧ x ∉ l.take k) (fun i => l.length - (intOf i).toNat)
  case atStart => exact ⟨0, Nat.zero_le _, rfl, by simp⟩
  case round =>
    obtain ⟨k, hk, rfl, hnot⟩ := hrel
    by_cases hlt : k < l.length
    · obtain ⟨b, off, rfl, hc⟩ := hr k hlt
      by_cases he : l[k] = x
      · have hi := idxB_at l x k hlt hnot he
        have hb : ((x.toNat : Int) == (l[k].toNat : Int)) = true := by rw [bv_beq, he]; simp
        clear he
        go_wp2
        go_ret
        exact ⟨rfl, rfl⟩
      · have hb : ((x.toNat : Int) == (l[k].toNat : Int)) = false := by rw [bv_beq]; simpa using fun h => he h.symm
        have hnk := not_take_succ hlt hnot he
        clear he hnot
        go_wp2
        go_round
        case rel => exact ⟨k + 1, by omega, by go_num, hnk⟩
        case measure => simp [intOf]; omega
    · have hnn : x ∉ l := by rw [List.take_of_length_le (by omega)] at hnot; exact hnot
      have hi := idxB_none l x hnn
      go_wp2
      go_ret
      exact ⟨rfl, rfl⟩

/-- the number that bytes have, the low one first -/
def ofB : Bytes → Nat
  | [] => 0
  | c :: l => c.toNat + 256 * ofB l
theorem ofB_snoc (l : Bytes) (c : UInt8) : ofB (l ++ [c]) = ofB l + 2 ^ (8 * l.length) * c.toNat := by
  induction l with
  | nil => simp [ofB]
  | cons d l ih =>
    simp only [List.cons_append, ofB, ih, List.length_cons]
    rw [show 8 * (l.length + 1) = 8 * l.length + 8 from by omega, Nat.pow_add]
    rw [Nat.mul_add, Nat.add_assoc]
    congr 2
    rw [← Nat.mul_assoc, Nat.mul_comm 256, show 2 ^ 8 = 256 from rfl]
theorem ofB_lt (l : Bytes) : ofB l < 2 ^ (8 * l.length) := by
  induction l with
  | nil => simp [ofB]
  | cons d l ih =>
    simp only [ofB, List.length_cons]
    rw [show 8 * (l.length + 1) = 8 * l.length + 8 from by omega, Nat.pow_add]
    have := d.toNat_lt
    simp at this
    omega
theorem or_add (a b k : Nat) (h : a < 2 ^ k) : a ||| (2 ^ k * b) = a + 2 ^ k * b := by
  rw [Nat.or_comm, ← Nat.two_pow_add_eq_or_of_lt h]; omega
theorem i64_ofInt (a : Nat) (ha : a < 9223372036854775808) : (BitVec.ofInt 64 (a : Int)).toNat = a := by
  rw [BitVec.ofInt_natCast, BitVec.toNat_ofNat]; exact Nat.mod_eq_of_lt (by omega)
theorem i64_or (a b : Nat) (ha : a < 9223372036854775808) (hb : b < 9223372036854775808) : bits .or .i64 (a : Int) (b : Int) = ((a ||| b : Nat) : Int) := by
  have hx : a ||| b < 2 ^ 63 := Nat.or_lt_two_pow (by omega) (by omega)
  show IntKind.i64.wrap ((BitVec.ofInt 64 (a : Int) ||| BitVec.ofInt 64 (b : Int)).toNat : Int) = _
  rw [BitVec.toNat_or, i64_ofInt a ha, i64_ofInt b hb, IntKind.wrap_i64]
  omega
theorem u8_lt (c : UInt8) : c.toNat < 256 := c.toNat_lt
theorem wrap64_id (n : Int) (h0 : -9223372036854775808 ≤ n) (h : n ≤ 9223372036854775807) : wrap64 n = n := IntWalk.wrap64_in n ⟨h0, h⟩
theorem of_step (l : Bytes) (k : Nat) (hk : k < l.length) (hl : l.length ≤ 4) :
    bits .or .i64 (ofB (l.take k) : Int) (wrap64 (wrap64 (l[k].toNat : Int) * 2 ^ (8 * k))) = (ofB (l.take (k + 1)) : Int) := by
  have hc := u8_lt l[k]
  have h1 := ofB_lt (l.take k)
  have hlen : (l.take k).length = k := by simp; omega
  rw [hlen] at h1
  have hp : 2 ^ (8 * k) ≤ 16777216 := by
    have : k ≤ 3 := by omega
    calc 2 ^ (8 * k) ≤ 2 ^ 24 := Nat.pow_le_pow_right (by omega) (by omega)
      _ = 16777216 := by decide
  have hm : 2 ^ (8 * k) * l[k].toNat ≤ 16777216 * 256 := Nat.mul_le_mul hp (by omega)
  rw [wrap64_id (l[k].toNat : Int) (by omega) (by omega)]
  have hcast : (l[k].toNat : Int) * 2 ^ (8 * k) = ((2 ^ (8 * k) * l[k].toNat : Nat) : Int) := by
    rw [Int.natCast_mul, Int.mul_comm, Int.natCast_pow]; rfl
  rw [hcast, wrap64_id _ (by omega) (by omega), i64_or _ _ (by omega) (by omega), or_add _ _ _ h1, List.take_succ_eq_append_getElem hk, ofB_snoc, hlen]
theorem ret_i64 {a b : Int} (h : a = b) : Ending.returned (.int .i64 a) = .returned (.int .i64 b) := by rw [h]
theorem int_i64 {a b : Int} (h : a = b) : Value.int .i64 a = .int .i64 b := by rw [h]

theorem of_any (A : Option Addr) (n c : Nat) (l : Bytes) (w : World) (hn : l.length = n) (hl : n ≤ 4) (hr : Rd w A l) :
    Calls Tryz.prog 119 #[.slice A n c] w fun e w' => e = .returned (.int .i64 (ofB l)) ∧ w = w' := by
  subst hn
  go_enter Tryz.func119, Tryz.ntmps119
  go_wp2
  go_loop [3, 8] (fun n i => ∃ k : Nat, k ≤ l.length ∧ i = .int .i64 k ∧ n = .int .i64 (ofB (l.take k))) (fun _ i => l.length - (intOf i).toNat)
  case atStart => exact ⟨0, Nat.zero_le _, rfl, rfl⟩
  case round =>
    obtain ⟨k, hk, rfl, rfl⟩ := hrel
    by_cases hlt : k < l.length
    · obtain ⟨b, off, rfl, hc⟩ := hr k hlt
      go_wp2
      go_round
      case rel => exact ⟨k + 1, by omega, by go_num, int_i64 (of_step l k hlt hl)⟩
      case measure => simp [intOf]; omega
    · go_wp2
      go_ret
      exact ⟨ret_i64 (by rw [List.take_of_length_le (by omega)]), rfl⟩

end Go.Proofs.YtijcclpnkfmpnaaGreat
/- The contract of num.Set: it writes the bytes of a number into a block. -/
namespace Go.Proofs.YtijcclpnkfmpnaaGreat
open Go.RowKit

/-- a row in which other values stand from i on -/
def setB (cur : Array Value) (i : Nat) (l : List Value) : Array Value := (splice cur.toList i l).toArray
theorem setB_size (cur : Array Value) (i : Nat) (l : List Value) (h : i + l.length ≤ cur.size) : (setB cur i l).size = cur.size := by
  simp only [setB, List.size_toArray]; rw [length_splice _ _ _ (by simpa using h)]; simp
theorem setB_nil (cur : Array Value) (i : Nat) : setB cur i [] = cur := by simp [setB, splice]
theorem setB_snoc (cur : Array Value) (i : Nat) (l : List Value) (v : Value) (h : i + l.length < cur.size) :
    (setB cur i l).setIfInBounds (i + l.length) v = setB cur i (l ++ [v]) := by
  apply Array.ext'
  obtain ⟨cur⟩ := cur
  simp only [List.size_toArray] at h
  simp only [setB, splice, List.setIfInBounds_toArray]
  rw [List.set_append_right _ _ (by simp; omega)]
  have h1 : i + l.length - (cur.take i).length = l.length := by simp; omega
  rw [h1, List.set_append_right _ _ (by omega), Nat.sub_self]
  rw [List.drop_eq_getElem_cons h]
  simp [List.append_assoc, Nat.add_assoc]
theorem setB_at (cur : Array Value) (i : Nat) (l : List Value) (j : Nat) (h : i + l.length ≤ cur.size) :
    (setB cur i l)[j]? = if i ≤ j ∧ j < i + l.length then l[j - i]? else cur[j]? := by
  obtain ⟨cur⟩ := cur
  simp only [List.size_toArray] at h
  simp only [setB, splice, List.getElem?_toArray]
  have hl : (cur.take i).length = i := by simp; omega
  by_cases h1 : j < i
  · rw [if_neg (by omega), List.getElem?_append_left (by omega), List.getElem?_take, if_pos h1]
  · rw [List.getElem?_append_right (by omega), hl]
    by_cases h2 : j < i + l.length
    · rw [if_pos (by omega), List.getElem?_append_left (by omega)]
    · rw [if_neg (by omega), List.getElem?_append_right (by omega), List.getElem?_drop]
      congr 1; omega

/-- block g is a row of bytes of which the first are l; cap: how many cells; e: the type byte -/
def Row (w : World) (e g cap : Nat) (l : Bytes) : Prop :=
  ∃ cur, w.heap[g]? = some (.cells cur e (0, 0)) ∧ l.length ≤ cap ∧ cap ≤ maxLen ∧ cur.size = cap ∧ cur.toList.take l.length = l.map bv
section
variable {w w' : World} {e g cap : Nat} {l : Bytes}
theorem Row.own (h : Row w e g cap l) {base : Nat} (hb : base ≤ g) : Own w base e (.slice (some ⟨g, 0, none⟩) l.length cap) l := by
  obtain ⟨cur, hg, h1, h2, h3, h4⟩ := h
  exact ⟨by simp, .inr ⟨g, cap, cur, rfl, hb, hg, h1, h2, by omega, by simpa using h4⟩⟩
theorem Row.of_own {base : Nat} {v : Value} (h : Own w base e v l) (hn : v ≠ .slice none 0 0) : ∃ g cap, v = .slice (some ⟨g, 0, none⟩) l.length cap ∧ base ≤ g ∧ Row w e g cap l := by
  rcases h.2 with ⟨rfl, _⟩ | ⟨g, cap, cur, rfl, hb, hg, h1, h2, h3, h4⟩
  · exact absurd rfl hn
  · exact ⟨g, cap, rfl, hb, cur, hg, h1, h2, by omega, by simpa using h4⟩
theorem Row.cell (h : Row w e g cap l) (j : Nat) (hj : j < l.length) : w.cell? ⟨g, j, none⟩ = some (bv l[j]) := by
  obtain ⟨cur, hg, h1, h2, h3, h4⟩ := h
  rw [cell_of_row w g j cur e (0, 0) hg]
  have h5 : (l.map bv)[j]? = some (bv l[j]) := by simp [hj]
  rw [← h4, List.getElem?_take, if_pos (by omega)] at h5
  simpa using h5
theorem Row.rd (h : Row w e g cap l) : Rd w (some ⟨g, 0, none⟩) l := fun j hj => ⟨g, 0, rfl, by rw [Nat.zero_add]; exact h.cell j hj⟩
theorem Row.below {B : Nat} (h : Row w e g cap l) (hb : Below B w w') (hg : g < B) : Row w' e g cap l := by
  obtain ⟨cur, h0, h1⟩ := h
  exact ⟨cur, (hb.block g hg).trans h0, h1⟩
theorem Row.lt (h : Row w e g cap l) : g < w.heap.size := by
  obtain ⟨cur, h0, _⟩ := h
  exact (Array.getElem?_eq_some_iff.1 h0).1
theorem Row.le (h : Row w e g cap l) : l.length ≤ cap ∧ cap ≤ maxLen := by
  obtain ⟨cur, _, h1, h2, _⟩ := h
  exact ⟨h1, h2⟩
theorem splice_len (l bs : Bytes) (i : Nat) (h : i + bs.length ≤ l.length) : (splice l i bs).length = l.length := length_splice l i bs h
theorem Row.set_ (h : Row w e g cap l) (i : Nat) (bs : Bytes) (hi : i + bs.length ≤ l.length) (cur : Array Value) (hc : w.heap[g]? = some (.cells cur e (0, 0))) :
    Row (w.setRow g (setB cur i (bs.map bv))) e g cap (splice l i bs) := by
  obtain ⟨cur', hg, h1, h2, h3, h4⟩ := h
  rw [hc] at hg
  injection hg with hg
  injection hg with hg
  subst hg
  refine ⟨_, setRow_heap w g cur _ e _ hc, by rw [splice_len _ _ _ hi]; exact h1, h2, by rw [setB_size _ _ _ (by simp; omega)]; exact h3, ?_⟩
  have hlen := splice_len l bs i hi
  apply List.ext_getElem?
  intro j
  rw [hlen, List.getElem?_take]
  by_cases hj : j < l.length
  · rw [if_pos hj]
    have h5 : cur[j]? = (l.map bv)[j]? := by rw [← h4, List.getElem?_take, if_pos hj]; simp
    have h6 : (setB cur i (bs.map bv)).toList[j]? = (setB cur i (bs.map bv))[j]? := by simp
    rw [h6, setB_at _ _ _ _ (by simp; omega), h5]
    simp only [splice, List.length_map]
    have hl : (l.take i).length = i := by simp; omega
    rw [List.getElem?_map, List.getElem?_map, List.getElem?_map]
    by_cases h7 : j < i
    · rw [if_neg (by omega), List.getElem?_append_left (by omega), List.getElem?_take, if_pos h7]
    · rw [List.getElem?_append_right (by omega), hl]
      by_cases h8 : j < i + bs.length
      · rw [if_pos (by omega), List.getElem?_append_left (by omega)]
      · rw [if_neg (by omega), List.getElem?_append_right (by omega), List.getElem?_drop]
        congr 2; omega
  · rw [if_neg hj, List.getElem?_eq_none (by simp; omega)]
end

/-- the bytes of a number, the low one first -/
def numB (n : Nat) : Nat → Bytes
  | 0 => []
  | k + 1 => UInt8.ofNat (n % 256) :: numB (n / 256) k
theorem numB_length (n k : Nat) : (numB n k).length = k := by
  induction k generalizing n with
  | zero => rfl
  | succ k ih => simp [numB, ih]
theorem numB_succ (n k : Nat) : numB n (k + 1) = numB n k ++ [UInt8.ofNat (n / 2 ^ (8 * k) % 256)] := by
  induction k generalizing n with
  | zero => simp [numB]
  | succ k ih =>
    rw [numB, ih (n / 256)]
    conv => rhs; rw [numB]
    simp only [List.cons_append, List.cons.injEq, List.append_cancel_left_eq, true_and, and_true]
    rw [Nat.div_div_eq_div_mul, show 8 * (k + 1) = 8 + 8 * k from by omega, Nat.pow_add]

theorem ofNat_mod (n : Nat) : (UInt8.ofNat (n % 256)).toNat = n % 256 := by simp [UInt8.toNat_ofNat']

theorem set_any (g off len cap T : Nat) (cur : Array Value) (at_ n size : Nat) (w : World) (hb : w.heap[g]? = some (.cells cur T (0, 0)))
    (hs : size ≤ 4) (hat : at_ + size ≤ len) (hlen : len ≤ maxLen) (hcur : off + len ≤ cur.size) :
    Calls Tryz.prog 127 #[.slice (some ⟨g, off, none⟩) len cap, .int .i64 at_, .int .i64 n, .int .i64 size] w
      fun e w' => e = .returned (.tuple #[]) ∧ w' = w.setRow g (setB cur (off + at_) ((numB n size).map bv)) := by
  unfold maxLen at hlen
  go_enter Tryz.func127, Tryz.ntmps127
  go_wp2
  go_loopw [10] (fun i wr => ∃ k : Nat, k ≤ size ∧ i = .int .i64 k ∧ wr = w.setRow g (setB cur (off + at_) ((numB n k).map bv))) (fun i _ => size - (intOf i).toNat)
  case atStart => exact ⟨0, Nat.zero_le _, rfl, by simp [numB, setB_nil, setRow_self w g cur T _ hb]⟩
  case round =>
    obtain ⟨k, hk, rfl, hwr⟩ := hrel
    by_cases hlt : k < size
    · have hsz : off + at_ + ((numB n k).map bv).length ≤ cur.size := by simp [numB_length]; omega
      have hg : wr.heap[g]? = some (.cells (setB cur (off + at_) ((numB n k).map bv)) T (0, 0)) := by rw [hwr]; exact setRow_heap w g cur _ T _ hb
      have hi : off + (at_ + k) < (setB cur (off + at_) ((numB n k).map bv)).size := by rw [setB_size _ _ _ hsz]; omega
      have hcell : wr.cell? ⟨g, off + (at_ + k), none⟩ = some (setB cur (off + at_) ((numB n k).map bv))[off + (at_ + k)] := by
        rw [cell_of_row wr g _ _ _ _ hg]; exact Array.getElem?_eq_getElem hi
      have hfr : wr.frozen? ⟨g, off + (at_ + k), none⟩ = false := frozen_of_row wr g _ _ T hg
      have hnext : wr.setCell ⟨g, off + (at_ + k), none⟩ (.int .u8 ((n : Int) / 2 ^ (8 * k) % 256)) = w.setRow g (setB cur (off + at_) ((numB n (k + 1)).map bv)) := by
        rw [setCell_eq_setRow wr g _ _ T _ _ hg, hwr, setRow_setRow]
        congr 1
        have h1 := setB_snoc cur (off + at_) ((numB n k).map bv) (.int .u8 ((n : Int) / 2 ^ (8 * k) % 256)) (by simp [numB_length]; omega)
        rw [show off + (at_ + k) = off + at_ + ((numB n k).map bv).length from by simp [numB_length]; omega, h1, numB_succ, List.map_append]
        congr 2
        simp only [List.map_cons, List.map_nil, bv, ofNat_mod]
        rfl
      have HN := Hidden.mk hnext
      clear hnext hg hwr hsz
      generalize (setB cur (off + at_) ((numB n k).map bv))[off + (at_ + k)] = u at hcell
      clear hi
      go_wp2
      go_roundw
      case rel => exact ⟨k + 1, by omega, by go_num, HN.out⟩
      case measure => simp [intOf]; omega
    · obtain rfl : k = size := by omega
      subst hwr
      go_wp2
      go_end0
      exact ⟨rfl, rfl⟩
end Go.Proofs.YtijcclpnkfmpnaaGreat
/- What stays: all but the blocks of a set. No program in sight. -/
namespace Go.Proofs.YtijcclpnkfmpnaaGreat
open Go.RowKit

/-- all that is not in F is as it was; F: the blocks that a device takes -/
structure Keep (F : Nat → Prop) (w w' : World) : Prop where
  os : w'.os = w.os
  tape : w'.tape = w.tape
  output : w'.output = w.output
  size : w.heap.size ≤ w'.heap.size
  block : ∀ k, k < w.heap.size → ¬ F k → w'.heap[k]? = w.heap[k]?
theorem Keep.refl (F : Nat → Prop) (w : World) : Keep F w w := ⟨rfl, rfl, rfl, Nat.le_refl _, fun _ _ _ => rfl⟩
theorem Keep.trans {F F' : Nat → Prop} {a b c : World} (h : Keep F a b) (k : Keep F' b c) (hF : ∀ x, F' x → F x ∨ a.heap.size ≤ x) : Keep F a c :=
  ⟨k.os.trans h.os, k.tape.trans h.tape, k.output.trans h.output, Nat.le_trans h.size k.size, fun x hx hn =>
    (k.block x (Nat.lt_of_lt_of_le hx h.size) (fun hf => by rcases hF x hf with h' | h'; exact hn h'; omega)).trans (h.block x hx hn)⟩
theorem Keep.of_below {F : Nat → Prop} {w w' : World} (h : Below w.heap.size w w') : Keep F w w' := ⟨h.os, h.tape, h.output, h.size, fun k hk _ => h.block k hk⟩
theorem Keep.below {F : Nat → Prop} {B : Nat} {w w' : World} (h : Keep F w w') (hB : B ≤ w.heap.size) (hF : ∀ k, F k → B ≤ k) : Below B w w' :=
  ⟨h.os, h.tape, h.output, h.size, fun k hk => h.block k (by omega) (fun hf => by have := hF k hf; omega)⟩
theorem Keep.rd {F : Nat → Prop} {w w' : World} {A : Option Addr} {l : Bytes} (h : Keep F w w') (hr : Rd w A l) (hA : ∀ ad, A = some ad → ¬ F ad.block) : Rd w' A l := fun j hj => by
  obtain ⟨b, off, rfl, hc⟩ := hr j hj
  exact ⟨b, off, rfl, (World.cell?_of_block (w := w) (h.block b (block_lt_of_cell hc) (hA _ rfl))).trans hc⟩
theorem Keep.row {F : Nat → Prop} {w w' : World} {e g cap : Nat} {l : Bytes} (h : Keep F w w') (hr : Row w e g cap l) (hg : ¬ F g) : Row w' e g cap l := by
  obtain ⟨cur, h0, h1⟩ := hr
  exact ⟨cur, (h.block g (Array.getElem?_eq_some_iff.1 h0).1 hg).trans h0, h1⟩
theorem Keep.drewN {F : Nat → Prop} {w w' : World} (h : Keep F w w') (n : Nat) : Keep F w (w'.drewN n) := ⟨h.os, h.tape, h.output, h.size, h.block⟩

section
variable {w w' : World}
theorem ownsRow_block {base : Nat} {e : TypeId} {size : Nat} {v : Value} {n : Nat} {xs : List Value} (h : w.ownsRow base e size v n xs) (hb : ∀ q, v.ownBlock = some q → w'.heap[q]? = w.heap[q]?) : w'.ownsRow base e size v n xs := by
  refine ⟨h.1, ?_⟩
  rcases h.2 with hn | ⟨g, cap, cur, rfl, hb0, hgg, rest⟩
  · exact .inl hn
  · exact .inr ⟨g, cap, cur, rfl, hb0, (hb g rfl).trans hgg, rest⟩
theorem Row.block {e g cap : Nat} {l : Bytes} (h : Row w e g cap l) (hb : w'.heap[g]? = w.heap[g]?) : Row w' e g cap l := by
  obtain ⟨cur, h0, h1⟩ := h
  exact ⟨cur, hb.trans h0, h1⟩
theorem ne_cells {g : Nat} {cur cur' : Array Value} {t t' : TypeId} (h1 : w.heap[g]? = some (.cells cur t (0, 0))) {g' : Nat} (h2 : w.heap[g']? = some (.cells cur' t' (0, 0))) (hne : t ≠ t') : g ≠ g' := fun e => by
  rw [e, h2] at h1
  injection h1 with h1
  injection h1 with _ h1
  exact hne h1.symm
theorem ne_row {g : Nat} {cur : Array Value} {t : TypeId} (h1 : w.heap[g]? = some (.cells cur t (0, 0))) {e g' cap : Nat} {l : Bytes} (h2 : Row w e g' cap l) (hne : t ≠ e) : g ≠ g' := by
  obtain ⟨cur', h0, _⟩ := h2
  exact ne_cells h1 h0 hne
end
theorem heap_setK {w : World} {d k : Nat} {cur : Array Value} {t : TypeId} (h : w.heap[d]? = some (.cells cur t (0, 0))) (v : Value) : (w.setCell ⟨d, k, none⟩ v).heap[d]? = some (.cells (cur.setIfInBounds k v) t (0, 0)) := by
  rw [setCell_eq_setRow w d k cur t _ _ h]
  exact setRow_heap w d cur _ t _ h
def FourAt (w : World) (p : Nat) (a b c d : Int) : Prop := w.cell? ⟨p, 0, none⟩ = some (.int .i64 a) ∧ w.cell? ⟨p, 1, none⟩ = some (.int .i64 b) ∧ w.cell? ⟨p, 2, none⟩ = some (.int .i64 c) ∧ w.cell? ⟨p, 3, none⟩ = some (.int .i64 d)
theorem fourAt_one (w : World) (a b c d : Int) (t : TypeId) : FourAt (w.alloc (.cells #[.int .i64 a, .int .i64 b, .int .i64 c, .int .i64 d] t)) w.heap.size a b c d := by
  have h := heap_alloc_new w (.cells #[.int .i64 a, .int .i64 b, .int .i64 c, .int .i64 d] t)
  unfold FourAt
  simp only [World.cell?]
  rw [h]
  exact ⟨rfl, rfl, rfl, rfl⟩
theorem FourAt.below {w w' : World} {p : Nat} {a b c d : Int} (h : FourAt w p a b c d) (hb : Below w.heap.size w w') : FourAt w' p a b c d := by
  have hlt := block_lt_of_cell h.1
  exact ⟨(hb.cell (p := ⟨p, 0, none⟩) hlt).trans h.1, (hb.cell (p := ⟨p, 1, none⟩) hlt).trans h.2.1, (hb.cell (p := ⟨p, 2, none⟩) hlt).trans h.2.2.1, (hb.cell (p := ⟨p, 3, none⟩) hlt).trans h.2.2.2⟩
end Go.Proofs.YtijcclpnkfmpnaaGreat
/- The contracts of num.Get, slices.Clone and num.Put. -/
namespace Go.Proofs.YtijcclpnkfmpnaaGreat
open Go.RowKit

/-- an error of the program: nil, or a number of api.Errno -/
def errV (n : Nat) : Value := if n = 0 then .nilIface else .iface 76 (.int .i64 n)
def getE (n : Nat) (at_ size : Int) : Nat := if 1 ≤ size ∧ size ≤ 4 then (if at_ < 0 ∨ (n : Int) - size < at_ then 3 else 0) else 1
def getN (l : Bytes) (at_ size : Int) : Nat := ofB ((l.drop at_.toNat).take size.toNat)

theorem byte_info : (Tryz.prog.info? 5).map (fun i => (i.zero, i.size, i.bytes)) = some (some (.int .u8 0), 1, 1) := by kernel_rfl

/-- slices.Clone of bytes: nil stays nil, else the call's own -/
theorem clone_nil (n c : Nat) (w : World) : Calls Tryz.prog 39 #[.slice none n c] w fun e w' => e = .returned (.slice none 0 0) ∧ w = w' := by
  have he := fun W => Lib.run_eql_slice_nil (P := Tryz.prog) W 22 5 none n c 0 0 Tryz.underlying22
  go_enter Tryz.func39, Tryz.ntmps39
  go_wp2
  go_ret
  exact ⟨rfl, rfl⟩
theorem clone_some (ad : Addr) (n c : Nat) (l : Bytes) (w : World) (hn : l.length = n) (hl : n ≤ 140737488351232) (hr : Rd w (some ad) l) :
    Calls Tryz.prog 39 #[.slice (some ad) n c] w fun e w' => ∃ g cap, e = .returned (.slice (some ⟨g, 0, none⟩) n cap) ∧ w.heap.size ≤ g ∧ Row w' 5 g cap l ∧ Below w.heap.size w w' := by
  subst hn
  have he := fun W => Lib.run_eql_slice_nil (P := Tryz.prog) W 22 5 (some ad) l.length c 0 0 Tryz.underlying22
  obtain ⟨i0, hi0, hz0, hz1, hz2⟩ := info_parts byte_info
  go_enter Tryz.func39, Tryz.ntmps39
  have hown := World.ownsRow_lit (base := w.heap.size) (e := 5) (size := 1) w #[] 0 (Nat.le_refl _) (by simp) rfl
  have hr1 : Rd (w.alloc (.cells #[] 5)) (some ad) l := hr.below ((Below.refl _ _).alloc (Nat.le_refl _) _)
  go_wp2_with (at_builtin; refine wpList_append_own _ rfl (.tmp 5) (.tmp 6) _ rfl w.heap.size 5 i0 _ 1 1 Tryz.underlying22 hi0 hz0 hz1 hz2 rfl (by decide) (.slice (some ⟨w.heap.size, 0, none⟩) 0 0) 0 [] rfl hown ad l.length c (l.map bv) rfl (by simp) hr1.cells one_bv (by simp only [maxLen]; omega) (by omega) (by simp) ?_; intro v1 w1 hown1 hg1 hnn)
  go_ret
  have hnn' : v1 ≠ .slice none 0 0 := fun h => by have := hnn.1 h; simp at this
  obtain ⟨g, cap, rfl, hbg, hrow⟩ := Row.of_own (l := l) (by simpa [Own] using hown1) hnn'
  refine ⟨g, cap, rfl, hbg, hrow, ?_⟩
  · exact ((Below.refl _ _).alloc (Nat.le_refl _) _).grown hg1 (by simp) (fun k hk => by simp [Value.ownBlock] at hk; omega)

def putE (n : Nat) (at_ x size : Int) : Nat := if 1 ≤ size ∧ size ≤ 4 ∧ 0 ≤ x ∧ x ≤ mostN size then (if at_ < 0 ∨ (n : Int) - size < at_ then 3 else 0) else 1
def putB (l : Bytes) (at_ x size : Int) : Bytes := splice l at_.toNat (numB x.toNat size.toNat)
theorem isNil_err (n : Nat) : errV (n + 1) ≠ .nilIface := by simp [errV]
end Go.Proofs.YtijcclpnkfmpnaaGreat
/- Is an error nil? As equations, for a walk. -/
namespace Go.Proofs.YtijcclpnkfmpnaaGreat
open Go.RowKit

/-- is an error nil? -/
def ErrIs (err : Value) (b : Bool) : Prop := (∀ (W : World) (x : Operand), (eqGuard .eql 32 x (.const .nilIface) err .nilIface).run Tryz.prog W = .ok () W) ∧ (∀ (W : World) (x : Operand), (eqGuard .neq 32 x (.const .nilIface) err .nilIface).run Tryz.prog W = .ok () W) ∧ (∀ W : World, (binOp .eql 32 err .nilIface).run Tryz.prog W = .ok (.bool b) W) ∧ (∀ W : World, (binOp .neq 32 err .nilIface).run Tryz.prog W = .ok (.bool (!b)) W)
theorem errIs_nil : ErrIs .nilIface true := ⟨fun W x => by go_simp, fun W x => by go_simp, fun W => by go_simp, fun W => by go_simp⟩
theorem errIs_some (k : Int) : ErrIs (.iface 76 (.int .i64 k)) false := ⟨fun W x => by go_simp, fun W x => by go_simp, fun W => by go_simp, fun W => by go_simp⟩
theorem errIs_errV (k : Nat) : ErrIs (errV k) (k == 0) := by
  by_cases h : k = 0
  · subst h; exact errIs_nil
  · have : (k == 0) = false := by simpa using h
    rw [this]
    unfold errV
    rw [if_neg h]
    exact errIs_some k
end Go.Proofs.YtijcclpnkfmpnaaGreat
/- Runs of make and copy over bytes, as equations for a walk. -/
namespace Go.Proofs.YtijcclpnkfmpnaaGreat
open Go.RowKit

/-- so many zeros, as cells -/
def zeroRow (n : Nat) : Array Value := Array.replicate n (.int .u8 0)
theorem zeroRow_size (n : Nat) : (zeroRow n).size = n := by simp [zeroRow]
theorem zeroRow_list (n : Nat) : (zeroRow n).toList = (List.replicate n (0 : UInt8)).map bv := by simp [zeroRow]
/-- make([]byte, n) -/
theorem mk_bytes (z : Int) (n : Nat) (hz : z = n) (hn : n ≤ 281474976710656) (w : World) :
    (Instr.makeSlice 22 (.int .i64 z) (.int .i64 z)).run Tryz.prog w = .ok (.slice (some ⟨w.heap.size, 0, none⟩) n n) (w.alloc (.cells (zeroRow n) 5)) := by
  subst hz
  obtain ⟨i0, hi0, hz0, hz1, hz2⟩ := info_parts byte_info
  have hr := run_make (P := Tryz.prog) w 22 5 i0 _ Tryz.underlying22 hi0 hz0 .i64 .i64 n n (by omega) (by omega) (by rw [hz2]; omega) (by omega)
  simp only [Int.toNat_natCast, hz1, Nat.mul_one] at hr
  have hcells : madeCells (Value.int IntKind.u8 0).cells n = zeroRow n := by
    apply Array.ext'
    rw [show (Value.int IntKind.u8 0).cells = #[Value.int IntKind.u8 0] from rfl, toList_madeCells_one, zeroRow]
    simp
  rw [hcells] at hr
  exact hr
theorem row_zeros (w : World) (n : Nat) (hn : n ≤ maxLen) : Row (w.alloc (.cells (zeroRow n) 5)) 5 w.heap.size n (List.replicate n 0) :=
  ⟨_, heap_alloc_new w _, by simp, hn, zeroRow_size n, by rw [List.take_of_length_le (by rw [Array.length_toList, zeroRow_size]; simp), zeroRow_list]⟩

/-- copy of a text into a row -/
theorem run_copy_text (w : World) (g o dLen dCap k : Nat) (l : Bytes) (cur : Array Value) (T : Nat) (hg : w.heap[g]? = some (.cells cur T (0, 0))) (hk : k = Nat.min l.length dLen) (hfit : o + k ≤ cur.size) (ty : TypeId) :
    (Builtin.copy_ #[22, 9] ty #[.slice (some ⟨g, o, none⟩) dLen dCap, .string ⟨l.toArray⟩]).run Tryz.prog w = .ok (.int .i64 (k : Int)) (w.setRow g (setB cur o ((l.take k).map bv))) := by
  obtain ⟨i0, hi0, hz0, hz1, hz2⟩ := info_parts byte_info
  have hkl : k ≤ l.length := by rw [hk]; exact Nat.min_le_left _ _
  have hlen : ((l.take k).map bv).length = k := by simp; omega
  have hst := run_storeCells_at Tryz.prog g o T ((l.take k).map bv) 0 cur w hg (by rw [hlen]; simpa using hfit) one_bv
  have hsz : (⟨l.toArray⟩ : ByteArray).size = l.length := by simp [ByteArray.size]
  generalize hcs : (l.take k).map bv = cs at hst hlen ⊢
  subst hlen
  have hcs2 : List.take cs.length (List.map (fun b => Value.int IntKind.u8 (b.toNat : Int)) l) = cs := by rw [← List.map_take]; exact hcs
  simp only [Nat.add_zero] at hst
  simp [Builtin.copy_, run_underlying Tryz.underlying22, Builtin.lenOf, Builtin.firstCells, sizeOf, typeInfo, hi0, hsz, ← hk, goInt, setB, splice]
  rw [hcs2, hst]
  simp
/-- copy of bytes into a row -/
theorem run_copy_rd (w : World) (g o dLen dCap n c k : Nat) (A : Option Addr) (l : Bytes) (cur : Array Value) (T : Nat) (hg : w.heap[g]? = some (.cells cur T (0, 0))) (hn : l.length = n) (hr : Rd w A l)
    (hk : k = Nat.min n dLen) (hfit : o + k ≤ cur.size) (ty : TypeId) :
    (Builtin.copy_ #[22, 22] ty #[.slice (some ⟨g, o, none⟩) dLen dCap, .slice A n c]).run Tryz.prog w = .ok (.int .i64 (k : Int)) (w.setRow g (setB cur o ((l.take k).map bv))) := by
  subst hn
  obtain ⟨i0, hi0, hz0, hz1, hz2⟩ := info_parts byte_info
  have hkl : k ≤ l.length := by rw [hk]; exact Nat.min_le_left _ _
  have hlen : ((l.take k).map bv).length = k := by simp; omega
  rcases A with _ | ad
  · have h0 : l = [] := by
      cases l with
      | nil => rfl
      | cons x r => obtain ⟨b, off, h, _⟩ := hr 0 (by simp); cases h
    subst h0
    have hk0 : k = 0 := by simp at hkl; exact hkl
    subst hk0
    simp only [List.take_nil, List.map_nil, setB_nil, setRow_self w g cur T _ hg]
    simp [Builtin.copy_, run_underlying Tryz.underlying22, Builtin.lenOf, Builtin.firstCells, sizeOf, typeInfo, hi0, goInt, storeCells]
  · have hr2 := run_copy_row (P := Tryz.prog) w 22 22 ty 5 g o dLen dCap ad l.length c cur T ((l.take k).map bv) Tryz.underlying22 (by rw [hi0]; simp [hz1]) hg (by rw [hlen, hk])
      (fun j v hj => (hr.take k hkl).cells j v hj) (by rw [hlen]; exact hfit) one_bv
    have he : ∀ X : List Value, (cur.toList.take o ++ X ++ cur.toList.drop (o + X.length)).toArray = setB cur o X := fun X => by simp [setB, splice]
    rw [he] at hr2
    rw [hr2, hlen]
    rfl
/-- s[i:k] of bytes -/
theorem run_cut (p off n c i k : Nat) (hik : i ≤ k) (hkc : k ≤ c) (hlt : i < c) (W : World) :
    (Instr.sliceAt 22 (.slice (some ⟨p, off, none⟩) n c) (some (.int .i64 i)) (some (.int .i64 k)) none).run Tryz.prog W = .ok (.slice (some ⟨p, off + i, none⟩) (k - i) (c - i)) W := by
  obtain ⟨i0, hi0, hz0, hz1, hz2⟩ := info_parts byte_info
  have h3 : ¬ c = i := by omega
  simp [Instr.sliceAt, Instr.slice, Instr.sliceBounds, Instr.sliceBound, run_underlying Tryz.underlying22, asIntOf, sizeOf, typeInfo, hi0, hz1, hik, hkc, h3, Addr.add_lit]
end Go.Proofs.YtijcclpnkfmpnaaGreat
/- The contract of num.Same. -/
namespace Go.Proofs.YtijcclpnkfmpnaaGreat
open Go.RowKit

/-- at how many places, from the first on, two lists are the same -/
def sameL : Bytes → Bytes → Nat
  | x :: a, y :: b => if x = y then sameL a b + 1 else 0
  | _, _ => 0
theorem sameL_le (a b : Bytes) : sameL a b ≤ a.length ∧ sameL a b ≤ b.length := by
  induction a generalizing b with
  | nil => simp [sameL]
  | cons x a ih =>
    cases b with
    | nil => simp [sameL]
    | cons y b =>
      simp only [sameL]
      have := ih b
      split <;> simp <;> omega
theorem sameL_at (k : Nat) : ∀ (a b : Bytes), a.take k = b.take k → k ≤ a.length → k ≤ b.length → (k = a.length ∨ k = b.length ∨ a[k]? ≠ b[k]?) → sameL a b = k := by
  induction k with
  | zero =>
    intro a b _ _ _ h
    cases a with
    | nil => simp [sameL]
    | cons x a =>
      cases b with
      | nil => simp [sameL]
      | cons y b => simp at h; simp [sameL, h]
  | succ k ih =>
    intro a b ht ha hb h
    cases a with
    | nil => simp at ha
    | cons x a =>
      cases b with
      | nil => simp at hb
      | cons y b =>
        simp only [List.take_succ_cons, List.cons.injEq] at ht
        have := ih a b ht.2 (by simpa using ha) (by simpa using hb) (by simpa using h)
        simp [sameL, ht.1, this]

end Go.Proofs.YtijcclpnkfmpnaaGreat
/- Contracts over strings and bytes: slices.IndexFunc and ContainsFunc at whatever pure predicate. -/
namespace Go.Proofs.YtijcclpnkfmpnaaGreat
open Go.RowKit

/-- function F answers as p, of whatever byte, and leaves the world alone -/
def Pred (F : FuncId) (p : UInt8 → Bool) : Prop := ∀ (x : UInt8) (w : World), Calls Tryz.prog F #[bv x] w fun e w' => e = .returned (.bool (p x)) ∧ w = w'

def idxP (p : UInt8 → Bool) (l : Bytes) : Int := match l.findIdx? p with | some k => k | none => -1
theorem idxP_at (p : UInt8 → Bool) (l : Bytes) (k : Nat) (hk : k < l.length) (hn : ∀ x ∈ l.take k, p x = false) (he : p l[k] = true) : idxP p l = k := by
  have : l.findIdx? p = some k := by
    rw [List.findIdx?_eq_some_iff_getElem]
    refine ⟨hk, he, fun j hj => ?_⟩
    have := hn l[j] (by rw [List.mem_take_iff_getElem]; exact ⟨j, by omega, rfl⟩)
    simpa using this
  unfold idxP; rw [this]
theorem idxP_none (p : UInt8 → Bool) (l : Bytes) (hn : ∀ x ∈ l, p x = false) : idxP p l = -1 := by
  have : l.findIdx? p = none := by rw [List.findIdx?_eq_none_iff]; exact hn
  unfold idxP; rw [this]
theorem idxP_any (p : UInt8 → Bool) (l : Bytes) : decide (0 ≤ idxP p l) = l.any p := by
  unfold idxP
  cases h : l.findIdx? p with
  | none =>
    rw [List.findIdx?_eq_none_iff] at h
    simp only [Int.reduceNeg, Int.reduceLE, decide_false]
    symm
    simpa using h
  | some k =>
    rw [List.findIdx?_eq_some_iff_getElem] at h
    obtain ⟨hk, he, _⟩ := h
    have : l.any p = true := List.any_eq_true.2 ⟨l[k], List.getElem_mem hk, he⟩
    rw [this]
    simp
theorem forall_take_succ {p : UInt8 → Bool} {l : Bytes} {k : Nat} (hk : k < l.length) (hn : ∀ x ∈ l.take k, p x = false) (he : p l[k] = false) : ∀ x ∈ l.take (k + 1), p x = false := by
  rw [List.take_succ_eq_append_getElem hk]
  intro x hx
  rw [List.mem_append, List.mem_singleton] at hx
  rcases hx with hx | rfl
  · exact hn x hx
  · exact he

theorem ret_bool {a b : Bool} (h : a = b) : Ending.returned (.bool a) = .returned (.bool b) := by rw [h]
def notLower (c : UInt8) : Bool := decide (c.toNat < 97) || decide (122 < c.toNat)
def nonZero (c : UInt8) : Bool := c != 0
theorem pred_name : Pred 129 notLower := by
  intro x w
  by_cases h : x.toNat < 97
  · go_enter Tryz.func129, Tryz.ntmps129
    go_wp2
    go_ret
    exact ⟨ret_bool (by simp [notLower, h]), rfl⟩
  · go_enter Tryz.func129, Tryz.ntmps129
    go_wp2
    go_ret
    exact ⟨ret_bool (by unfold notLower; congr 1 <;> (rw [decide_eq_decide]; omega)), rfl⟩
theorem bv_bne (x : UInt8) : ((x.toNat : Int) != 0) = nonZero x := by
  unfold nonZero
  have := bv_beq x 0
  simp only [bne, ← this]; rfl
theorem pred_zero : Pred 132 nonZero := by
  intro x w
  have hb := Hidden.mk (bv_bne x)
  go_enter Tryz.func132, Tryz.ntmps132
  go_wp2
  go_ret
  exact ⟨ret_bool hb.out, rfl⟩
theorem idxf_name (A : Option Addr) (n c : Nat) (l : Bytes) (w : World) (hn : l.length = n) (hl : n ≤ maxLen) (hr : Rd w A l) :
    Calls Tryz.prog 148 #[.slice A n c, .func (.func 129) #[] #[]] w fun e w' => e = .returned (.int .i64 (idxP notLower l)) ∧ w = w' := by
  subst hn
  unfold maxLen at hl
  have HP := Hidden.mk pred_name
  generalize notLower = p at HP ⊢
  go_enter Tryz.func148, Tryz.ntmps148
  go_wp2
  go_loopw [8] (fun i wr => w = wr ∧ ∃ k : Nat, k ≤ l.length ∧ i = .int .i64 k ∧ Hidden (∀ x ∈ l.take k, p x = false)) (fun i _ => l.length - (intOf i).toNat)
  case atStart => exact ⟨rfl, 0, Nat.zero_le _, rfl, ⟨by simp⟩⟩
  case round =>
    obtain ⟨rfl, k, hk, rfl, hnot⟩ := hrel
    by_cases hlt : k < l.length
    · obtain ⟨b, off, rfl, hc⟩ := hr k hlt
      go_wp2_with fail
      refine (HP.out _ _).mono ?_
      rintro e w1 ⟨rfl, rfl⟩
      cases he : p l[k] with
      | true =>
        have hi : Hidden (idxP p l = k) := ⟨idxP_at p l k hlt hnot.out he⟩
        clear he
        go_wp2
        go_ret
        exact ⟨ret_i64 hi.out.symm, rfl⟩
      | false =>
        have hnk : Hidden (∀ x ∈ l.take (k + 1), p x = false) := ⟨forall_take_succ hlt hnot.out he⟩
        clear he hnot
        go_wp2
        go_roundw
        case rel => exact ⟨by trivial, k + 1, by omega, by go_num, hnk⟩
        case measure => simp [intOf]; omega
    · have hi : Hidden (idxP p l = -1) := ⟨idxP_none p l (by have := hnot.out; rwa [List.take_of_length_le (by omega)] at this)⟩
      go_wp2
      go_ret
      exact ⟨ret_i64 hi.out.symm, rfl⟩
theorem containsf_name (A : Option Addr) (n c : Nat) (l : Bytes) (w : World) (hn : l.length = n) (hl : n ≤ maxLen) (hr : Rd w A l) :
    Calls Tryz.prog 128 #[.slice A n c, .func (.func 129) #[] #[]] w fun e w' => e = .returned (.bool (l.any notLower)) ∧ w = w' := by
  have hv := Hidden.mk (idxP_any notLower l)
  go_enter Tryz.func128, Tryz.ntmps128
  go_wp2_with fail
  refine (idxf_name A n c l _ hn hl hr).mono ?_
  rintro e w1 ⟨rfl, rfl⟩
  go_wp2
  go_ret
  exact ⟨congrArg (fun b => Ending.returned (.bool b)) hv.out, rfl⟩
theorem idxf_zero (A : Option Addr) (n c : Nat) (l : Bytes) (w : World) (hn : l.length = n) (hl : n ≤ maxLen) (hr : Rd w A l) :
    Calls Tryz.prog 148 #[.slice A n c, .func (.func 132) #[] #[]] w fun e w' => e = .returned (.int .i64 (idxP nonZero l)) ∧ w = w' := by
  subst hn
  unfold maxLen at hl
  have HP := Hidden.mk pred_zero
  generalize nonZero = p at HP ⊢
  go_enter Tryz.func148, Tryz.ntmps148
  go_wp2
  go_loopw [8] (fun i wr => w = wr ∧ ∃ k : Nat, k ≤ l.length ∧ i = .int .i64 k ∧ Hidden (∀ x ∈ l.take k, p x = false)) (fun i _ => l.length - (intOf i).toNat)
  case atStart => exact ⟨rfl, 0, Nat.zero_le _, rfl, ⟨by simp⟩⟩
  case round =>
    obtain ⟨rfl, k, hk, rfl, hnot⟩ := hrel
    by_cases hlt : k < l.length
    · obtain ⟨b, off, rfl, hc⟩ := hr k hlt
      go_wp2_with fail
      refine (HP.out _ _).mono ?_
      rintro e w1 ⟨rfl, rfl⟩
      cases he : p l[k] with
      | true =>
        have hi : Hidden (idxP p l = k) := ⟨idxP_at p l k hlt hnot.out he⟩
        clear he
        go_wp2
        go_ret
        exact ⟨ret_i64 hi.out.symm, rfl⟩
      | false =>
        have hnk : Hidden (∀ x ∈ l.take (k + 1), p x = false) := ⟨forall_take_succ hlt hnot.out he⟩
        clear he hnot
        go_wp2
        go_roundw
        case rel => exact ⟨by trivial, k + 1, by omega, by go_num, hnk⟩
        case measure => simp [intOf]; omega
    · have hi : Hidden (idxP p l = -1) := ⟨idxP_none p l (by have := hnot.out; rwa [List.take_of_length_le (by omega)] at this)⟩
      go_wp2
      go_ret
      exact ⟨ret_i64 hi.out.symm, rfl⟩
theorem containsf_zero (A : Option Addr) (n c : Nat) (l : Bytes) (w : World) (hn : l.length = n) (hl : n ≤ maxLen) (hr : Rd w A l) :
    Calls Tryz.prog 128 #[.slice A n c, .func (.func 132) #[] #[]] w fun e w' => e = .returned (.bool (l.any nonZero)) ∧ w = w' := by
  have hv := Hidden.mk (idxP_any nonZero l)
  go_enter Tryz.func128, Tryz.ntmps128
  go_wp2_with fail
  refine (idxf_zero A n c l _ hn hl hr).mono ?_
  rintro e w1 ⟨rfl, rfl⟩
  go_wp2
  go_ret
  exact ⟨congrArg (fun b => Ending.returned (.bool b)) hv.out, rfl⟩
end Go.Proofs.YtijcclpnkfmpnaaGreat
/- The contracts of num.name, PutName, GetName. -/
namespace Go.Proofs.YtijcclpnkfmpnaaGreat
open Go.RowKit

def isName (l : Bytes) : Bool := !l.isEmpty && decide (l.length ≤ 8) && !l.any notLower

/-- a text as bytes: a new block -/
theorem conv_bytes (w : World) (l : Bytes) : ∃ cap W', (convert 9 22 (sv l)).run Tryz.prog w = .ok (.slice (some ⟨w.heap.size, 0, none⟩) l.length cap) W' ∧
    l.length ≤ cap ∧ Rd W' (some ⟨w.heap.size, 0, none⟩) l ∧ Below w.heap.size w W' := by
  refine ⟨_, _, Lib.run_convert_string_bytes w 9 22 5 ⟨l.toArray⟩ Tryz.underlying9 Tryz.underlying22 Tryz.underlying5, ?_, ?_, ?_⟩
  · exact grownCap_ge _ _ _ _
  · intro j hj
    refine ⟨_, 0, rfl, ?_⟩
    rw [Nat.zero_add, Lib.bytesWorld_cell w 5 ⟨l.toArray⟩ j hj]
    simp [hj]
  · exact ⟨rfl, rfl, rfl, by rw [Lib.bytesWorld_size]; omega, fun k hk => Lib.bytesWorld_at_old w _ ⟨l.toArray⟩ k hk⟩

set_option maxRecDepth 100000 in
theorem name_any (l : Bytes) (w : World) (hs : l.length ≤ 140737488351232) :
    Calls Tryz.prog 86 #[sv l] w fun e w' => e = .returned (.bool (isName l)) ∧ Below w.heap.size w w' := by
  by_cases h0 : l = []
  · subst h0
    go_enter Tryz.func86, Tryz.ntmps86
    go_wp2
    go_ret
    exact ⟨rfl, Below.refl _ _⟩
  · have h0' : l.isEmpty = false := by
      cases l with
      | nil => exact absurd rfl h0
      | cons a b => rfl
    clear h0
    by_cases h8 : (l.length : Int) ≤ 8
    · obtain ⟨cap, W1, hrun, hcap, hrd, hbel⟩ := conv_bytes w l
      have hv : Hidden ((!l.any notLower) = isName l) := ⟨by simp [isName, h0']; intros; omega⟩
      go_enter Tryz.func86, Tryz.ntmps86
      go_wp2_with fail
      refine (containsf_name _ _ _ l _ rfl (by simp only [maxLen]; omega) hrd).mono ?_
      rintro e w1 ⟨rfl, rfl⟩
      go_wp2
      go_ret
      exact ⟨ret_bool hv.out, hbel⟩
    · have hv : Hidden (false = isName l) := ⟨by simp [isName, h0']; intros; omega⟩
      go_enter Tryz.func86, Tryz.ntmps86
      go_wp2
      go_ret
      exact ⟨ret_bool hv.out, Below.refl _ _⟩

theorem splice_zeros (n : Nat) (l : Bytes) : splice (List.replicate n 0) 0 l = l ++ List.replicate (n - l.length) 0 := by
  simp only [splice, List.take_zero, List.nil_append, Nat.zero_add, List.drop_replicate]
/-- the bytes of a name: zeros behind it -/
def nameB (l : Bytes) : Bytes := l ++ List.replicate (8 - l.length) 0

theorem putName_no (l : Bytes) (w : World) (hs : l.length ≤ 140737488351232) (hn : isName l = false) :
    Calls Tryz.prog 52 #[sv l] w fun e w' => e = .returned (.tuple #[.slice none 0 0, .iface 76 (.int .i64 2)]) ∧ Below w.heap.size w w' := by
  go_enter Tryz.func52, Tryz.ntmps52
  go_wp2_with fail
  refine (name_any l _ hs).mono ?_
  rintro e w1 ⟨rfl, hb⟩
  rw [hn]
  go_wp2
  go_ret2
  exact ⟨rfl, hb⟩
set_option maxRecDepth 100000 in
theorem putName_ok (l : Bytes) (w : World) (hn : isName l = true) :
    Calls Tryz.prog 52 #[sv l] w fun e w' => ∃ g, e = .returned (.tuple #[.slice (some ⟨g, 0, none⟩) 8 8, .nilIface]) ∧ w.heap.size ≤ g ∧ Row w' 5 g 8 (nameB l) ∧ Below w.heap.size w w' := by
  have h8 : l.length ≤ 8 := by simp [isName] at hn; omega
  go_enter Tryz.func52, Tryz.ntmps52
  go_wp2_with fail
  refine (name_any l _ (by omega)).mono ?_
  rintro e w1 ⟨rfl, hb⟩
  rw [hn]
  have hmk := mk_bytes 8 8 rfl (by omega) w1
  have hz := row_zeros w1 8 (by simp [maxLen])
  have hblk : (w1.alloc (.cells (zeroRow 8) 5)).heap[w1.heap.size]? = some (.cells (zeroRow 8) 5 (0, 0)) := heap_alloc_new w1 _
  have hcopy := fun ty => run_copy_text (w1.alloc (.cells (zeroRow 8) 5)) w1.heap.size 0 8 8 l.length l (zeroRow 8) 5 hblk (Nat.min_eq_left h8).symm (by rw [zeroRow_size]; omega) ty
  have hres := hz.set_ 0 l (by simp; omega) _ hblk
  have hBB : Below w.heap.size w ((w1.alloc (.cells (zeroRow 8) 5)).setRow w1.heap.size (setB (zeroRow 8) 0 (l.map bv))) := below_setRow (hb.alloc hb.size _) hb.size _
  rw [List.take_of_length_le (Nat.le_refl _)] at hcopy
  generalize (w1.alloc (.cells (zeroRow 8) 5)).setRow w1.heap.size (setB (zeroRow 8) 0 (l.map bv)) = W2 at hcopy hres hBB
  clear hz hblk
  go_wp2_with fail
  go_ret2
  refine ⟨_, rfl, hb.size, ?_, hBB⟩
  rw [splice_zeros] at hres
  exact hres
end Go.Proofs.YtijcclpnkfmpnaaGreat
/- Contracts of package image: the small ones, and New. -/
namespace Go.Proofs.YtijcclpnkfmpnaaGreat
open Go.RowKit

def rightB (n : Int) : Bool := decide (288 ≤ n) && decide (n ≤ 6400)
theorem rightB_true {n : Int} : rightB n = true ↔ 288 ≤ n ∧ n ≤ 6400 := by simp [rightB]
theorem rightB_false {n : Int} : rightB n = false ↔ n < 288 ∨ 6400 < n := by simp [rightB]; omega
theorem right_any (n : Int) (w : World) : Calls Tryz.prog 61 #[.int .i64 n] w fun e w' => e = .returned (.bool (rightB n)) ∧ w = w' := by
  by_cases h1 : 288 ≤ n
  · go_enter Tryz.func61, Tryz.ntmps61
    go_wp2
    go_ret
    exact ⟨ret_bool (by simp [rightB]; intros; omega), rfl⟩
  · go_enter Tryz.func61, Tryz.ntmps61
    go_wp2
    go_ret
    exact ⟨ret_bool (by symm; simp [rightB]; omega), rfl⟩
def handleB (n : Int) : Bool := decide (1 ≤ n) && decide (n ≤ 40)
theorem handleB_true {n : Int} : handleB n = true ↔ 1 ≤ n ∧ n ≤ 40 := by simp [handleB]
theorem handleB_false {n : Int} : handleB n = false ↔ n < 1 ∨ 40 < n := by simp [handleB]; omega
theorem handle_any (n : Int) (w : World) : Calls Tryz.prog 118 #[.int .i64 n] w fun e w' => e = .returned (.bool (handleB n)) ∧ w = w' := by
  by_cases h1 : 1 ≤ n
  · go_enter Tryz.func118, Tryz.ntmps118
    go_wp2
    go_ret
    exact ⟨ret_bool (by simp [handleB]; intros; omega), rfl⟩
  · go_enter Tryz.func118, Tryz.ntmps118
    go_wp2
    go_ret
    exact ⟨ret_bool (by symm; simp [handleB]; omega), rfl⟩
def tagB (n : Int) : Bool := decide (0 ≤ n) && decide (n ≤ 15)
theorem tagB_true {n : Int} : tagB n = true ↔ 0 ≤ n ∧ n ≤ 15 := by simp [tagB]
theorem tagB_false {n : Int} : tagB n = false ↔ n < 0 ∨ 15 < n := by simp [tagB]; omega
theorem tag_any (n : Int) (w : World) : Calls Tryz.prog 41 #[.int .i64 n] w fun e w' => e = .returned (.bool (tagB n)) ∧ w = w' := by
  by_cases h1 : 0 ≤ n
  · go_enter Tryz.func41, Tryz.ntmps41
    go_wp2
    go_ret
    exact ⟨ret_bool (by simp [tagB]; intros; omega), rfl⟩
  · go_enter Tryz.func41, Tryz.ntmps41
    go_wp2
    go_ret
    exact ⟨ret_bool (by symm; simp [tagB]; omega), rfl⟩
def lenB (n : Int) : Bool := decide (1 ≤ n) && decide (n ≤ 1000)
theorem lenB_true {n : Int} : lenB n = true ↔ 1 ≤ n ∧ n ≤ 1000 := by simp [lenB]
theorem lenB_false {n : Int} : lenB n = false ↔ n < 1 ∨ 1000 < n := by simp [lenB]; omega
theorem len_any (n : Int) (w : World) : Calls Tryz.prog 40 #[.int .i64 n] w fun e w' => e = .returned (.bool (lenB n)) ∧ w = w' := by
  by_cases h1 : 1 ≤ n
  · go_enter Tryz.func40, Tryz.ntmps40
    go_wp2
    go_ret
    exact ⟨ret_bool (by simp [lenB]; intros; omega), rfl⟩
  · go_enter Tryz.func40, Tryz.ntmps40
    go_wp2
    go_ret
    exact ⟨ret_bool (by symm; simp [lenB]; omega), rfl⟩
def withinB (n at_ len : Int) : Bool := decide (288 ≤ at_) && decide (len ≤ n) && decide (at_ ≤ n - len)
theorem withinB_true {n a l : Int} : withinB n a l = true ↔ 288 ≤ a ∧ l ≤ n ∧ a ≤ n - l := by simp [withinB, and_assoc]
theorem within_any (n at_ len : Int) (w : World) (hn0 : 0 ≤ n) (hn : n ≤ 1000000) (hl : 0 ≤ len) (hl2 : len ≤ 1000000) :
    Calls Tryz.prog 126 #[.int .i64 n, .agg #[.int .i64 at_, .int .i64 len]] w fun e w' => e = .returned (.bool (withinB n at_ len)) ∧ Below w.heap.size w w' := by
  have hB : ∀ o, Below w.heap.size w (w.alloc o) := fun o => (Below.refl _ _).alloc (Nat.le_refl _) o
  by_cases h1 : 288 ≤ at_
  · by_cases h2 : len ≤ n
    · go_enter Tryz.func126, Tryz.ntmps126
      go_wp2
      go_ret
      exact ⟨ret_bool (by rw [Bool.eq_iff_iff]; simp [withinB]; omega), hB _⟩
    · go_enter Tryz.func126, Tryz.ntmps126
      go_wp2
      go_ret
      exact ⟨ret_bool (by rw [Bool.eq_iff_iff]; simp [withinB]; omega), hB _⟩
  · go_enter Tryz.func126, Tryz.ntmps126
    go_wp2
    go_ret
    exact ⟨ret_bool (by rw [Bool.eq_iff_iff]; simp [withinB]; omega), hB _⟩

theorem check_e3 (A : Option Addr) (n c : Nat) (h : Int) (w : World) (hr : rightB n = false) :
    Calls Tryz.prog 77 #[.slice A n c, .int .i64 h] w fun e w' => e = .returned (.iface 76 (.int .i64 3)) ∧ w = w' := by
  go_enter Tryz.func77, Tryz.ntmps77
  go_wp2_with fail
  refine (right_any _ _).mono ?_
  rintro e w' ⟨rfl, rfl⟩
  rw [hr]
  go_wp2
  go_ret
  exact ⟨rfl, rfl⟩
theorem check_e1 (A : Option Addr) (n c : Nat) (h : Int) (w : World) (hr : rightB n = true) (hh : handleB h = false) :
    Calls Tryz.prog 77 #[.slice A n c, .int .i64 h] w fun e w' => e = .returned (.iface 76 (.int .i64 1)) ∧ w = w' := by
  go_enter Tryz.func77, Tryz.ntmps77
  go_wp2_with fail
  refine (right_any _ _).mono ?_
  rintro e w' ⟨rfl, rfl⟩
  rw [hr]
  go_wp2_with fail
  refine (handle_any _ _).mono ?_
  rintro e w' ⟨rfl, rfl⟩
  rw [hh]
  go_wp2
  go_ret
  exact ⟨rfl, rfl⟩
theorem check_ok (A : Option Addr) (n c : Nat) (h : Int) (w : World) (hr : rightB n = true) (hh : handleB h = true) :
    Calls Tryz.prog 77 #[.slice A n c, .int .i64 h] w fun e w' => e = .returned .nilIface ∧ w = w' := by
  go_enter Tryz.func77, Tryz.ntmps77
  go_wp2_with fail
  refine (right_any _ _).mono ?_
  rintro e w' ⟨rfl, rfl⟩
  rw [hr]
  go_wp2_with fail
  refine (handle_any _ _).mono ?_
  rintro e w' ⟨rfl, rfl⟩
  rw [hh]
  go_wp2
  go_ret
  exact ⟨rfl, rfl⟩

end Go.Proofs.YtijcclpnkfmpnaaGreat
/- The contract of image.Put. -/
namespace Go.Proofs.YtijcclpnkfmpnaaGreat
open Go.RowKit

theorem splice_join (l x y : Bytes) (o : Nat) (h : o + x.length + y.length ≤ l.length) : splice (splice l o x) (o + x.length) y = splice l o (x ++ y) := by
  unfold splice
  have h1 : (l.take o).length = o := by simp; omega
  rw [List.take_append, h1, List.take_of_length_le (by omega), List.take_append, show o + x.length - o = x.length from by omega, List.take_of_length_le (Nat.le_refl _), Nat.sub_self, List.take_zero, List.append_nil]
  rw [List.drop_append, h1, List.drop_of_length_le (by omega), List.nil_append, List.drop_append, List.drop_of_length_le (by omega), List.nil_append, List.drop_drop]
  simp only [List.append_assoc, List.length_append]
  congr 4
  omega
/-- the five bytes of an entry -/
def entB (at_ len tag : Nat) : Bytes := UInt8.ofNat (tag + 1) :: (numB at_ 2 ++ numB len 2)
theorem entB_len (at_ len tag : Nat) : (entB at_ len tag).length = 5 := by simp [entB, numB_length]
def entO (h : Int) : Nat := (5 * (h - 1)).toNat

theorem raw_any (A : Option Addr) (n c : Nat) (h : Int) (w : World) (h1 : 1 ≤ h) (h2 : h ≤ 40) (hn : 200 ≤ n) (hc : n ≤ c) :
    Calls Tryz.prog 83 #[.slice A n c, .int .i64 h] w fun e w' => e = .returned (.slice (A.map (·.add (entO h))) 5 (c - entO h)) ∧ w = w' := by
  obtain ⟨k, rfl⟩ : ∃ k : Nat, h = (k : Int) + 1 := ⟨(h - 1).toNat, by omega⟩
  have he : Hidden (entO ((k : Int) + 1) = 5 * k) := ⟨by unfold entO; omega⟩
  have hk : k < 40 := by omega
  go_enter Tryz.func83, Tryz.ntmps83
  go_wp2
  go_ret
  rw [he.out]
  refine ⟨?_, rfl⟩
  show Ending.returned (.slice (A.map (·.add (k * 5))) ((k + 1) * 5 - k * 5) (c - k * 5)) = _
  rw [Nat.mul_comm k 5, show (k + 1) * 5 - 5 * k = 5 from by omega]

/-- an entry as a value -/
abbrev entV (h at_ len tag : Int) : Value := .agg #[.int .i64 h, .int .i64 at_, .int .i64 len, .int .i64 tag]
/-- a block of an entry's four cells -/
structure EntAt (w : World) (p : Nat) (h at_ len tag : Int) : Prop where
  c0 : w.cell? ⟨p, 0, none⟩ = some (.int .i64 h)
  c1 : w.cell? ⟨p, 1, none⟩ = some (.int .i64 at_)
  c2 : w.cell? ⟨p, 2, none⟩ = some (.int .i64 len)
  c3 : w.cell? ⟨p, 3, none⟩ = some (.int .i64 tag)
theorem EntAt.new (w : World) (h at_ len tag : Int) (t : TypeId) : EntAt (w.alloc (.cells #[.int .i64 h, .int .i64 at_, .int .i64 len, .int .i64 tag] t)) w.heap.size h at_ len tag :=
  ⟨World.cell?_alloc_mark w _ t (0, 0) 0, World.cell?_alloc_mark w _ t (0, 0) 1, World.cell?_alloc_mark w _ t (0, 0) 2, World.cell?_alloc_mark w _ t (0, 0) 3⟩
theorem EntAt.keep {w w' : World} {p : Nat} {h at_ len tag : Int} (e : EntAt w p h at_ len tag) (hk : w'.heap[p]? = w.heap[p]?) : EntAt w' p h at_ len tag :=
  ⟨(World.cell?_of_block (w := w) hk).trans e.c0, (World.cell?_of_block (w := w) hk).trans e.c1, (World.cell?_of_block (w := w) hk).trans e.c2, (World.cell?_of_block (w := w) hk).trans e.c3⟩

theorem iput_e3 (A : Option Addr) (n c : Nat) (h at_ len tag : Int) (w : World) (hr : rightB n = false) :
    Calls Tryz.prog 82 #[.slice A n c, entV h at_ len tag] w fun e w' => e = .returned (.tuple #[.slice none 0 0, .iface 76 (.int .i64 3)]) ∧ Below w.heap.size w w' := by
  go_enter Tryz.func82, Tryz.ntmps82
  go_wp2_with fail
  refine (check_e3 _ _ _ _ _ hr).mono ?_
  rintro e w' ⟨rfl, rfl⟩
  go_wp2
  go_ret2
  exact ⟨rfl, (Below.refl _ _).alloc (Nat.le_refl _) _⟩
theorem iput_e1 (A : Option Addr) (n c : Nat) (h at_ len tag : Int) (w : World) (hr : rightB n = true) (hh : handleB h = false ∨ tagB tag = false ∨ lenB len = false) :
    Calls Tryz.prog 82 #[.slice A n c, entV h at_ len tag] w fun e w' => e = .returned (.tuple #[.slice none 0 0, .iface 76 (.int .i64 1)]) ∧ Below w.heap.size w w' := by
  cases hx : handleB h with
  | false =>
    clear hh
    go_enter Tryz.func82, Tryz.ntmps82
    go_wp2_with fail
    refine (check_e1 _ _ _ _ _ hr hx).mono ?_
    rintro e w' ⟨rfl, rfl⟩
    go_wp2
    go_ret2
    exact ⟨rfl, (Below.refl _ _).alloc (Nat.le_refl _) _⟩
  | true =>
    cases hy : tagB tag with
    | false =>
      clear hh
      go_enter Tryz.func82, Tryz.ntmps82
      go_wp2_with fail
      refine (check_ok _ _ _ _ _ hr hx).mono ?_
      rintro e w' ⟨rfl, rfl⟩
      go_wp2_with fail
      refine (tag_any _ _).mono ?_
      rintro e w' ⟨rfl, rfl⟩
      rw [hy]
      go_wp2
      go_ret2
      exact ⟨rfl, (Below.refl _ _).alloc (Nat.le_refl _) _⟩
    | true =>
      have hz : lenB len = false := by simpa [hx, hy] using hh
      clear hh
      go_enter Tryz.func82, Tryz.ntmps82
      go_wp2_with fail
      refine (check_ok _ _ _ _ _ hr hx).mono ?_
      rintro e w' ⟨rfl, rfl⟩
      go_wp2_with fail
      refine (tag_any _ _).mono ?_
      rintro e w' ⟨rfl, rfl⟩
      rw [hy]
      go_wp2_with fail
      refine (len_any _ _).mono ?_
      rintro e w' ⟨rfl, rfl⟩
      rw [hz]
      go_wp2
      go_ret2
      exact ⟨rfl, (Below.refl _ _).alloc (Nat.le_refl _) _⟩
theorem iput_e3w (A : Option Addr) (n c : Nat) (h at_ len tag : Int) (w : World) (hr : rightB n = true) (hx : handleB h = true) (hy : tagB tag = true) (hz : lenB len = true) (hw : withinB n at_ len = false) :
    Calls Tryz.prog 82 #[.slice A n c, entV h at_ len tag] w fun e w' => e = .returned (.tuple #[.slice none 0 0, .iface 76 (.int .i64 3)]) ∧ Below w.heap.size w w' := by
  have hrb := rightB_true.1 hr
  have hlb := lenB_true.1 hz
  go_enter Tryz.func82, Tryz.ntmps82
  go_wp2_with fail
  refine (check_ok _ _ _ _ _ hr hx).mono ?_
  rintro e w' ⟨rfl, rfl⟩
  go_wp2_with fail
  refine (tag_any _ _).mono ?_
  rintro e w' ⟨rfl, rfl⟩
  rw [hy]
  go_wp2_with fail
  refine (len_any _ _).mono ?_
  rintro e w' ⟨rfl, rfl⟩
  rw [hz]
  go_wp2_with fail
  refine (within_any _ _ _ _ (by omega) (by omega) (by omega) (by omega)).mono ?_
  rintro e w1 ⟨rfl, hb⟩
  rw [hw]
  go_wp2
  go_ret2
  exact ⟨rfl, ((Below.refl _ _).alloc (Nat.le_refl _) _).trans (hb.mono (by simp))⟩

/-- an image with an entry -/
def putEnt (l : Bytes) (h at_ len tag : Int) : Bytes := splice l (entO h) (entB at_.toNat len.toNat tag.toNat)
theorem putEnt_len (l : Bytes) (h at_ len tag : Int) (h1 : 1 ≤ h) (h2 : h ≤ 40) (hl : 200 ≤ l.length) : (putEnt l h at_ len tag).length = l.length := by
  unfold putEnt; refine splice_len _ _ _ ?_; rw [entB_len]; unfold entO; omega

set_option maxRecDepth 100000 in
set_option maxHeartbeats 1000000 in
theorem iput_ok (A : Option Addr) (n c : Nat) (l : Bytes) (h at_ len tag : Int) (w : World) (hn : l.length = n) (_hnc : n ≤ c) (hrd : Rd w A l) (hr : rightB n = true) (hx : handleB h = true) (hy : tagB tag = true) (hz : lenB len = true) (hw : withinB n at_ len = true) :
    Calls Tryz.prog 82 #[.slice A n c, entV h at_ len tag] w fun e w' => ∃ g cap, e = .returned (.tuple #[.slice (some ⟨g, 0, none⟩) n cap, .nilIface]) ∧ w.heap.size ≤ g ∧ Row w' 5 g cap (putEnt l h at_ len tag) ∧ Below w.heap.size w w' := by
  have hrb := rightB_true.1 hr
  have hlb := lenB_true.1 hz
  have hhb := handleB_true.1 hx
  have htb := tagB_true.1 hy
  have hwb := withinB_true.1 hw
  obtain ⟨a, rfl⟩ := Int.eq_ofNat_of_zero_le (show 0 ≤ at_ by omega)
  obtain ⟨m, rfl⟩ := Int.eq_ofNat_of_zero_le (show 0 ≤ len by omega)
  obtain ⟨t, rfl⟩ := Int.eq_ofNat_of_zero_le htb.1
  have heo : entO h + 5 ≤ 200 := by unfold entO; omega
  have hB0 : Below w.heap.size w (w.alloc (.cells #[.int .i64 h, .int .i64 a, .int .i64 m, .int .i64 t] 85)) := (Below.refl _ _).alloc (Nat.le_refl _) _
  have he0 := EntAt.new w h a m t 85
  obtain ⟨p0, off0, rfl, hlt0⟩ := hrd.lt (by omega)
  go_enter Tryz.func82, Tryz.ntmps82
  go_wp2_with fail
  refine (check_ok _ _ _ _ _ hr hx).mono ?_
  rintro e w' ⟨rfl, rfl⟩
  go_wp2_with fail
  refine (tag_any _ _).mono ?_
  rintro e w' ⟨rfl, rfl⟩
  rw [hy]
  go_wp2_with fail
  refine (len_any _ _).mono ?_
  rintro e w' ⟨rfl, rfl⟩
  rw [hz]
  go_wp2_with fail
  refine (within_any _ _ _ _ (by omega) (by omega) (by omega) (by omega)).mono ?_
  rintro e w1 ⟨rfl, hb1⟩
  rw [hw]
  have hB1 : Below w.heap.size w w1 := hB0.trans (hb1.mono hB0.size)
  have he1 := he0.keep (hb1.block w.heap.size (by simp))
  clear he0 hb1 hB0
  go_wp2_with fail
  refine (clone_some _ _ _ l _ hn (by omega) (hrd.below hB1)).mono ?_
  rintro e w2 ⟨g, cap, rfl, hg, hrow, hb2⟩
  have hB2 : Below w.heap.size w w2 := hB1.trans (hb2.mono hB1.size)
  have hlt1 : w.heap.size < w1.heap.size := block_lt_of_cell he1.c0
  have he2 := he1.keep (hb2.block w.heap.size hlt1)
  have hgw : w.heap.size ≤ g := Nat.le_trans hB1.size hg
  have hgne : w.heap.size ≠ g := by omega
  have hlc := hrow.le
  have hc0 := he2.c0
  clear he1 hb2 hB1
  go_wp2_with fail
  refine (raw_any (some ⟨g, 0, none⟩) n cap h _ hhb.1 hhb.2 (by omega) (by omega)).mono ?_
  rintro e w3 ⟨rfl, rfl⟩
  simp only [Option.map_some, Addr.add_lit, Nat.zero_add]
  have hrow' := hrow
  obtain ⟨cur, hcur, hcl, hcm, hcs, hct⟩ := hrow'
  generalize ho : entO h = o at *
  have HO := Hidden.mk ho
  clear ho
  have hcell : w2.cell? ⟨g, o, none⟩ = some (cur[o]'(by omega)) := by
    rw [cell_of_row w2 g _ _ _ _ hcur]; exact Array.getElem?_eq_getElem (by omega)
  have hfr : w2.frozen? ⟨g, o, none⟩ = false := frozen_of_row w2 g _ _ _ hcur
  generalize cur[o]'(by omega) = u0 at hcell
  have hc3 := he2.c3
  have hst : w2.setCell ⟨g, o, none⟩ (.int .u8 ((t : Int) + 1)) = w2.setRow g (setB cur o ([UInt8.ofNat (t + 1)].map bv)) := by
    rw [setCell_eq_setRow w2 g _ _ _ _ _ hcur]
    have := setB_snoc cur o [] (bv (UInt8.ofNat (t + 1))) (by simp; omega)
    rw [setB_nil] at this
    simp only [List.length_nil, Nat.add_zero, List.nil_append] at this
    rw [List.map_cons, List.map_nil, ← this]
    congr 2
    simp only [bv, UInt8.toNat_ofNat']
    congr 1
    omega
  have he3 : EntAt (w2.setCell ⟨g, o, none⟩ (.int .u8 ((t : Int) + 1))) w.heap.size h a m t := by rw [hst]; exact he2.keep (setRow_other w2 g _ _ hgne)
  have hB3 : Below w.heap.size w (w2.setCell ⟨g, o, none⟩ (.int .u8 ((t : Int) + 1))) := hB2.setCell hgw _
  have hrow3 : Row (w2.setCell ⟨g, o, none⟩ (.int .u8 ((t : Int) + 1))) 5 g cap (splice l o [UInt8.ofNat (t + 1)]) := by rw [hst]; exact hrow.set_ o _ (by simp; omega) cur hcur
  have hw3 : ∃ w3, w2.setCell ⟨g, o, none⟩ (.int .u8 ((t : Int) + 1)) = w3 := ⟨_, rfl⟩
  have hc1 := he3.c1
  clear hst
  go_wp2_with fail
  generalize w2.setCell ⟨g, o, none⟩ (.int .u8 ((t : Int) + 1)) = w3 at *
  clear hcell hfr hcur hcs hct hcl hcm hrow hB2 he2 hc0 hc1 hc3 hw3
  obtain ⟨cur3, hcur3, _, hcm3, hcs3, _⟩ := id hrow3
  refine (set_any g o 5 (cap - o) 5 cur3 1 a 2 _ hcur3 (by omega) (by omega) (by simp [maxLen]) (by omega)).mono ?_
  rintro e w4 ⟨rfl, hw4⟩
  have hl3 : (splice l o [UInt8.ofNat (t + 1)]).length = l.length := splice_len _ _ _ (by simp; omega)
  have hrow4 := hrow3.set_ (o + 1) (numB a 2) (by rw [hl3, numB_length]; omega) cur3 hcur3
  rw [← hw4] at hrow4
  have he4 : EntAt w4 w.heap.size h a m t := by rw [hw4]; exact he3.keep (setRow_other w3 g _ _ hgne)
  have hB4 : Below w.heap.size w w4 := by rw [hw4]; exact below_setRow hB3 hgw _
  have hc2 := he4.c2
  clear hw4 hcur3 hcm3 hcs3 he3 hB3 hrow3
  go_wp2_with fail
  clear hc2
  obtain ⟨cur4, hcur4, _, hcm4, hcs4, _⟩ := id hrow4
  refine (set_any g o 5 (cap - o) 5 cur4 3 m 2 _ hcur4 (by omega) (by omega) (by simp [maxLen]) (by omega)).mono ?_
  rintro e w5 ⟨rfl, rfl⟩
  have hl4 : (splice (splice l o [UInt8.ofNat (t + 1)]) (o + 1) (numB a 2)).length = l.length := by rw [splice_len _ _ _ (by rw [hl3, numB_length]; omega), hl3]
  have hrow5 := hrow4.set_ (o + 3) (numB m 2) (by rw [hl4, numB_length]; omega) cur4 hcur4
  have hB5 : Below w.heap.size w (w4.setRow g (setB cur4 (o + 3) ((numB m 2).map bv))) := below_setRow hB4 hgw _
  generalize w4.setRow g (setB cur4 (o + 3) ((numB m 2).map bv)) = w5 at *
  clear hcur4 hcs4
  go_wp2_with fail
  go_ret2
  refine ⟨g, cap, rfl, hgw, ?_, hB5⟩
  have e1 := splice_join l [UInt8.ofNat (t + 1)] (numB a 2) o (by simp [numB_length]; omega)
  have e2 := splice_join l ([UInt8.ofNat (t + 1)] ++ numB a 2) (numB m 2) o (by simp [numB_length]; omega)
  simp only [List.length_append, List.length_cons, List.length_nil, numB_length] at e1 e2
  have : putEnt l h a m t = splice l o (([UInt8.ofNat (t + 1)] ++ numB a 2) ++ numB m 2) := by
    unfold putEnt; rw [HO.out]; rfl
  rw [this, ← e2, ← e1]
  exact hrow5

/-- what Put answers, whatever it is handed -/
def PutAns (w w' : World) (n : Nat) (l : Bytes) (h at_ len tag : Int) (v err : Value) : Prop :=
  (∃ k, err = .iface 76 (.int .i64 k)) ∨
  (err = .nilIface ∧ handleB h = true ∧ tagB tag = true ∧ lenB len = true ∧ withinB n at_ len = true ∧ ∃ g cap, v = .slice (some ⟨g, 0, none⟩) n cap ∧ w.heap.size ≤ g ∧ Row w' 5 g cap (putEnt l h at_ len tag))
theorem iput_any (A : Option Addr) (n c : Nat) (l : Bytes) (h at_ len tag : Int) (w : World) (hn : l.length = n) (hnc : n ≤ c) (hrd : Rd w A l) :
    Calls Tryz.prog 82 #[.slice A n c, entV h at_ len tag] w fun e w' => ∃ v err, e = .returned (.tuple #[v, err]) ∧ Below w.heap.size w w' ∧ PutAns w w' n l h at_ len tag v err := by
  cases hr : rightB n with
  | false => exact (iput_e3 A n c h at_ len tag w hr).mono fun e w' ⟨he, hb⟩ => ⟨_, _, he, hb, .inl ⟨3, rfl⟩⟩
  | true =>
    by_cases hbad : handleB h = false ∨ tagB tag = false ∨ lenB len = false
    · exact (iput_e1 A n c h at_ len tag w hr hbad).mono fun e w' ⟨he, hb⟩ => ⟨_, _, he, hb, .inl ⟨1, rfl⟩⟩
    · have h1 : handleB h = true := by cases hx : handleB h <;> simp_all
      have h2 : tagB tag = true := by cases hx : tagB tag <;> simp_all
      have h3 : lenB len = true := by cases hx : lenB len <;> simp_all
      cases hw : withinB n at_ len with
      | false => exact (iput_e3w A n c h at_ len tag w hr h1 h2 h3 hw).mono fun e w' ⟨he, hb⟩ => ⟨_, _, he, hb, .inl ⟨3, rfl⟩⟩
      | true => exact (iput_ok A n c l h at_ len tag w hn hnc hrd hr h1 h2 h3 hw).mono fun e w' ⟨g, cap, he, hg, hrow, hb⟩ => ⟨_, _, he, hb, .inr ⟨rfl, h1, h2, h3, hw, g, cap, rfl, hg, hrow⟩⟩

theorem PutAns.isNil {w w' : World} {n : Nat} {l : Bytes} {h at_ len tag : Int} {v err : Value} (a : PutAns w w' n l h at_ len tag v err) : ∃ b, ErrIs err b ∧
    (b = true → handleB h = true ∧ tagB tag = true ∧ lenB len = true ∧ withinB n at_ len = true ∧ ∃ g cap, v = .slice (some ⟨g, 0, none⟩) n cap ∧ w.heap.size ≤ g ∧ Row w' 5 g cap (putEnt l h at_ len tag)) := by
  rcases a with ⟨k, rfl⟩ | ⟨rfl, h1⟩
  · exact ⟨false, errIs_some k, fun h => by cases h⟩
  · exact ⟨true, errIs_nil, fun _ => h1⟩
end Go.Proofs.YtijcclpnkfmpnaaGreat
/- The contract of num.GetName. -/
namespace Go.Proofs.YtijcclpnkfmpnaaGreat
open Go.RowKit

/-- bytes as a text -/
theorem conv_text (w : World) (A : Option Addr) (n c : Nat) (l : Bytes) (hn : l.length = n) (hr : Rd w A l) : (convert 22 9 (.slice A n c)).run Tryz.prog w = .ok (sv l) w := by
  subst hn
  rcases A with _ | ad
  · have h0 : l = [] := by
      cases l with
      | nil => rfl
      | cons x r => obtain ⟨b, off, h, _⟩ := hr 0 (by simp); cases h
    subst h0
    have he := Tryz.underlying5
    simp [convert, run_underlying Tryz.underlying22, run_underlying Tryz.underlying9, run_underlying he, Conv.bytesToString]
    rfl
  · exact run_convert_bytes_back w _ _ _ ad c l Tryz.underlying22 Tryz.underlying5 Tryz.underlying9 (fun j hj => by
      have := hr.cells j (bv l[j]) (by simp [hj])
      exact this)

def nameAt (l : Bytes) : Bytes := l.take (l.idxOf 0)
def nameRest (l : Bytes) : Bytes := l.drop (l.idxOf 0)
def gotName (l : Bytes) : Bool := isName (nameAt l) && !(nameRest l).any nonZero

theorem getName_e3 (A : Option Addr) (n c : Nat) (w : World) (h8 : n ≠ 8) :
    Calls Tryz.prog 89 #[.slice A n c] w fun e w' => e = .returned (.tuple #[sv [], .iface 76 (.int .i64 3)]) ∧ w = w' := by
  have h8' : ((n : Int) != 8) = true := by simp; omega
  clear h8
  go_enter Tryz.func89, Tryz.ntmps89
  go_wp2
  go_ret2
  exact ⟨rfl, rfl⟩
set_option maxRecDepth 100000 in
theorem getName_any (A : Option Addr) (c : Nat) (l : Bytes) (w : World) (h8 : l.length = 8) (hc : 8 ≤ c) (hr : Rd w A l) :
    Calls Tryz.prog 89 #[.slice A 8 c] w fun e w' => e = .returned (.tuple (if gotName l = true then #[sv (nameAt l), .nilIface] else #[sv [], .iface 76 (.int .i64 2)])) ∧ Below w.heap.size w w' := by
  generalize hres : (if gotName l = true then #[sv (nameAt l), .nilIface] else #[sv [], .iface 76 (.int .i64 2)]) = res
  have HRES := Hidden.mk hres
  clear hres
  go_enter Tryz.func89, Tryz.ntmps89
  go_wp2_with fail
  refine (index_any A 8 c l 0 _ h8 (by simp [maxLen]) hr).mono ?_
  rintro e w1 ⟨rfl, rfl⟩
  by_cases hz : (0 : UInt8) ∈ l
  · have hk : l.idxOf 0 < l.length := List.idxOf_lt_length_of_mem hz
    have hi : idxB l 0 = (l.idxOf 0 : Nat) := if_pos hz
    rw [hi]
    have hna : Rd w A (nameAt l) := hr.take _ (by omega)
    have hlen : (nameAt l).length = l.idxOf 0 := by simp [nameAt]; omega
    have HN : Hidden (nameRest l = l.drop (l.idxOf 0)) := ⟨rfl⟩
    generalize l.idxOf 0 = k at *
    have hcv := conv_text w A k c (nameAt l) hlen hna
    go_wp2_with fail
    refine (name_any (nameAt l) _ (by omega)).mono ?_
    rintro e w2 ⟨rfl, hb2⟩
    cases hnm : isName (nameAt l) with
    | false =>
      have hr2 : Hidden (#[sv [], .iface 76 (.int .i64 2)] = res) := ⟨by rw [← HRES.out]; simp [gotName, hnm]⟩
      clear hnm
      go_wp2_with fail
      go_ret2
      exact ⟨congrArg (fun r => Ending.returned (.tuple r)) hr2.out, hb2⟩
    | true =>
      have hrest : Rd w2 (A.map (·.add k)) ((l.drop k).take (8 - k)) := (hr.below hb2).cut k (8 - k) (by omega)
      rw [List.take_of_length_le (by simp; omega), ← HN.out] at hrest
      have hlr : (nameRest l).length = 8 - k := by rw [HN.out]; simp; omega
      go_wp2_with fail
      refine (containsf_zero _ _ _ (nameRest l) _ hlr (by simp only [maxLen]; omega) hrest).mono ?_
      rintro e w3 ⟨rfl, rfl⟩
      cases hz2 : (nameRest l).any nonZero with
      | true =>
        have hr2 : Hidden (#[sv [], .iface 76 (.int .i64 2)] = res) := ⟨by rw [← HRES.out]; simp [gotName, hz2]⟩
        clear hnm hz2
        go_wp2_with fail
        go_ret2
        exact ⟨congrArg (fun r => Ending.returned (.tuple r)) hr2.out, hb2⟩
      | false =>
        have hr2 : Hidden (#[sv (nameAt l), .nilIface] = res) := ⟨by rw [← HRES.out]; simp [gotName, hnm, hz2]⟩
        clear hnm hz2
        go_wp2_with fail
        go_ret2
        exact ⟨congrArg (fun r => Ending.returned (.tuple r)) hr2.out, hb2⟩
  · have hi : idxB l 0 = -1 := if_neg hz
    rw [hi]
    have hk : l.idxOf 0 = 8 := by rw [List.idxOf_eq_length hz, h8]
    have hna : Rd w A (nameAt l) := hr.take _ (by omega)
    have hlen : (nameAt l).length = 8 := by simp [nameAt]; omega
    have hrest0 : nameRest l = [] := by simp [nameRest, hk]; omega
    have hcv := conv_text w A 8 c (nameAt l) hlen hna
    clear hk hz hi
    go_wp2_with fail
    refine (name_any (nameAt l) _ (by omega)).mono ?_
    rintro e w2 ⟨rfl, hb2⟩
    cases hnm : isName (nameAt l) with
    | false =>
      have hr2 : Hidden (#[sv [], .iface 76 (.int .i64 2)] = res) := ⟨by rw [← HRES.out]; simp [gotName, hnm]⟩
      clear hnm hrest0
      go_wp2_with fail
      go_ret2
      exact ⟨congrArg (fun r => Ending.returned (.tuple r)) hr2.out, hb2⟩
    | true =>
      have hr2 : Hidden (#[sv (nameAt l), .nilIface] = res) := ⟨by rw [← HRES.out]; simp [gotName, hnm, hrest0]⟩
      clear hnm hrest0
      go_wp2_with fail
      all_goals
        refine (containsf_zero _ _ _ [] _ rfl (by simp) Rd.nil_).mono ?_
        rintro e w3 ⟨rfl, rfl⟩
        go_wp2_with fail
        go_ret2
        exact ⟨congrArg (fun r => Ending.returned (.tuple r)) hr2.out, hb2⟩
end Go.Proofs.YtijcclpnkfmpnaaGreat
/- NumLow: plain facts on numbers as bytes; the contract of pow. -/
namespace Go.Proofs.YtijcclpnkfmpnaaGreat
open Go.RowKit

theorem ofB_append (a b : Bytes) : ofB (a ++ b) = ofB a + 2 ^ (8 * a.length) * ofB b := by
  induction a with
  | nil => simp [ofB]
  | cons d a ih =>
    simp only [List.cons_append, ofB, ih, List.length_cons]
    rw [show 8 * (a.length + 1) = 8 * a.length + 8 from by omega, Nat.pow_add, Nat.mul_add, Nat.add_assoc]
    congr 2
    rw [← Nat.mul_assoc, Nat.mul_comm 256, show 2 ^ 8 = 256 from rfl]
theorem ofB_numB (n s : Nat) : ofB (numB n s) = n % 2 ^ (8 * s) := by
  induction s generalizing n with
  | zero => simp [numB, ofB, Nat.mod_one]
  | succ s ih =>
    simp only [numB, ofB, ofNat_mod, ih]
    rw [show 8 * (s + 1) = 8 + 8 * s from by omega, Nat.pow_add, show 2 ^ 8 = 256 from rfl, Nat.mod_mul]
theorem numB_take (n s i : Nat) (h : i ≤ s) : (numB n s).take i = numB n i := by
  induction s generalizing n i with
  | zero => have : i = 0 := by omega
            subst this; rfl
  | succ s ih =>
    cases i with
    | zero => simp [numB]
    | succ i => simp only [numB, List.take_succ_cons]; rw [ih _ _ (by omega)]
theorem splice_mid (l bs : Bytes) (i : Nat) (s : Nat) (h : i + bs.length ≤ l.length) (hs : s ≤ bs.length) : ((splice l i bs).drop i).take s = bs.take s := by
  unfold splice
  have hl : (l.take i).length = i := by simp; omega
  rw [List.drop_append_of_le_length (by omega), List.drop_of_length_le (by omega), List.nil_append, List.take_append_of_le_length hs]
/-- what was put is got, in as many bytes or in fewer -/
theorem getN_putB (l : Bytes) (a x s i : Nat) (h : a + s ≤ l.length) (hi : i ≤ s) : getN (putB l a x s) a i = x % 2 ^ (8 * i) := by
  unfold getN putB
  simp only [Int.toNat_natCast]
  rw [splice_mid _ _ _ _ (by rw [numB_length]; omega) (by rw [numB_length]; omega), numB_take _ _ _ hi, ofB_numB]
theorem mostN_val (s : Nat) (h1 : 1 ≤ s) (h4 : s ≤ 4) : mostN s = ((2 ^ (8 * s) - 1 : Nat) : Int) := by
  have : s = 1 ∨ s = 2 ∨ s = 3 ∨ s = 4 := by omega
  rcases this with rfl | rfl | rfl | rfl <;> simp [mostN]
theorem mod_most (x s : Nat) (h1 : 1 ≤ s) (h4 : s ≤ 4) (hx : (x : Int) ≤ mostN s) : x % 2 ^ (8 * s) = x := by
  rw [mostN_val s h1 h4] at hx
  have : 0 < 2 ^ (8 * s) := Nat.pow_pos (by omega)
  exact Nat.mod_eq_of_lt (by omega)
theorem putB_len (l : Bytes) (a x s : Nat) (h : a + s ≤ l.length) : (putB l a x s).length = l.length := by
  unfold putB; simp only [Int.toNat_natCast]; exact splice_len _ _ _ (by rw [numB_length]; omega)
theorem putB_len' (l : Bytes) (a x s : Int) (hs : 1 ≤ s) (h0 : 0 ≤ a) (h : a + s ≤ l.length) : (putB l a x s).length = l.length := by
  unfold putB; exact splice_len _ _ _ (by rw [numB_length]; omega)
theorem splice_far (l bs : Bytes) (o i s : Nat) (h : o + bs.length ≤ l.length) (hd : i + s ≤ o ∨ o + bs.length ≤ i) : ((splice l o bs).drop i).take s = (l.drop i).take s := by
  apply List.ext_getElem?
  intro j
  rw [List.getElem?_take, List.getElem?_take]
  by_cases hj : j < s
  · rw [if_pos hj, if_pos hj, List.getElem?_drop, List.getElem?_drop]
    unfold splice
    have hl : (l.take o).length = o := by simp; omega
    by_cases h1 : i + j < o
    · rw [List.getElem?_append_left (by omega), List.getElem?_take, if_pos h1]
    · rw [List.getElem?_append_right (by omega), hl, List.getElem?_append_right (by omega), List.getElem?_drop]
      congr 1; omega
  · rw [if_neg hj, if_neg hj]
theorem getN_far (l : Bytes) (a s o : Nat) (ho : o + 1 ≤ l.length) (hd : o < a ∨ a + s ≤ o) : getN (putB l o (0 : Nat) (1 : Nat)) a s = getN l a s := by
  unfold getN putB
  simp only [Int.toNat_natCast]
  rw [splice_far _ _ _ _ _ (by rw [numB_length]; omega) (by rw [numB_length]; omega)]
theorem sameL_take (k : Nat) : ∀ (a b : Bytes), a.take k = b.take k → k ≤ a.length → k ≤ b.length → k ≤ sameL a b := by
  induction k with
  | zero => intros; omega
  | succ k ih =>
    intro a b ht ha hb
    cases a with
    | nil => simp at ha
    | cons x a =>
      cases b with
      | nil => simp at hb
      | cons y b =>
        simp only [List.take_succ_cons, List.cons.injEq] at ht
        have := ih a b ht.2 (by simpa using ha) (by simpa using hb)
        simp only [sameL, if_pos ht.1]
        omega
theorem sameL_put (l : Bytes) (o : Nat) (h : o + 1 ≤ l.length) : o ≤ sameL l (putB l o (0 : Nat) (1 : Nat)) := by
  refine sameL_take o _ _ ?_ (by omega) (by rw [putB_len _ _ _ _ h]; omega)
  unfold putB splice
  simp only [Int.toNat_natCast]
  have hl : (l.take o).length = o := by simp; omega
  rw [List.take_append_of_le_length (by omega), List.take_take, Nat.min_self]

end Go.Proofs.YtijcclpnkfmpnaaGreat
/- NumBack: the walk. -/
namespace Go.Proofs.YtijcclpnkfmpnaaGreat
open Go.RowKit

theorem two_row (w : World) : Row (w.alloc (.cells #[.int .u8 1, .int .u8 2] 5)) 5 w.heap.size 2 [1, 2] :=
  ⟨_, heap_alloc_new w _, by simp, by simp [maxLen], by simp, rfl⟩
theorem two_get : getN [1, 2] 0 2 = 513 := by decide
theorem putB_take (l : Bytes) (a x s : Nat) (h : a + s ≤ l.length) : (putB l a x s).take a = l.take a := by
  unfold putB splice
  simp only [Int.toNat_natCast]
  rw [List.take_append_of_le_length (by simp; omega), List.take_take, Nat.min_self]
theorem putB_drop (l : Bytes) (a x s : Nat) (h : a + s ≤ l.length) : (putB l a x s).drop (a + s) = l.drop (a + s) := by
  unfold putB splice
  simp only [Int.toNat_natCast, numB_length]
  rw [← List.append_assoc, List.drop_append_of_le_length (by simp [numB_length]; omega), List.drop_of_length_le (by simp [numB_length]; omega), List.nil_append]
theorem nameB_len (s : Bytes) (h : isName s = true) : (nameB s).length = 8 := by
  have h8 : s.length ≤ 8 := by simp [isName] at h; omega
  simp [nameB]; omega
theorem nameB_back (s : Bytes) (h : isName s = true) : gotName (nameB s) = true ∧ nameAt (nameB s) = s := by
  have h8 : s.length ≤ 8 := by simp [isName] at h; omega
  have hz : (0 : UInt8) ∉ s := by
    intro h0
    simp only [isName, Bool.and_eq_true, Bool.not_eq_true', List.any_eq_false] at h
    exact h.2 0 h0 (by decide)
  have hi : (nameB s).idxOf 0 = s.length := by
    unfold nameB
    rw [List.idxOf_append, if_neg hz]
    rcases Nat.lt_or_ge s.length 8 with hlt | hge
    · obtain ⟨m, hm⟩ : ∃ m, 8 - s.length = m + 1 := ⟨7 - s.length, by omega⟩
      rw [hm, List.replicate_succ]
      simp
    · have : 8 - s.length = 0 := by omega
      simp [this]
  have h1 : nameAt (nameB s) = s := by unfold nameAt; rw [hi]; simp [nameB]
  have h2 : nameRest (nameB s) = List.replicate (8 - s.length) 0 := by unfold nameRest; rw [hi]; simp [nameB]
  refine ⟨?_, h1⟩
  unfold gotName
  rw [h1, h2, h]
  simp [nonZero]

end Go.Proofs.YtijcclpnkfmpnaaGreat
/- The contracts of stamp.Make and bytes.Equal. -/
namespace Go.Proofs.YtijcclpnkfmpnaaGreat
open Go.RowKit

/-- a sector of a stamp and a body -/
def makeB (st : Nat) (b : Bytes) : Bytes := numB st 4 ++ (b ++ List.replicate (24 - b.length) 0) ++ numB st 4
theorem makeB_len (st : Nat) (b : Bytes) (h : b.length ≤ 24) : (makeB st b).length = 32 := by simp [makeB, numB_length]; omega
theorem splice_app (a b c d : Bytes) (h : b.length = d.length) : splice (a ++ (b ++ c)) a.length d = a ++ (d ++ c) := by
  simp only [splice, List.take_left, ← h]
  rw [← List.append_assoc a b c, ← List.length_append, List.drop_left]
theorem makeB_steps (st : Nat) (b : Bytes) (h : b.length ≤ 24) : splice (splice (splice (List.replicate 32 0) 0 (numB st 4)) 4 b) 28 (numB st 4) = makeB st b := by
  have hl := numB_length st 4
  rw [splice_zeros, hl, show 32 - 4 = b.length + ((24 - b.length) + 4) from by omega, ← List.replicate_append_replicate]
  have e1 := splice_app (numB st 4) (List.replicate b.length 0) (List.replicate ((24 - b.length) + 4) 0) b (by simp)
  rw [hl] at e1
  rw [e1, ← List.replicate_append_replicate]
  have e2 := splice_app (numB st 4 ++ (b ++ List.replicate (24 - b.length) 0)) (List.replicate 4 0) [] (numB st 4) (by simp [hl])
  have hlen : (numB st 4 ++ (b ++ List.replicate (24 - b.length) 0)).length = 28 := by simp [hl]; omega
  rw [hlen] at e2
  simp only [List.append_nil] at e2
  rw [← List.append_assoc b, ← List.append_assoc (numB st 4), e2, makeB]

theorem make_e1 (st : Int) (A : Option Addr) (n c : Nat) (w : World) (h : st < 1 ∨ 4294967295 < st) :
    Calls Tryz.prog 99 #[.int .i64 st, .slice A n c] w fun e w' => e = .returned (.tuple #[.slice none 0 0, .iface 76 (.int .i64 1)]) ∧ w = w' := by
  by_cases h1 : st < 1
  · clear h
    go_enter Tryz.func99, Tryz.ntmps99
    go_wp2
    go_ret2
    exact ⟨rfl, rfl⟩
  · have h2 : 4294967295 < st := by omega
    clear h
    go_enter Tryz.func99, Tryz.ntmps99
    go_wp2
    go_ret2
    exact ⟨rfl, rfl⟩
theorem make_e4 (st : Int) (A : Option Addr) (n c : Nat) (w : World) (h1 : 1 ≤ st) (h2 : st ≤ 4294967295) (hn : 24 < n) :
    Calls Tryz.prog 99 #[.int .i64 st, .slice A n c] w fun e w' => e = .returned (.tuple #[.slice none 0 0, .iface 76 (.int .i64 4)]) ∧ w = w' := by
  go_enter Tryz.func99, Tryz.ntmps99
  go_wp2
  go_ret2
  exact ⟨rfl, rfl⟩
set_option maxRecDepth 100000 in
theorem make_ok (st : Int) (A : Option Addr) (n c : Nat) (b : Bytes) (w : World) (hbn : b.length = n) (h1 : 1 ≤ st) (h2 : st ≤ 4294967295) (hn : n ≤ 24) (hr : Rd w A b) :
    Calls Tryz.prog 99 #[.int .i64 st, .slice A n c] w fun e w' => ∃ g, e = .returned (.tuple #[.slice (some ⟨g, 0, none⟩) 32 32, .nilIface]) ∧ w.heap.size ≤ g ∧ Row w' 5 g 32 (makeB st.toNat b) ∧ Below w.heap.size w w' := by
  obtain ⟨s, rfl⟩ := Int.eq_ofNat_of_zero_le (show 0 ≤ st by omega)
  have hmk := mk_bytes 32 32 rfl (by omega) w
  have hz := row_zeros w 32 (by simp [maxLen])
  have hblk : (w.alloc (.cells (zeroRow 32) 5)).heap[w.heap.size]? = some (.cells (zeroRow 32) 5 (0, 0)) := heap_alloc_new w _
  have hB1 : Below w.heap.size w (w.alloc (.cells (zeroRow 32) 5)) := (Below.refl _ _).alloc (Nat.le_refl _) _
  have hl := numB_length s 4
  go_enter Tryz.func99, Tryz.ntmps99
  go_wp2_with fail
  refine (set_any w.heap.size 0 32 32 5 (zeroRow 32) 0 s 4 _ hblk (by omega) (by omega) (by simp [maxLen]) (by rw [zeroRow_size]; omega)).mono ?_
  rintro e w1 ⟨rfl, hw1⟩
  have hrow1 := hz.set_ 0 (numB s 4) (by simp [hl]) _ hblk
  have hblk1 : w1.heap[w.heap.size]? = some (.cells (setB (zeroRow 32) 0 ((numB s 4).map bv)) 5 (0, 0)) := by rw [hw1]; exact setRow_heap _ _ _ _ _ _ hblk
  rw [Nat.zero_add] at hw1
  rw [← hw1] at hrow1
  have hB2 : Below w.heap.size w w1 := by rw [hw1]; exact below_setRow hB1 (Nat.le_refl _) _
  have hsz1 : (setB (zeroRow 32) 0 ((numB s 4).map bv)).size = 32 := by rw [setB_size _ _ _ (by simp [hl, zeroRow_size]), zeroRow_size]
  generalize setB (zeroRow 32) 0 ((numB s 4).map bv) = cur1 at hblk1 hsz1
  clear hw1 hmk hz hblk hB1
  have hcopy := fun ty => run_copy_rd w1 w.heap.size 4 28 28 n c n A b cur1 5 hblk1 hbn (hr.below hB2) (Nat.min_eq_left (by omega)).symm (by omega) ty
  rw [List.take_of_length_le (by omega)] at hcopy
  have hrow2 := hrow1.set_ 4 b (by rw [splice_len _ _ _ (by simp [hl])]; simp; omega) _ hblk1
  have hblk2 := setRow_heap w1 w.heap.size cur1 (setB cur1 4 (b.map bv)) 5 (0, 0) hblk1
  have hB3 : Below w.heap.size w (w1.setRow w.heap.size (setB cur1 4 (b.map bv))) := below_setRow hB2 (Nat.le_refl _) _
  have hsz2 : (setB cur1 4 (b.map bv)).size = 32 := by rw [setB_size _ _ _ (by simp; omega), hsz1]
  generalize w1.setRow w.heap.size (setB cur1 4 (b.map bv)) = w2 at hcopy hrow2 hblk2 hB3
  generalize setB cur1 4 (b.map bv) = cur2 at hblk2 hsz2
  go_wp2_with fail
  refine (set_any w.heap.size 0 32 32 5 cur2 28 s 4 _ hblk2 (by omega) (by omega) (by simp [maxLen]) (by omega)).mono ?_
  rintro e w3 ⟨rfl, rfl⟩
  go_wp2_with fail
  go_ret2
  refine ⟨_, rfl, Nat.le_refl _, ?_, below_setRow hB3 (Nat.le_refl _) _⟩
  have hrow3 := hrow2.set_ 28 (numB s 4) (by rw [splice_len _ _ _ (by rw [splice_len _ _ _ (by simp [hl])]; simp; omega), splice_len _ _ _ (by simp [hl])]; simp [hl]) _ hblk2
  rw [makeB_steps s b (by omega)] at hrow3
  simpa using hrow3

/-- bytes.Equal -/
theorem equal_any (A B : Option Addr) (n m c d : Nat) (a b : Bytes) (w : World) (hn : a.length = n) (hm : b.length = m) (ha : Rd w A a) (hb : Rd w B b) :
    Calls Tryz.prog 170 #[.slice A n c, .slice B m d] w fun e w' => e = .returned (.bool (a == b)) ∧ w = w' := by
  have c1 := conv_text w A n c a hn ha
  have c2 := conv_text w B m d b hm hb
  go_enter Tryz.func170, Tryz.ntmps170
  go_wp2
  go_ret
  exact ⟨rfl, rfl⟩
end Go.Proofs.YtijcclpnkfmpnaaGreat
/- The contract of image.PutRoot. -/
namespace Go.Proofs.YtijcclpnkfmpnaaGreat
open Go.RowKit

abbrev rootV (s : Bytes) (h : Int) : Value := .agg #[sv s, .int .i64 h]
def rootO (i : Int) : Nat := (200 + i * 11).toNat
theorem rawRoot_any (A : Option Addr) (n c : Nat) (i : Int) (w : World) (h1 : 0 ≤ i) (h2 : i < 8) (hn : 288 ≤ n) (hc : n ≤ c) :
    Calls Tryz.prog 87 #[.slice A n c, .int .i64 i] w fun e w' => e = .returned (.slice (A.map (·.add (rootO i))) 11 (c - rootO i)) ∧ w = w' := by
  obtain ⟨k, rfl⟩ := Int.eq_ofNat_of_zero_le h1
  have he : Hidden (rootO (k : Int) = 200 + k * 11) := ⟨by unfold rootO; omega⟩
  have hk : k < 8 := by omega
  go_enter Tryz.func87, Tryz.ntmps87
  go_wp2
  go_ret
  rw [he.out]
  refine ⟨?_, rfl⟩
  show Ending.returned (.slice (A.map (·.add (200 + k * 11))) ((200 + (k + 1) * 11) - (200 + k * 11)) (c - (200 + k * 11))) = _
  rw [show (200 + (k + 1) * 11) - (200 + k * 11) = 11 from by omega]

theorem root_e3 (A : Option Addr) (n c : Nat) (i : Int) (s : Bytes) (h : Int) (w : World) (hr : rightB n = false) :
    Calls Tryz.prog 90 #[.slice A n c, .int .i64 i, rootV s h] w fun e w' => e = .returned (.tuple #[.slice none 0 0, .iface 76 (.int .i64 3)]) ∧ Below w.heap.size w w' := by
  go_enter Tryz.func90, Tryz.ntmps90
  go_wp2_with fail
  refine (check_e3 _ _ _ _ _ hr).mono ?_
  rintro e w' ⟨rfl, rfl⟩
  go_wp2
  go_ret2
  exact ⟨rfl, (Below.refl _ _).alloc (Nat.le_refl _) _⟩
theorem root_e1 (A : Option Addr) (n c : Nat) (i : Int) (s : Bytes) (h : Int) (w : World) (hr : rightB n = true) (hi : i < 0 ∨ 8 ≤ i) :
    Calls Tryz.prog 90 #[.slice A n c, .int .i64 i, rootV s h] w fun e w' => e = .returned (.tuple #[.slice none 0 0, .iface 76 (.int .i64 1)]) ∧ Below w.heap.size w w' := by
  have hone : handleB 1 = true := by decide
  rcases hi with hi | hi
  all_goals
    go_enter Tryz.func90, Tryz.ntmps90
    go_wp2_with fail
    refine (check_ok _ _ _ _ _ hr hone).mono ?_
    rintro e w' ⟨rfl, rfl⟩
    go_wp2
    go_ret2
    exact ⟨rfl, (Below.refl _ _).alloc (Nat.le_refl _) _⟩
set_option maxRecDepth 100000 in
theorem root_zero (A : Option Addr) (n c : Nat) (l : Bytes) (i : Int) (w : World) (hn : l.length = n) (_hnc : n ≤ c) (hrd : Rd w A l) (hr : rightB n = true) (hi1 : 0 ≤ i) (hi2 : i < 8) :
    Calls Tryz.prog 90 #[.slice A n c, .int .i64 i, rootV [] 0] w fun e w' => ∃ g cap, e = .returned (.tuple #[.slice (some ⟨g, 0, none⟩) n cap, .nilIface]) ∧ w.heap.size ≤ g ∧ Row w' 5 g cap (splice l (rootO i) (List.replicate 11 0)) ∧ Below w.heap.size w w' := by
  have hone : handleB 1 = true := by decide
  have hmk := mk_bytes 11 11 rfl (by omega)
  go_enter Tryz.func90, Tryz.ntmps90
  go_wp2_with fail
  refine (check_ok _ _ _ _ _ hr hone).mono ?_
  rintro e w' ⟨rfl, rfl⟩
  go_wp2_with fail
  have hrb := rightB_true.1 hr
  obtain ⟨p0, off0, rfl, hlt0⟩ := hrd.lt (by omega)
  have hW : Below w.heap.size w (w.alloc (.cells #[sv [], .int .i64 0] 99)) := (Below.refl _ _).alloc (Nat.le_refl _) _
  have hB1 := hW.alloc hW.size (.cells (zeroRow 11) 5)
  have hxr := row_zeros (w.alloc (.cells #[sv [], .int .i64 0] 99)) 11 (by simp [maxLen])
  have hxl : (List.replicate 11 (0 : UInt8)).length = 11 := by decide
  simp only [World.size_alloc] at hxr ⊢
  generalize (w.alloc (.cells #[sv [], .int .i64 0] 99)).alloc (.cells (zeroRow 11) 5) = w1 at *
  generalize w.heap.size + 1 = xb at *
  generalize hXL : List.replicate 11 (0 : UInt8) = xl at *
  have HXL := Hidden.mk hXL
  clear hXL
  refine (clone_some _ _ _ l _ hn (by omega) (hrd.below hB1)).mono ?_
  rintro e w2 ⟨g, cap, rfl, hg, hrow, hb2⟩
  have hB2 : Below w.heap.size w w2 := hB1.trans (hb2.mono hB1.size)
  have hgw : w.heap.size ≤ g := Nat.le_trans hB1.size hg
  have hxr2 := hxr.below hb2 hxr.lt
  have hlc := hrow.le
  clear hxr hb2 hB1 hg
  go_wp2_with fail
  refine (rawRoot_any (some ⟨g, 0, none⟩) n cap i _ hi1 hi2 (by omega) (by omega)).mono ?_
  rintro e w3 ⟨rfl, rfl⟩
  simp only [Option.map_some, Addr.add_lit, Nat.zero_add]
  have hro : rootO i + 11 ≤ 288 := by unfold rootO; omega
  generalize hO : rootO i = o at *
  have HO := Hidden.mk hO
  clear hO
  obtain ⟨cur, hcur, _, _, hcs, _⟩ := id hrow
  have hcopy := fun ty => run_copy_rd w2 g o 11 (cap - o) 11 11 11 (some ⟨xb, 0, none⟩) xl cur 5 hcur hxl hxr2.rd rfl (by omega) ty
  rw [List.take_of_length_le (by omega)] at hcopy
  have hrow4 := hrow.set_ o xl (by omega) cur hcur
  have hB4 : Below w.heap.size w (w2.setRow g (setB cur o (xl.map bv))) := below_setRow hB2 hgw _
  generalize w2.setRow g (setB cur o (xl.map bv)) = w4 at *
  clear hcur hcs hxr2 hrow hB2
  go_wp2_with fail
  go_ret2
  exact ⟨g, cap, rfl, hgw, by rw [HO.out, HXL.out]; exact hrow4, hB4⟩

theorem root_e1h (A : Option Addr) (n c : Nat) (i : Int) (s : Bytes) (h : Int) (w : World) (hr : rightB n = true) (hi1 : 0 ≤ i) (hi2 : i < 8) (hne : ¬ (s = [] ∧ h = 0)) (hh : handleB h = false) :
    Calls Tryz.prog 90 #[.slice A n c, .int .i64 i, rootV s h] w fun e w' => e = .returned (.tuple #[.slice none 0 0, .iface 76 (.int .i64 1)]) ∧ Below w.heap.size w w' := by
  have hone : handleB 1 = true := by decide
  have hmk := mk_bytes 11 11 rfl (by omega)
  have hB1 := ((Below.refl w.heap.size w).alloc (Nat.le_refl _) (.cells #[sv s, .int .i64 h] 99)).alloc (by simp) (.cells (zeroRow 11) 5)
  have hcase : s.isEmpty = false ∨ (s = [] ∧ (h == 0) = false) := by
    cases s with
    | nil => right; simpa using hne
    | cons x r => left; rfl
  clear hne
  rcases hcase with hs | ⟨rfl, hs⟩
  all_goals
    go_enter Tryz.func90, Tryz.ntmps90
    go_wp2_with fail
    refine (check_ok _ _ _ _ _ hr hone).mono ?_
    rintro e w' ⟨rfl, rfl⟩
    go_wp2_with fail
    refine (handle_any _ _).mono ?_
    rintro e w' ⟨rfl, rfl⟩
    rw [hh]
    go_wp2
    go_ret2
    exact ⟨rfl, hB1⟩

theorem root_e2 (A : Option Addr) (n c : Nat) (i : Int) (s : Bytes) (h : Int) (w : World) (hs : s.length ≤ 140737488351232) (hr : rightB n = true) (hi1 : 0 ≤ i) (hi2 : i < 8) (hh : handleB h = true) (hnm : isName s = false) :
    Calls Tryz.prog 90 #[.slice A n c, .int .i64 i, rootV s h] w fun e w' => e = .returned (.tuple #[.slice none 0 0, .iface 76 (.int .i64 2)]) ∧ Below w.heap.size w w' := by
  have hone : handleB 1 = true := by decide
  have hmk := mk_bytes 11 11 rfl (by omega)
  have hB1 := ((Below.refl w.heap.size w).alloc (Nat.le_refl _) (.cells #[sv s, .int .i64 h] 99)).alloc (by simp) (.cells (zeroRow 11) 5)
  have hhb := handleB_true.1 hh
  have h0 : (h == 0) = false := by simp; omega
  clear hhb
  have hcase : s.isEmpty = false ∨ s = [] := by
    cases s with
    | nil => right; rfl
    | cons x r => left; rfl
  rcases hcase with hs0 | rfl
  all_goals
    go_enter Tryz.func90, Tryz.ntmps90
    go_wp2_with fail
    refine (check_ok _ _ _ _ _ hr hone).mono ?_
    rintro e w' ⟨rfl, rfl⟩
    go_wp2_with fail
    refine (handle_any _ _).mono ?_
    rintro e w' ⟨rfl, rfl⟩
    rw [hh]
    go_wp2_with fail
    refine (putName_no _ _ hs hnm).mono ?_
    rintro e w1 ⟨rfl, hb⟩
    go_wp2
    go_ret2
    exact ⟨rfl, hB1.trans (hb.mono hB1.size)⟩

/-- the eleven bytes of a root -/
def rootB (s : Bytes) (h : Int) : Bytes := nameB s ++ [0, 0, UInt8.ofNat h.toNat]
set_option maxRecDepth 100000 in
set_option maxHeartbeats 1000000 in
theorem root_ok (A : Option Addr) (n c : Nat) (l : Bytes) (i : Int) (s : Bytes) (h : Int) (w : World) (hn : l.length = n) (hrd : Rd w A l) (hr : rightB n = true) (hi1 : 0 ≤ i) (hi2 : i < 8) (hh : handleB h = true) (hnm : isName s = true) :
    Calls Tryz.prog 90 #[.slice A n c, .int .i64 i, rootV s h] w fun e w' => ∃ g cap, e = .returned (.tuple #[.slice (some ⟨g, 0, none⟩) n cap, .nilIface]) ∧ w.heap.size ≤ g ∧ Row w' 5 g cap (splice l (rootO i) (rootB s h)) ∧ Below w.heap.size w w' := by
  have hone : handleB 1 = true := by decide
  have hmk := mk_bytes 11 11 rfl (by omega)
  have hB1 := ((Below.refl w.heap.size w).alloc (Nat.le_refl _) (.cells #[sv s, .int .i64 h] 99)).alloc (by simp) (.cells (zeroRow 11) 5)
  have hhb := handleB_true.1 hh
  have hrb := rightB_true.1 hr
  have h8 := nameB_len s hnm
  have hs0 : s.isEmpty = false := by
    cases s with
    | nil => cases hnm
    | cons x r => rfl
  obtain ⟨p0, off0, rfl, hlt0⟩ := hrd.lt (by omega)
  obtain ⟨k, rfl⟩ := Int.eq_ofNat_of_zero_le (show 0 ≤ h by omega)
  go_enter Tryz.func90, Tryz.ntmps90
  go_wp2_with fail
  refine (check_ok _ _ _ _ _ hr hone).mono ?_
  rintro e w' ⟨rfl, rfl⟩
  go_wp2_with fail
  refine (handle_any _ _).mono ?_
  rintro e w' ⟨rfl, rfl⟩
  rw [hh]
  go_wp2_with fail
  refine (putName_ok s _ hnm).mono ?_
  rintro e w1 ⟨gs, rfl, hgs, hsrow, hb⟩
  have hx0 := row_zeros (w.alloc (.cells #[sv s, .int .i64 k] 99)) 11 (by simp [maxLen])
  have hc1 : ((w.alloc (.cells #[sv s, .int .i64 k] 99)).alloc (.cells (zeroRow 11) 5)).cell? ⟨w.heap.size, 1, none⟩ = some (.int .i64 k) := by
    rw [World.cell?_alloc_lt _ _ _ (by simp)]; exact World.cell?_alloc_mark w _ _ (0, 0) 1
  have hBB : Below w.heap.size w w1 := hB1.trans (hb.mono hB1.size)
  have hx1 := hx0.below hb hx0.lt
  have hc2 := (hb.cell (p := ⟨w.heap.size, 1, none⟩) (by simp; omega)).trans hc1
  simp only [World.size_alloc] at hx1 hgs
  clear hx0 hc1 hB1 hb hmk
  obtain ⟨cur, hcur, _, _, hcs, _⟩ := id hx1
  have hcopy := fun ty => run_copy_rd w1 (w.heap.size + 1) 0 11 11 8 8 8 (some ⟨gs, 0, none⟩) (nameB s) cur 5 hcur h8 hsrow.rd rfl (by omega) ty
  rw [List.take_of_length_le (by omega)] at hcopy
  have hx2 := hx1.set_ 0 (nameB s) (by simp; omega) cur hcur
  have hBB2 : Below w.heap.size w (w1.setRow (w.heap.size + 1) (setB cur 0 ((nameB s).map bv))) := below_setRow hBB (by omega) _
  have hc3 : (w1.setRow (w.heap.size + 1) (setB cur 0 ((nameB s).map bv))).cell? ⟨w.heap.size, 1, none⟩ = some (.int .i64 k) := by
    rw [cell_setRow_other _ _ _ _ (by simp)]; exact hc2
  rw [splice_zeros] at hx2
  generalize w1.setRow (w.heap.size + 1) (setB cur 0 ((nameB s).map bv)) = w2 at *
  clear hcur hcs hx1 hBB hc2 hsrow
  obtain ⟨cur, hcur, _, _, hcs, _⟩ := id hx2
  have hcell : w2.cell? ⟨w.heap.size + 1, 10, none⟩ = some (cur[10]'(by omega)) := by
    rw [cell_of_row w2 _ _ _ _ _ hcur]; exact Array.getElem?_eq_getElem (by omega)
  have hfr : w2.frozen? ⟨w.heap.size + 1, 10, none⟩ = false := frozen_of_row w2 _ _ _ _ hcur
  generalize cur[10]'(by omega) = u0 at hcell
  have hst : w2.setCell ⟨w.heap.size + 1, 10, none⟩ (.int .u8 (k : Int)) = w2.setRow (w.heap.size + 1) (setB cur 10 ([UInt8.ofNat k].map bv)) := by
    rw [setCell_eq_setRow w2 _ _ _ _ _ _ hcur]
    have := setB_snoc cur 10 [] (bv (UInt8.ofNat k)) (by simp; omega)
    rw [setB_nil] at this
    simp only [List.length_nil, Nat.add_zero, List.nil_append] at this
    rw [List.map_cons, List.map_nil, ← this]
    congr 2
    simp only [bv, UInt8.toNat_ofNat']
    congr 1
    omega
  have hxr : Row (w2.setCell ⟨w.heap.size + 1, 10, none⟩ (.int .u8 (k : Int))) 5 (w.heap.size + 1) 11 (splice (nameB s ++ List.replicate (11 - (nameB s).length) 0) 10 [UInt8.ofNat k]) := by
    rw [hst]; exact hx2.set_ 10 _ (by simp; omega) cur hcur
  have hB1 : Below w.heap.size w (w2.setCell ⟨w.heap.size + 1, 10, none⟩ (.int .u8 (k : Int))) := hBB2.setCell (by simp) _
  have hXL : splice (nameB s ++ List.replicate (11 - (nameB s).length) 0) 10 [UInt8.ofNat k] = rootB s k := by
    have := splice_app (nameB s ++ [0, 0]) [0] [] [UInt8.ofNat k] rfl
    simp only [List.append_nil, List.length_append, h8] at this
    rw [h8, show List.replicate (11 - 8) (0 : UInt8) = [0, 0] ++ [0] from rfl, ← List.append_assoc]
    rw [show 8 + [(0 : UInt8), 0].length = 10 from rfl] at this
    rw [this]
    simp [rootB]
  have hxl : (rootB s (k : Int)).length = 11 := by simp [rootB, h8]
  rw [hXL] at hxr
  have hc3' := hc3
  clear hst hXL hBB2 hc3' hcur hcs hx2
  go_wp2_with fail
  clear hcell hfr
  generalize w2.setCell ⟨w.heap.size + 1, 10, none⟩ (.int .u8 (k : Int)) = w3 at *
  generalize w.heap.size + 1 = xb at *
  generalize hXL : rootB s (k : Int) = xl at *
  have HXL := Hidden.mk hXL
  clear hXL
  refine (clone_some _ _ _ l _ hn (by omega) (hrd.below hB1)).mono ?_
  rintro e w2 ⟨g, cap, rfl, hg, hrow, hb2⟩
  have hB2 : Below w.heap.size w w2 := hB1.trans (hb2.mono hB1.size)
  have hgw : w.heap.size ≤ g := Nat.le_trans hB1.size hg
  have hxr2 := hxr.below hb2 hxr.lt
  have hlc := hrow.le
  clear hxr hb2 hB1 hg
  go_wp2_with fail
  refine (rawRoot_any (some ⟨g, 0, none⟩) n cap i _ hi1 hi2 (by omega) (by omega)).mono ?_
  rintro e w3 ⟨rfl, rfl⟩
  simp only [Option.map_some, Addr.add_lit, Nat.zero_add]
  have hro : rootO i + 11 ≤ 288 := by unfold rootO; omega
  generalize hO : rootO i = o at *
  have HO := Hidden.mk hO
  clear hO
  obtain ⟨cur, hcur, _, _, hcs, _⟩ := id hrow
  have hcopy := fun ty => run_copy_rd w2 g o 11 (cap - o) 11 11 11 (some ⟨xb, 0, none⟩) xl cur 5 hcur hxl hxr2.rd rfl (by omega) ty
  rw [List.take_of_length_le (by omega)] at hcopy
  have hrow4 := hrow.set_ o xl (by omega) cur hcur
  have hB4 : Below w.heap.size w (w2.setRow g (setB cur o (xl.map bv))) := below_setRow hB2 hgw _
  generalize w2.setRow g (setB cur o (xl.map bv)) = w4 at *
  clear hcur hcs hxr2 hrow hB2
  go_wp2_with fail
  go_ret2
  exact ⟨g, cap, rfl, hgw, by rw [HO.out, HXL.out]; exact hrow4, hB4⟩
end Go.Proofs.YtijcclpnkfmpnaaGreat
/- Plain facts on changes of bytes. No program in sight. -/
namespace Go.Proofs.YtijcclpnkfmpnaaGreat

/-- a change: where, what stood there, what stands there then -/
structure Chg where
  at_ : Int
  old : Bytes
  new : Bytes

/-- how far two lists differ, from the first place on -/
def diffRun : Bytes → Bytes → Nat
  | x :: a, y :: b => if x = y then 0 else diffRun a b + 1
  | _, _ => 0
theorem diffRun_le (a b : Bytes) : diffRun a b ≤ a.length ∧ diffRun a b ≤ b.length := by
  induction a generalizing b with
  | nil => simp [diffRun]
  | cons x a ih =>
    cases b with
    | nil => simp [diffRun]
    | cons y b =>
      simp only [diffRun]
      have := ih b
      split <;> simp <;> omega
theorem diffRun_at (k : Nat) : ∀ (a b : Bytes), (∀ j, j < k → a[j]? ≠ b[j]?) → k ≤ a.length → k ≤ b.length → (k = a.length ∨ k = b.length ∨ a[k]? = b[k]?) → diffRun a b = k := by
  induction k with
  | zero =>
    intro a b _ _ _ h
    cases a with
    | nil => simp [diffRun]
    | cons x a =>
      cases b with
      | nil => simp [diffRun]
      | cons y b => simp at h; simp [diffRun, h]
  | succ k ih =>
    intro a b hne ha hb h
    cases a with
    | nil => simp at ha
    | cons x a =>
      cases b with
      | nil => simp at hb
      | cons y b =>
        have h0 := hne 0 (by omega)
        simp at h0
        have := ih a b (fun j hj => by have := hne (j + 1) (by omega); simpa using this) (by simpa using ha) (by simpa using hb) (by simpa using h)
        simp [diffRun, h0, this]
theorem diffRun_ne (a b : Bytes) (j : Nat) (h : j < diffRun a b) : a[j]? ≠ b[j]? := by
  induction a generalizing b j with
  | nil => simp [diffRun] at h
  | cons x a ih =>
    cases b with
    | nil => simp [diffRun] at h
    | cons y b =>
      simp only [diffRun] at h
      split at h
      · omega
      · rename_i hne
        cases j with
        | zero => simpa using hne
        | succ j => simpa using ih b j (by omega)
theorem diffRun_stop (a b : Bytes) (hl : a.length = b.length) (h : diffRun a b < a.length) : a[diffRun a b]? = b[diffRun a b]? := by
  induction a generalizing b with
  | nil => simp at h
  | cons x a ih =>
    cases b with
    | nil => simp at hl
    | cons y b =>
      simp only [diffRun] at h ⊢
      split
      · rename_i he; simp [he]
      · rename_i hne
        rw [if_neg hne] at h
        simpa using ih b (by simpa using hl) (by simpa using h)

/-- the run that begins at i -/
def runAt (a b : Bytes) (i : Nat) : Nat := diffRun (a.drop i) (b.drop i)
/-- the changes from i on; f: fuel -/
def diffF (a b : Bytes) : Nat → Nat → List Chg
  | 0, _ => []
  | f + 1, i =>
    if i < a.length then
      (if 0 < runAt a b i then [⟨i, (a.drop i).take (runAt a b i), (b.drop i).take (runAt a b i)⟩] else []) ++ diffF a b f (i + runAt a b i + 1)
    else []
theorem diffF_fuel (a b : Bytes) (f : Nat) : ∀ g i, a.length - i ≤ f → a.length - i ≤ g → diffF a b f i = diffF a b g i := by
  induction f with
  | zero =>
    intro g i hf hg
    cases g with
    | zero => rfl
    | succ g => simp only [diffF]; rw [if_neg (by omega)]
  | succ f ih =>
    intro g i hf hg
    cases g with
    | zero => simp only [diffF]; rw [if_neg (by omega)]
    | succ g =>
      simp only [diffF]
      split
      · rw [ih g _ (by omega) (by omega)]
      · rfl
/-- all changes -/
def diffL (a b : Bytes) : List Chg := diffF a b a.length 0
theorem diffF_step (a b : Bytes) (i : Nat) (h : i < a.length) : diffF a b (a.length - i) i =
    (if 0 < runAt a b i then [⟨i, (a.drop i).take (runAt a b i), (b.drop i).take (runAt a b i)⟩] else []) ++ diffF a b (a.length - (i + runAt a b i + 1)) (i + runAt a b i + 1) := by
  obtain ⟨f, hf⟩ : ∃ f, a.length - i = f + 1 := ⟨a.length - i - 1, by omega⟩
  rw [hf, diffF, if_pos h, diffF_fuel a b f (a.length - (i + runAt a b i + 1)) _ (by omega) (by omega)]
theorem runAt_le (a b : Bytes) (i : Nat) (hl : a.length = b.length) (hi : i ≤ a.length) : i + runAt a b i ≤ a.length := by
  have := (diffRun_le (a.drop i) (b.drop i)).1
  simp at this
  unfold runAt; omega
theorem runAt_ne (a b : Bytes) (i j : Nat) (h1 : i ≤ j) (h2 : j < i + runAt a b i) : a[j]? ≠ b[j]? := by
  have := diffRun_ne (a.drop i) (b.drop i) (j - i) (by unfold runAt at h2; omega)
  rw [List.getElem?_drop, List.getElem?_drop, show i + (j - i) = j from by omega] at this
  exact this
theorem runAt_stop (a b : Bytes) (i : Nat) (hl : a.length = b.length) (h : i + runAt a b i < a.length) : a[i + runAt a b i]? = b[i + runAt a b i]? := by
  have := diffRun_stop (a.drop i) (b.drop i) (by simp [hl]) (by unfold runAt at h; simp; omega)
  rw [List.getElem?_drop, List.getElem?_drop] at this
  exact this
/-- a walk that came to k has found the run -/
theorem runAt_at (a b : Bytes) (i k : Nat) (hl : a.length = b.length) (hik : i ≤ k) (hk : k ≤ a.length) (hne : ∀ j, i ≤ j → j < k → a[j]? ≠ b[j]?) (hstop : k = a.length ∨ a[k]? = b[k]?) : runAt a b i = k - i := by
  unfold runAt
  refine diffRun_at (k - i) _ _ (fun j hj => ?_) (by simp; omega) (by simp; omega) ?_
  · rw [List.getElem?_drop, List.getElem?_drop]; exact hne (i + j) (by omega) (by omega)
  · rcases hstop with h | h
    · left; simp; omega
    · right; right
      rw [List.getElem?_drop, List.getElem?_drop, show i + (k - i) = k from by omega]; exact h
end Go.Proofs.YtijcclpnkfmpnaaGreat
/- Plain facts on where changes lie. No program in sight. -/
namespace Go.Proofs.YtijcclpnkfmpnaaGreat

/-- what each change is -/
structure IsChg (a b : Bytes) (i : Nat) (c : Chg) (j r : Nat) : Prop where
  at_ : c.at_ = j
  lo : i ≤ j
  pos : 0 < r
  hi : j + r ≤ a.length
  old : c.old = (a.drop j).take r
  new : c.new = (b.drop j).take r
  ne : ∀ p, j ≤ p → p < j + r → a[p]? ≠ b[p]?
theorem diffF_mem (a b : Bytes) (hl : a.length = b.length) (f : Nat) : ∀ i, ∀ c ∈ diffF a b f i, ∃ j r, IsChg a b i c j r := by
  induction f with
  | zero => intro i c hc; simp [diffF] at hc
  | succ f ih =>
    intro i c hc
    simp only [diffF] at hc
    split at hc
    · rename_i hi
      rw [List.mem_append] at hc
      rcases hc with hc | hc
      · split at hc
        · rename_i hr
          rw [List.mem_singleton] at hc
          subst hc
          exact ⟨i, runAt a b i, rfl, Nat.le_refl _, hr, runAt_le a b i hl (by omega), rfl, rfl, fun p h1 h2 => runAt_ne a b i p h1 h2⟩
        · simp at hc
      · obtain ⟨j, r, h⟩ := ih _ c hc
        exact ⟨j, r, h.at_, by have := h.lo; omega, h.pos, h.hi, h.old, h.new, h.ne⟩
    · simp at hc
theorem diffL_mem (a b : Bytes) (hl : a.length = b.length) (c : Chg) (h : c ∈ diffL a b) : ∃ j r, IsChg a b 0 c j r := diffF_mem a b hl _ 0 c h
theorem IsChg.old_len {a b : Bytes} {i : Nat} {c : Chg} {j r : Nat} (h : IsChg a b i c j r) : c.old.length = r := by rw [h.old]; simp; have := h.hi; omega
theorem IsChg.new_len {a b : Bytes} {i : Nat} {c : Chg} {j r : Nat} (h : IsChg a b i c j r) (hl : a.length = b.length) : c.new.length = r := by rw [h.new]; simp; have := h.hi; omega
/-- where nothing differs from i on no change is told -/
theorem diffF_nil (a b : Bytes) (f : Nat) : ∀ i, a.length - i ≤ f → diffF a b f i = [] → ∀ p, i ≤ p → p < a.length → a.length = b.length → a[p]? = b[p]? := by
  induction f with
  | zero => intro i hf _ p hp hl _; omega
  | succ f ih =>
    intro i hf h p hp hpl hl
    simp only [diffF] at h
    rw [if_pos (by omega), List.append_eq_nil_iff] at h
    have h0 : runAt a b i = 0 := by
      rcases Nat.eq_zero_or_pos (runAt a b i) with h0 | h0
      · exact h0
      · have := h.1; rw [if_pos h0] at this; cases this
    rw [h0] at h
    rcases Nat.eq_or_lt_of_le hp with he | hlt
    · subst he
      have := runAt_stop a b i hl (by omega)
      rw [h0, Nat.add_zero] at this
      exact this
    · exact ih _ (by omega) h.2 p (by omega) hpl hl
theorem diffL_eq_nil (a b : Bytes) (hl : a.length = b.length) (h : diffL a b = []) : a = b := by
  apply List.ext_getElem? 
  intro p
  by_cases hp : p < a.length
  · exact diffF_nil a b _ 0 (by omega) h p (by omega) hp hl
  · rw [List.getElem?_eq_none (by omega), List.getElem?_eq_none (by omega)]
theorem diffL_self (a : Bytes) : diffL a a = [] := by
  cases h : diffL a a with
  | nil => rfl
  | cons c r =>
    obtain ⟨j, r', hc⟩ := diffL_mem a a rfl c (by rw [h]; simp)
    exact absurd rfl (hc.ne j (Nat.le_refl _) (by have := hc.pos; omega))
/-- what was put at a place changes no byte but there -/
theorem splice_same (l x : Bytes) (o p : Nat) (h : o + x.length ≤ l.length) (hp : p < o ∨ o + x.length ≤ p) : l[p]? = (splice l o x)[p]? := by
  unfold splice
  have hl : (l.take o).length = o := by simp; omega
  rcases hp with hp | hp
  · rw [List.getElem?_append_left (by omega), List.getElem?_take, if_pos hp]
  · rw [List.getElem?_append_right (by omega), hl, List.getElem?_append_right (by omega), List.getElem?_drop]
    congr 1; omega
theorem splice_get (l x : Bytes) (o q : Nat) (h : o + x.length ≤ l.length) (hq : q < x.length) : (splice l o x)[o + q]? = x[q]? := by
  unfold splice
  have hl : (l.take o).length = o := by simp; omega
  rw [List.getElem?_append_right (by omega), hl, List.getElem?_append_left (by omega)]
  congr 1; omega
theorem diff_splice (l x : Bytes) (o : Nat) (h : o + x.length ≤ l.length) (c : Chg) (hc : c ∈ diffL l (splice l o x)) : ∃ j r : Nat, c.at_ = j ∧ c.new.length = r ∧ o ≤ j ∧ j + r ≤ o + x.length := by
  have hl : l.length = (splice l o x).length := (length_splice l o x h).symm
  obtain ⟨j, r, hj⟩ := diffL_mem _ _ hl c hc
  refine ⟨j, r, hj.at_, hj.new_len hl, ?_, ?_⟩
  · rcases Nat.lt_or_ge j o with hlt | hge
    · exact absurd (splice_same l x o j h (.inl hlt)) (hj.ne j (Nat.le_refl _) (by have := hj.pos; omega))
    · exact hge
  · rcases Nat.lt_or_ge (o + x.length) (j + r) with hlt | hge
    · have := hj.pos
      exact absurd (splice_same l x o (j + r - 1) h (.inr (by omega))) (hj.ne (j + r - 1) (by omega) (by omega))
    · exact hge
end Go.Proofs.YtijcclpnkfmpnaaGreat
/- Plain words for what is wrong with an image, and what mending makes of it. No walk here. -/
namespace Go.Proofs.YtijcclpnkfmpnaaGreat

/-- the five bytes of the handle k + 1 -/
def rawE (l : Bytes) (k : Nat) : Bytes := (l.drop (5 * k)).take 5
/-- the eleven bytes of a root -/
def rawR (l : Bytes) (i : Nat) : Bytes := (l.drop (200 + 11 * i)).take 11
def rHd (r : Bytes) : UInt8 := r.headD 0
def rAt (r : Bytes) : Nat := ofB ((r.drop 1).take 2)
def rLen (r : Bytes) : Nat := ofB ((r.drop 3).take 2)
def rTag (r : Bytes) : Int := ((rHd r).toNat : Int) - 1
def hasE (r : Bytes) : Bool := rHd r != 0
def strayE (n : Nat) (r : Bytes) : Bool := !(tagB (rTag r) && lenB (rLen r) && withinB n (rAt r) (rLen r))
def zeroE (r : Bytes) : Bool := !r.any nonZero
def overE (r s : Bytes) : Bool := decide (rAt r < rAt s + rLen s) && decide (rAt s < rAt r + rLen r)
def wholeE (n : Nat) (r : Bytes) : Bool := hasE r && !strayE n r

/-- a fault -/
structure Flt where
  what : Nat
  which : Nat
/-- what a handle is: 0: none; 1, 2, 3: a fault; 6: right -/
def kindH (n : Nat) (R : Nat → Bytes) (k : Nat) : Nat :=
  if hasE (R k) = true then (if strayE n (R k) = true then 1 else if (List.range k).any (fun j => wholeE n (R j) && overE (R k) (R j)) = true then 2 else 6)
  else (if zeroE (R k) = true then 0 else 3)
def fltOf (kind which : Nat) : List Flt := if kind = 0 ∨ kind = 6 then [] else [⟨kind, which⟩]
def faultsH (n : Nat) (R : Nat → Bytes) (m : Nat) : List Flt := (List.range m).flatMap fun k => fltOf (kindH n R k) (k + 1)
def leadsE (n : Nat) (R : Nat → Bytes) (x : UInt8) : Bool := (List.range 40).any fun k => kindH n R k == 6 && x.toNat == k + 1
def nmR (r : Bytes) : Bytes := nameAt (r.take 8)
def badR (leads : UInt8 → Bool) (r : Bytes) : Bool := !gotName (r.take 8) || r.getD 8 0 != 0 || r.getD 9 0 != 0 || !leads (r.getD 10 0)
def okR (leads : UInt8 → Bool) (r : Bytes) : Bool := !zeroE r && !badR leads r
/-- what a root is: 0: none; 4, 5: a fault; 6: right -/
def kindR (leads : UInt8 → Bool) (S : Nat → Bytes) (i : Nat) : Nat :=
  if zeroE (S i) = true then 0 else if badR leads (S i) = true then 4 else if (List.range i).any (fun j => okR leads (S j) && (nmR (S i) == nmR (S j))) = true then 5 else 6
def faultsR (leads : UInt8 → Bool) (S : Nat → Bytes) (m : Nat) : List Flt := (List.range m).flatMap fun i => fltOf (kindR leads S i) i
/-- what is wrong with an image -/
def checkL (l : Bytes) : List Flt := faultsH l.length (rawE l) 40 ++ faultsR (leadsE l.length (rawE l)) (rawR l) 8

theorem faultsH_succ (n : Nat) (R : Nat → Bytes) (m : Nat) : faultsH n R (m + 1) = faultsH n R m ++ fltOf (kindH n R m) (m + 1) := by
  simp [faultsH, List.range_succ]
theorem faultsR_succ (leads : UInt8 → Bool) (S : Nat → Bytes) (m : Nat) : faultsR leads S (m + 1) = faultsR leads S m ++ fltOf (kindR leads S m) m := by
  simp [faultsR, List.range_succ]
theorem fltOf_len (a b : Nat) : (fltOf a b).length ≤ 1 := by unfold fltOf; split <;> simp
theorem faultsH_len (n : Nat) (R : Nat → Bytes) (m : Nat) : (faultsH n R m).length ≤ m := by
  induction m with
  | zero => simp [faultsH]
  | succ m ih => rw [faultsH_succ, List.length_append]; have := fltOf_len (kindH n R m) (m + 1); omega
theorem faultsR_len (leads : UInt8 → Bool) (S : Nat → Bytes) (m : Nat) : (faultsR leads S m).length ≤ m := by
  induction m with
  | zero => simp [faultsR]
  | succ m ih => rw [faultsR_succ, List.length_append]; have := fltOf_len (kindR leads S m) m; omega
theorem kindH_cases (n : Nat) (R : Nat → Bytes) (k : Nat) : kindH n R k = 0 ∨ kindH n R k = 1 ∨ kindH n R k = 2 ∨ kindH n R k = 3 ∨ kindH n R k = 6 := by
  unfold kindH; repeat' split
  all_goals simp
theorem kindR_cases (leads : UInt8 → Bool) (S : Nat → Bytes) (k : Nat) : kindR leads S k = 0 ∨ kindR leads S k = 4 ∨ kindR leads S k = 5 ∨ kindR leads S k = 6 := by
  unfold kindR; repeat' split
  all_goals simp
theorem mem_fltOf {a b : Nat} {f : Flt} : f ∈ fltOf a b ↔ ¬ (a = 0 ∨ a = 6) ∧ f = ⟨a, b⟩ := by
  unfold fltOf; split <;> simp_all
theorem mem_checkL {l : Bytes} {f : Flt} : f ∈ checkL l ↔ (∃ k, k < 40 ∧ ¬ (kindH l.length (rawE l) k = 0 ∨ kindH l.length (rawE l) k = 6) ∧ f = ⟨kindH l.length (rawE l) k, k + 1⟩) ∨
    (∃ i, i < 8 ∧ ¬ (kindR (leadsE l.length (rawE l)) (rawR l) i = 0 ∨ kindR (leadsE l.length (rawE l)) (rawR l) i = 6) ∧ f = ⟨kindR (leadsE l.length (rawE l)) (rawR l) i, i⟩) := by
  simp only [checkL, List.mem_append, faultsH, faultsR, List.mem_flatMap, List.mem_range, mem_fltOf]

/-- the same handles, once what is wrong is 0 -/
theorem zeros_has : hasE (List.replicate 5 0) = false := by decide
theorem zeros_zero (n : Nat) : zeroE (List.replicate n 0) = true := by
  simp [zeroE, nonZero]
theorem kindH_after (n : Nat) (R R' : Nat → Bytes) (h : ∀ k, k < 40 → R' k = if kindH n R k = 0 ∨ kindH n R k = 6 then R k else List.replicate 5 0) (k : Nat) (hk : k < 40) :
    kindH n R' k = if kindH n R k = 6 then 6 else 0 := by
  have hz : kindH n R k ≠ 0 → kindH n R k ≠ 6 → kindH n R' k = 0 := fun h0 h6 => by
    have := h k hk
    rw [if_neg (by omega)] at this
    unfold kindH
    rw [this, zeros_has, zeros_zero]; simp
  rcases kindH_cases n R k with h0 | h0 | h0 | h0 | h0
  · rw [if_neg (by omega)]
    have hR := h k hk
    rw [if_pos (by omega)] at hR
    unfold kindH at h0 ⊢
    rw [hR]
    split at h0
    · repeat' split at h0
      all_goals simp at h0
    · rename_i hh
      rw [if_neg hh]
      split at h0
      · rename_i hz; rw [if_pos hz]
      · simp at h0
  · rw [if_neg (by omega)]; exact hz (by omega) (by omega)
  · rw [if_neg (by omega)]; exact hz (by omega) (by omega)
  · rw [if_neg (by omega)]; exact hz (by omega) (by omega)
  · rw [if_pos h0]
    have hR := h k hk
    rw [if_pos (by omega)] at hR
    unfold kindH at h0 ⊢
    rw [hR]
    split at h0
    · rename_i hh
      rw [if_pos hh]
      split at h0
      · simp at h0
      · rename_i hs
        rw [if_neg hs]
        split at h0
        · simp at h0
        · rename_i ha
          rw [if_neg]
          intro hx
          apply ha
          rw [List.any_eq_true] at hx ⊢
          obtain ⟨j, hj, hw⟩ := hx
          refine ⟨j, hj, ?_⟩
          have hj' : j < k := List.mem_range.1 hj
          have hRj := h j (by omega)
          split at hRj
          · rw [← hRj]; exact hw
          · rw [hRj] at hw; simp only [wholeE, zeros_has, Bool.false_and, Bool.false_eq_true] at hw
    · split at h0 <;> simp at h0
theorem leadsE_after (n : Nat) (R R' : Nat → Bytes) (h : ∀ k, k < 40 → kindH n R' k = if kindH n R k = 6 then 6 else 0) : leadsE n R' = leadsE n R := by
  funext x
  have : ∀ k ∈ List.range 40, (kindH n R' k == 6 && x.toNat == k + 1) = (kindH n R k == 6 && x.toNat == k + 1) := fun k hk => by
    rw [h k (List.mem_range.1 hk)]
    split
    · rename_i h6; rw [h6]
    · rename_i h6; simp [h6]
  unfold leadsE
  rw [Bool.eq_iff_iff, List.any_eq_true, List.any_eq_true]
  constructor
  · rintro ⟨k, hk, h⟩; exact ⟨k, hk, (this k hk) ▸ h⟩
  · rintro ⟨k, hk, h⟩; exact ⟨k, hk, (this k hk).symm ▸ h⟩
theorem kindR_after (leads : UInt8 → Bool) (S S' : Nat → Bytes) (h : ∀ i, i < 8 → S' i = if kindR leads S i = 0 ∨ kindR leads S i = 6 then S i else List.replicate 11 0) (i : Nat) (hi : i < 8) :
    kindR leads S' i = if kindR leads S i = 6 then 6 else 0 := by
  have hz : kindR leads S i ≠ 0 → kindR leads S i ≠ 6 → kindR leads S' i = 0 := fun h0 h6 => by
    have := h i hi
    rw [if_neg (by omega)] at this
    unfold kindR
    rw [this, zeros_zero]; simp
  rcases kindR_cases leads S i with h0 | h0 | h0 | h0
  · rw [if_neg (by omega)]
    have hS := h i hi
    rw [if_pos (by omega)] at hS
    unfold kindR at h0 ⊢
    rw [hS]
    split at h0
    · rename_i hh; rw [if_pos hh]
    · repeat' split at h0
      all_goals simp at h0
  · rw [if_neg (by omega)]; exact hz (by omega) (by omega)
  · rw [if_neg (by omega)]; exact hz (by omega) (by omega)
  · rw [if_pos h0]
    have hS := h i hi
    rw [if_pos (by omega)] at hS
    unfold kindR at h0 ⊢
    rw [hS]
    split at h0
    · simp at h0
    · rename_i hh
      rw [if_neg hh]
      split at h0
      · simp at h0
      · rename_i hb
        rw [if_neg hb]
        split at h0
        · simp at h0
        · rename_i ha
          rw [if_neg]
          intro hx
          apply ha
          rw [List.any_eq_true] at hx ⊢
          obtain ⟨j, hj, hw⟩ := hx
          refine ⟨j, hj, ?_⟩
          have hj' : j < i := List.mem_range.1 hj
          have hSj := h j (by omega)
          split at hSj
          · rw [← hSj]; exact hw
          · rw [hSj] at hw; simp only [okR, zeros_zero, Bool.not_true, Bool.false_and, Bool.false_eq_true] at hw

/-- where a fault's bytes lie -/
def fltO (f : Flt) : Nat := if f.what = 4 ∨ f.what = 5 then 200 + 11 * f.which else 5 * (f.which - 1)
def fltN (f : Flt) : Nat := if f.what = 4 ∨ f.what = 5 then 11 else 5
def clearF (l : Bytes) (f : Flt) : Bytes := splice l (fltO f) (List.replicate (fltN f) 0)
def clearAll (l : Bytes) (fs : List Flt) : Bytes := fs.foldl clearF l
def FltIn (n : Nat) (f : Flt) : Prop := fltO f + fltN f ≤ n
theorem splice_at (l x : Bytes) (o p : Nat) (h : o + x.length ≤ l.length) : (splice l o x)[p]? = if o ≤ p ∧ p < o + x.length then x[p - o]? else l[p]? := by
  split
  · rename_i hp
    have := splice_get l x o (p - o) h (by omega)
    rw [show o + (p - o) = p from by omega] at this
    exact this
  · exact (splice_same l x o p h (by omega)).symm
theorem clearF_len (l : Bytes) (f : Flt) (h : FltIn l.length f) : (clearF l f).length = l.length := by
  unfold clearF; exact length_splice _ _ _ (by rw [List.length_replicate]; exact h)
theorem clearAll_len (fs : List Flt) : ∀ l : Bytes, (∀ f ∈ fs, FltIn l.length f) → (clearAll l fs).length = l.length := by
  induction fs with
  | nil => intro l _; rfl
  | cons f fs ih =>
    intro l h
    have h1 := clearF_len l f (h f (by simp))
    show (clearAll (clearF l f) fs).length = _
    rw [ih _ (fun g hg => by rw [h1]; exact h g (by simp [hg])), h1]
def Cleared (fs : List Flt) (p : Nat) : Prop := ∃ f ∈ fs, fltO f ≤ p ∧ p < fltO f + fltN f
theorem clearAll_out (fs : List Flt) (p : Nat) (hp : ¬ Cleared fs p) : ∀ l : Bytes, (∀ f ∈ fs, FltIn l.length f) → (clearAll l fs)[p]? = l[p]? := by
  induction fs with
  | nil => intro l _; rfl
  | cons f fs ih =>
    intro l h
    have h1 := clearF_len l f (h f (by simp))
    show (clearAll (clearF l f) fs)[p]? = _
    rw [ih (fun ⟨g, hg, hh⟩ => hp ⟨g, by simp [hg], hh⟩) _ (fun g hg => by rw [h1]; exact h g (by simp [hg]))]
    unfold clearF
    rw [splice_at _ _ _ _ (by rw [List.length_replicate]; exact h f (by simp)), if_neg]
    rw [List.length_replicate]
    exact fun hh => hp ⟨f, by simp, hh⟩
theorem clearAll_zero (fs : List Flt) (p : Nat) : ∀ l : Bytes, (∀ f ∈ fs, FltIn l.length f) → l[p]? = some 0 → (clearAll l fs)[p]? = some 0 := by
  induction fs with
  | nil => intro l _ h; exact h
  | cons f fs ih =>
    intro l h hz
    have h1 := clearF_len l f (h f (by simp))
    show (clearAll (clearF l f) fs)[p]? = _
    refine ih _ (fun g hg => by rw [h1]; exact h g (by simp [hg])) ?_
    unfold clearF
    rw [splice_at _ _ _ _ (by rw [List.length_replicate]; exact h f (by simp))]
    split
    · rename_i hh; rw [List.length_replicate] at hh; rw [List.getElem?_replicate, if_pos (by omega)]
    · exact hz
theorem clearAll_in (fs : List Flt) (p : Nat) (hp : Cleared fs p) : ∀ l : Bytes, (∀ f ∈ fs, FltIn l.length f) → (clearAll l fs)[p]? = some 0 := by
  induction fs with
  | nil => obtain ⟨f, hf, _⟩ := hp; simp at hf
  | cons f fs ih =>
    intro l h
    have h1 := clearF_len l f (h f (by simp))
    have h2 : ∀ g ∈ fs, FltIn (clearF l f).length g := fun g hg => by rw [h1]; exact h g (by simp [hg])
    show (clearAll (clearF l f) fs)[p]? = _
    by_cases hc : Cleared fs p
    · exact ih hc _ h2
    · refine clearAll_zero fs p _ h2 ?_
      obtain ⟨g, hg, hh⟩ := hp
      rcases List.mem_cons.1 hg with rfl | hg
      · unfold clearF
        rw [splice_at _ _ _ _ (by rw [List.length_replicate]; exact h g (by simp)), if_pos (by rw [List.length_replicate]; exact hh), List.getElem?_replicate, if_pos (by omega)]
      · exact absurd ⟨g, hg, hh⟩ hc
/-- an image without what is wrong -/
def mendL (l : Bytes) : Bytes := clearAll l (checkL l)
theorem flt_in {l : Bytes} (hl : 288 ≤ l.length) {f : Flt} (hf : f ∈ checkL l) : FltIn l.length f := by
  unfold FltIn fltO fltN
  rcases mem_checkL.1 hf with ⟨k, hk, hn, rfl⟩ | ⟨i, hi, hn, rfl⟩
  · have := kindH_cases l.length (rawE l) k
    rw [if_neg (by simp only; omega), if_neg (by simp only; omega)]
    simp only; omega
  · have := kindR_cases (leadsE l.length (rawE l)) (rawR l) i
    rw [if_pos (by simp only; omega), if_pos (by simp only; omega)]
    simp only; omega
theorem mendL_len {l : Bytes} (hl : 288 ≤ l.length) : (mendL l).length = l.length := clearAll_len _ l (fun _ hf => flt_in hl hf)
theorem cleared_h {l : Bytes} {k q : Nat} (hk : k < 40) (hq : q < 5) : Cleared (checkL l) (5 * k + q) ↔ ¬ (kindH l.length (rawE l) k = 0 ∨ kindH l.length (rawE l) k = 6) := by
  constructor
  · rintro ⟨f, hf, h1, h2⟩
    unfold fltO fltN at *
    rcases mem_checkL.1 hf with ⟨k', hk', hn, rfl⟩ | ⟨i, hi, hn, rfl⟩
    · have := kindH_cases l.length (rawE l) k'
      rw [if_neg (by simp only; omega)] at h1 h2
      rw [if_neg (by simp only; omega)] at h2
      simp only at h1 h2
      obtain rfl : k' = k := by omega
      exact hn
    · have := kindR_cases (leadsE l.length (rawE l)) (rawR l) i
      rw [if_pos (by simp only; omega)] at h1 h2
      simp only at h1; omega
  · intro hn
    refine ⟨_, mem_checkL.2 (.inl ⟨k, hk, hn, rfl⟩), ?_⟩
    have := kindH_cases l.length (rawE l) k
    unfold fltO fltN
    rw [if_neg (by simp only; omega), if_neg (by simp only; omega)]
    simp only; omega
theorem cleared_r {l : Bytes} {i q : Nat} (hi : i < 8) (hq : q < 11) : Cleared (checkL l) (200 + 11 * i + q) ↔ ¬ (kindR (leadsE l.length (rawE l)) (rawR l) i = 0 ∨ kindR (leadsE l.length (rawE l)) (rawR l) i = 6) := by
  constructor
  · rintro ⟨f, hf, h1, h2⟩
    unfold fltO fltN at *
    rcases mem_checkL.1 hf with ⟨k', hk', hn, rfl⟩ | ⟨i', hi', hn, rfl⟩
    · have := kindH_cases l.length (rawE l) k'
      rw [if_neg (by simp only; omega)] at h1 h2
      rw [if_neg (by simp only; omega)] at h2
      simp only at h1 h2
      omega
    · have := kindR_cases (leadsE l.length (rawE l)) (rawR l) i'
      rw [if_pos (by simp only; omega)] at h1 h2
      rw [if_pos (by simp only; omega)] at h2
      simp only at h1 h2
      obtain rfl : i' = i := by omega
      exact hn
  · intro hn
    refine ⟨_, mem_checkL.2 (.inr ⟨i, hi, hn, rfl⟩), ?_⟩
    have := kindR_cases (leadsE l.length (rawE l)) (rawR l) i
    unfold fltO fltN
    rw [if_pos (by simp only; omega), if_pos (by simp only; omega)]
    simp only; omega
theorem mend_rawE {l : Bytes} (hl : 288 ≤ l.length) (k : Nat) (hk : k < 40) : rawE (mendL l) k = if kindH l.length (rawE l) k = 0 ∨ kindH l.length (rawE l) k = 6 then rawE l k else List.replicate 5 0 := by
  have hin : ∀ f ∈ checkL l, FltIn l.length f := fun _ hf => flt_in hl hf
  apply List.ext_getElem?
  intro q
  unfold rawE
  rw [List.getElem?_take, List.getElem?_drop]
  by_cases hq : q < 5
  · rw [if_pos hq]
    by_cases hc : kindH l.length (rawE l) k = 0 ∨ kindH l.length (rawE l) k = 6
    · have := clearAll_out (checkL l) (5 * k + q) (fun h => (cleared_h hk hq).1 h hc) l hin
      show (clearAll l (checkL l))[5 * k + q]? = _
      unfold rawE at *
      rw [this, if_pos hc, List.getElem?_take, if_pos hq, List.getElem?_drop]
    · have := clearAll_in (checkL l) (5 * k + q) ((cleared_h hk hq).2 hc) l hin
      show (clearAll l (checkL l))[5 * k + q]? = _
      unfold rawE at *
      rw [this, if_neg hc, List.getElem?_replicate, if_pos hq]
  · rw [if_neg hq]
    split
    · rw [List.getElem?_take, if_neg hq]
    · rw [List.getElem?_replicate, if_neg hq]
theorem mend_rawR {l : Bytes} (hl : 288 ≤ l.length) (i : Nat) (hi : i < 8) : rawR (mendL l) i = if kindR (leadsE l.length (rawE l)) (rawR l) i = 0 ∨ kindR (leadsE l.length (rawE l)) (rawR l) i = 6 then rawR l i else List.replicate 11 0 := by
  have hin : ∀ f ∈ checkL l, FltIn l.length f := fun _ hf => flt_in hl hf
  apply List.ext_getElem?
  intro q
  have hL : (rawR (mendL l) i)[q]? = if q < 11 then (clearAll l (checkL l))[200 + 11 * i + q]? else none := by
    unfold rawR mendL; rw [List.getElem?_take, List.getElem?_drop]
  have hR : (rawR l i)[q]? = if q < 11 then l[200 + 11 * i + q]? else none := by
    unfold rawR; rw [List.getElem?_take, List.getElem?_drop]
  rw [hL]
  by_cases hq : q < 11
  · rw [if_pos hq]
    by_cases hc : kindR (leadsE l.length (rawE l)) (rawR l) i = 0 ∨ kindR (leadsE l.length (rawE l)) (rawR l) i = 6
    · rw [clearAll_out (checkL l) (200 + 11 * i + q) (fun h => (cleared_r hi hq).1 h hc) l hin, if_pos hc, hR, if_pos hq]
    · rw [clearAll_in (checkL l) (200 + 11 * i + q) ((cleared_r hi hq).2 hc) l hin, if_neg hc, List.getElem?_replicate, if_pos hq]
  · rw [if_neg hq]
    split
    · rw [hR, if_neg hq]
    · rw [List.getElem?_replicate, if_neg hq]
theorem mend_kindH {l : Bytes} (hl : 288 ≤ l.length) (k : Nat) (hk : k < 40) : kindH (mendL l).length (rawE (mendL l)) k = if kindH l.length (rawE l) k = 6 then 6 else 0 := by
  rw [mendL_len hl]; exact kindH_after _ _ _ (fun k hk => mend_rawE hl k hk) k hk
theorem mend_leads {l : Bytes} (hl : 288 ≤ l.length) : leadsE (mendL l).length (rawE (mendL l)) = leadsE l.length (rawE l) := by
  rw [mendL_len hl]
  exact leadsE_after _ _ _ (fun k hk => by have := mend_kindH hl k hk; rwa [mendL_len hl] at this)
theorem mend_clean {l : Bytes} (hl : 288 ≤ l.length) : checkL (mendL l) = [] := by
  rw [List.eq_nil_iff_forall_not_mem]
  intro f hf
  rcases mem_checkL.1 hf with ⟨k, hk, hn, rfl⟩ | ⟨i, hi, hn, rfl⟩
  · apply hn
    rw [mend_kindH hl k hk]
    split <;> simp
  · apply hn
    rw [mend_leads hl, kindR_after _ _ _ (fun i hi => mend_rawR hl i hi) i hi]
    split <;> simp
theorem mend_id {l : Bytes} (h : checkL l = []) : mendL l = l := by unfold mendL; rw [h]; rfl
theorem mend_eq {l : Bytes} (hl : 288 ≤ l.length) : checkL l = [] ↔ mendL l = l :=
  ⟨mend_id, fun h => by have := mend_clean hl; rwa [h] at this⟩
theorem mend_rest {l : Bytes} (hl : 288 ≤ l.length) : (mendL l).drop 288 = l.drop 288 := by
  apply List.ext_getElem?
  intro p
  rw [List.getElem?_drop, List.getElem?_drop]
  refine clearAll_out _ _ ?_ l (fun _ hf => flt_in hl hf)
  rintro ⟨f, hf, h1, h2⟩
  unfold fltO at h1 h2
  unfold fltN at h2
  rcases mem_checkL.1 hf with ⟨k, hk, hn, rfl⟩ | ⟨i, hi, hn, rfl⟩
  · have := kindH_cases l.length (rawE l) k
    rw [if_neg (by simp only; omega), if_neg (by simp only; omega)] at h2
    simp only at h2; omega
  · have := kindR_cases (leadsE l.length (rawE l)) (rawR l) i
    rw [if_pos (by simp only; omega), if_pos (by simp only; omega)] at h2
    simp only at h2; omega
end Go.Proofs.YtijcclpnkfmpnaaGreat
/- image.find and image.Get: an entry read back. -/
namespace Go.Proofs.YtijcclpnkfmpnaaGreat
open Go.RowKit

theorem rawE_len (l : Bytes) (k : Nat) (hk : k < 40) (hn : 200 ≤ l.length) : (rawE l k).length = 5 := by
  unfold rawE; simp; omega
theorem rawE_rd {w : World} {A : Option Addr} {l : Bytes} (h : Rd w A l) (k : Nat) (hk : k < 40) (hn : 200 ≤ l.length) : Rd w (A.map (·.add (5 * k))) (rawE l k) := h.cut (5 * k) 5 (by omega)
/-- the handle's number -/
theorem entO_k (k : Nat) : entO ((k : Int) + 1) = 5 * k := by unfold entO; omega
/-- the entry that stands in five bytes -/
def entR (h : Int) (r : Bytes) : Value := entV h (rAt r) (rLen r) (rTag r)

set_option maxRecDepth 100000 in
theorem find_ok (A : Option Addr) (n c : Nat) (l : Bytes) (k : Nat) (w : World) (hn : l.length = n) (hl : 200 ≤ n) (hnc : n ≤ c) (hrd : Rd w A l) (hk : k < 40) :
    Calls Tryz.prog 78 #[.slice A n c, .int .i64 ((k : Int) + 1)] w fun e w' => e = .returned (.tuple #[entR ((k : Int) + 1) (rawE l k), .bool (hasE (rawE l k))]) ∧ Below w.heap.size w w' := by
  have hW : Below w.heap.size w (w.alloc (.cells #[.int .i64 0, .int .i64 0, .int .i64 0, .int .i64 0] 85)) := (Below.refl _ _).alloc (Nat.le_refl _) _
  have hR := rawE_rd (hrd.below hW) k hk (by omega)
  have hRl := rawE_len l k hk (by omega)
  obtain ⟨p, off, rfl, hpl⟩ := hrd.lt (by omega)
  rw [Option.map_some, Addr.add_lit] at hR
  have hP := entO_k k
  go_enter Tryz.func78, Tryz.ntmps78
  go_wp2_with fail
  refine (raw_any _ _ _ ((k : Int) + 1) _ (by omega) (by omega) hl hnc).mono ?_
  rintro e w' ⟨rfl, rfl⟩
  rw [Option.map_some, Addr.add_lit, hP]
  generalize hrr : rawE l k = r at *
  have h0 := hR.at_ 0 (by omega)
  have hR1 := hR.cut 1 2 (by omega)
  have hR3 := hR.cut 3 2 (by omega)
  rw [Option.map_some, Addr.add_lit] at hR1 hR3
  rw [Nat.add_zero] at h0
  have hw0 : IntKind.i64.wrap (((r[0]'(by omega)).toNat : Int)) = ((r[0]'(by omega)).toNat : Int) := IntWalk.i64_in _ (by have := u8_lt (r[0]'(by omega)); omega)
  have hw1 : IntKind.i64.wrap (((r[0]'(by omega)).toNat : Int) - 1) = ((r[0]'(by omega)).toNat : Int) - 1 := IntWalk.i64_in _ (by have := u8_lt (r[0]'(by omega)); omega)
  have hd1 : ((r.drop 1).take 2).length = 2 := by simp; omega
  have hd3 : ((r.drop 3).take 2).length = 2 := by simp; omega
  have H1 : Hidden (ofB ((r.drop 1).take 2) = rAt r) := ⟨rfl⟩
  have H3 : Hidden (ofB ((r.drop 3).take 2) = rLen r) := ⟨rfl⟩
  have HH : Hidden (r[0]'(by omega) = rHd r) := ⟨by unfold rHd; cases r with | nil => simp at hRl | cons x y => rfl⟩
  have c1 := fun (cap : Nat) (W : World) (hb : Below (w.heap.size + 1) (w.alloc (.cells #[.int .i64 0, .int .i64 0, .int .i64 0, .int .i64 0] 85)) W) => of_any (some ⟨p, off + 5 * k + 1, none⟩) 2 cap ((r.drop 1).take 2) W hd1 (by omega) (hR1.below (by simpa using hb))
  have c3 := fun (cap : Nat) (W : World) (hb : Below (w.heap.size + 1) (w.alloc (.cells #[.int .i64 0, .int .i64 0, .int .i64 0, .int .i64 0] 85)) W) => of_any (some ⟨p, off + 5 * k + 3, none⟩) 2 cap ((r.drop 3).take 2) W hd3 (by omega) (hR3.below (by simpa using hb))
  have C1 := Hidden.mk c1
  have C3 := Hidden.mk c3
  clear c1 c3 hR hR1 hR3 hrd hW
  generalize r[0]'(by omega) = hd at *
  go_wp2_with fail
  have hq1 : ¬ c - 5 * k = 1 := by omega
  have hq3 : ¬ c - 5 * k = 3 := by omega
  have hq5 : 5 ≤ c - 5 * k := by omega
  have hq4 : 3 ≤ c - 5 * k := by omega
  have hS : Hidden (∀ W : World, Below (w.heap.size) (w.alloc (.cells #[.int .i64 0, .int .i64 0, .int .i64 0, .int .i64 0] 85)) W → W.cell? ⟨p, off + 5 * k, none⟩ = some (bv hd)) := ⟨fun W hb => (hb.cell (p := ⟨p, off + 5 * k, none⟩) hpl).trans h0⟩
  have hsl1 := run_cut p (off + 5 * k) 5 (c - 5 * k) 1 3 (by omega) (by omega) (by omega)
  have hsl3 := run_cut p (off + 5 * k) 5 (c - 5 * k) 3 5 (by omega) (by omega) (by omega)
  simp only [Nat.reduceSub, Int.cast_ofNat_Int] at hsl1 hsl3
  have hw : w.cell? ⟨p, off + 5 * k, none⟩ = some (bv hd) := (World.cell?_alloc_lt w _ ⟨p, off + 5 * k, none⟩ hpl).symm.trans h0
  have HRR := Hidden.mk hrr
  clear hn hl hnc hk hP hrr hRl hd1 hd3
  go_region_held3 (fun W => W.cell? ⟨p, off + 5 * k, none⟩ = some (bv hd)) (first | exact hS.out _ (Below.refl _ _).drew | exact h0 | exact (World.cell?_alloc_lt _ _ _ hpl).trans hw)
    (first
      | (go_at_call 119; refine (C1.out _ _ ((Below.refl _ _).drew)).mono ?_; clear C1; rintro e w' ⟨rfl, rfl⟩)
      | (go_at_call 119; refine (C3.out _ _ ((Below.refl _ _).drew)).mono ?_; clear C3; rintro e w' ⟨rfl, rfl⟩))
  go_wp2_with fail
  refine bodyPost_ret (v := .tuple #[.agg #[.int .i64 ((k : Int) + 1), .int .i64 (ofB (List.take 2 (List.tail r))), .int .i64 (ofB (List.take 2 (List.drop 3 r))), .int .i64 ((hd.toNat : Int) - 1)], .bool ((hd.toNat : Int) != 0)]) ?_ rfl ?_
  · simp [results, Tryz.f78, go_sem]
  · refine ⟨?_, ((Below.refl _ _).alloc (Nat.le_refl _) _).drew⟩
    have h1 := H1.out
    have h3 := H3.out
    rw [List.drop_one] at h1
    rw [h1, h3, HRR.out]
    unfold entR entV hasE rTag
    rw [← HH.out, bv_bne]
    rfl
set_option maxRecDepth 100000 in
theorem iget_ok (A : Option Addr) (n c : Nat) (l : Bytes) (k : Nat) (w : World) (hn : l.length = n) (hr : rightB n = true) (hnc : n ≤ c) (hrd : Rd w A l) (hk : k < 40) :
    Calls Tryz.prog 42 #[.slice A n c, .int .i64 ((k : Int) + 1)] w fun e w' => (hasE (rawE l k) = true → e = .returned (.tuple #[entR ((k : Int) + 1) (rawE l k), .nilIface])) ∧ (hasE (rawE l k) = false → e = .returned (.tuple #[entV 0 0 0 0, .iface 76 (.int .i64 5)])) ∧ Below w.heap.size w w' := by
  have hnb := rightB_true.1 hr
  have hh : handleB ((k : Int) + 1) = true := handleB_true.2 (by omega)
  have hW : Below w.heap.size w (w.alloc (.cells #[.int .i64 0, .int .i64 0, .int .i64 0, .int .i64 0] 85)) := (Below.refl _ _).alloc (Nat.le_refl _) _
  have hrd1 := hrd.below hW
  go_enter Tryz.func42, Tryz.ntmps42
  go_wp2_with fail
  refine (check_ok A n c ((k : Int) + 1) _ hr hh).mono ?_
  rintro e w1 ⟨rfl, rfl⟩
  go_wp2_with fail
  refine (find_ok A n c l k _ hn (by omega) hnc hrd1 hk).mono ?_
  rintro e w2 ⟨rfl, hb2⟩
  have hB2 : Below w.heap.size w w2 := hW.trans (hb2.mono hW.size)
  have hc0 : w2.heap[w.heap.size]? = some (.cells #[.int .i64 0, .int .i64 0, .int .i64 0, .int .i64 0] 85 (0, 0)) := (hb2.block w.heap.size (by simp)).trans (heap_alloc_new w _)
  have d0 : w2.cell? ⟨w.heap.size, 0, none⟩ = some (.int .i64 0) := by simp [World.cell?, hc0]
  have d1 : w2.cell? ⟨w.heap.size, 1, none⟩ = some (.int .i64 0) := by simp [World.cell?, hc0]
  have d2 : w2.cell? ⟨w.heap.size, 2, none⟩ = some (.int .i64 0) := by simp [World.cell?, hc0]
  have d3 : w2.cell? ⟨w.heap.size, 3, none⟩ = some (.int .i64 0) := by simp [World.cell?, hc0]
  have f0 : ∀ q, w2.frozen? ⟨w.heap.size, q, none⟩ = false := fun q => by simp [World.frozen?, hc0]
  have f00 := f0 0
  have f01 := f0 1
  have f02 := f0 2
  have f03 := f0 3
  have hlt2 : w.heap.size < w2.heap.size := (Array.getElem?_eq_some_iff.1 hc0).1
  have hne2 : w2.heap.size ≠ w.heap.size := by omega
  have hne3 : w.heap.size ≠ w2.heap.size := by omega
  unfold entR
  cases hE : hasE (rawE l k) with
  | true =>
    generalize ha1 : rAt (rawE l k) = a1 at *
    generalize ha2 : rLen (rawE l k) = a2 at *
    generalize ha3 : rTag (rawE l k) = a3 at *
    have HA := Hidden.mk (And.intro ha1 (And.intro ha2 ha3))
    have HE := Hidden.mk hE
    clear ha1 ha2 ha3 hE
    go_wp2_with fail
    refine bodyPost_ret (v := .tuple #[entV ((k : Int) + 1) a1 a2 a3, .nilIface]) ?_ rfl ?_
    · rw [results_cell_tmp rfl]
      go_simp
    · refine ⟨fun _ => ?_, fun h => ?_, ?_⟩
      · obtain ⟨h1, h2, h3⟩ := HA.out
        rw [entR, h1, h2, h3]
      · rw [HE.out] at h; cases h
      · exact ((((hB2.setCell (p := ⟨w.heap.size, 0, none⟩) (Nat.le_refl _) _).setCell (p := ⟨w.heap.size, 1, none⟩) (Nat.le_refl _) _).setCell (p := ⟨w.heap.size, 2, none⟩) (Nat.le_refl _) _).setCell (p := ⟨w.heap.size, 3, none⟩) (Nat.le_refl _) _).alloc (by simp; omega) _
  | false =>
    have HE := Hidden.mk hE
    clear hE
    go_wp2_with fail
    refine bodyPost_ret (v := .tuple #[entV 0 0 0 0, .iface 76 (.int .i64 5)]) ?_ rfl ?_
    · rw [results_cell_tmp rfl]
      go_simp
    · refine ⟨fun h => ?_, fun _ => rfl, ?_⟩
      · rw [HE.out] at h; cases h
      · exact ((((hB2.setCell (p := ⟨w.heap.size, 0, none⟩) (Nat.le_refl _) _).setCell (p := ⟨w.heap.size, 1, none⟩) (Nat.le_refl _) _).setCell (p := ⟨w.heap.size, 2, none⟩) (Nat.le_refl _) _).setCell (p := ⟨w.heap.size, 3, none⟩) (Nat.le_refl _) _).alloc (by simp; omega) _
end Go.Proofs.YtijcclpnkfmpnaaGreat
/- A heap in memory; the contracts of heap.New and Bytes. -/
namespace Go.Proofs.YtijcclpnkfmpnaaGreat
open Go.RowKit

/-- block h is a heap that was made behind w0: its image is l -/
structure Hp (w0 w : World) (F : Nat → Prop) (h : Nat) (l : Bytes) : Prop where
  hd : ∃ g cap, w.heap[h]? = some (.cells #[.slice (some ⟨g, 0, none⟩) l.length cap] 81 (0, 0)) ∧ Row w 5 g cap l ∧ F g
  fh : F h
  len : rightB l.length = true
  new : ∀ k, F k → w0.heap.size ≤ k
  flt : ∀ k, F k → k < w.heap.size
  bel : Below w0.heap.size w0 w
section
variable {w0 w w' : World} {F : Nat → Prop} {h : Nat} {l : Bytes}
theorem Hp.below (hp : Hp w0 w F h l) (hb : Below w.heap.size w w') : Hp w0 w' F h l := by
  obtain ⟨g, cap, h1, h2, h3⟩ := hp.hd
  exact ⟨⟨g, cap, (hb.block _ (hp.flt _ hp.fh)).trans h1, h2.block (hb.block _ (hp.flt _ h3)), h3⟩, hp.fh, hp.len, hp.new, fun k hk => Nat.lt_of_lt_of_le (hp.flt k hk) hb.size, hp.bel.trans (hb.mono hp.bel.size)⟩
theorem Hp.keep {G : Nat → Prop} (hp : Hp w0 w F h l) (hk : Keep G w w') (hG : ∀ k, F k → ¬ G k) (hn : ∀ k, G k → w0.heap.size ≤ k) : Hp w0 w' F h l := by
  obtain ⟨g, cap, h1, h2, h3⟩ := hp.hd
  exact ⟨⟨g, cap, (hk.block _ (hp.flt _ hp.fh) (hG _ hp.fh)).trans h1, h2.block (hk.block _ (hp.flt _ h3) (hG _ h3)), h3⟩, hp.fh, hp.len, hp.new, fun k hk' => Nat.lt_of_lt_of_le (hp.flt k hk') hk.size, hp.bel.trans (hk.below hp.bel.size hn)⟩
/-- what a walk wants of it -/
theorem Hp.open_ (hp : Hp w0 w F h l) : ∃ g cap, w.cell? ⟨h, 0, none⟩ = some (.slice (some ⟨g, 0, none⟩) l.length cap) ∧ l.length ≤ cap ∧ Row w 5 g cap l ∧ F g := by
  obtain ⟨g, cap, h1, h2, h3⟩ := hp.hd
  exact ⟨g, cap, by simp [World.cell?, h1], h2.le.1, h2, h3⟩
end
theorem hbytes_ok (w0 w : World) (F : Nat → Prop) (h : Nat) (l : Bytes) (hp : Hp w0 w F h l) :
    Calls Tryz.prog 10 #[.pointer (some ⟨h, 0, none⟩)] w fun e w' => ∃ g cap, e = .returned (.slice (some ⟨g, 0, none⟩) l.length cap) ∧ w.heap.size ≤ g ∧ Row w' 5 g cap l ∧ Below w.heap.size w w' := by
  obtain ⟨g, cap, c0, hcap, hrow, hF⟩ := hp.open_
  have hb := rightB_true.1 hp.len
  have HC := Hidden.mk (clone_some ⟨g, 0, none⟩ l.length cap l w rfl (by omega) hrow.rd)
  clear hp hrow
  go_enter Tryz.func10, Tryz.ntmps10
  go_wp2_with fail
  refine HC.out.mono ?_
  rintro e w1 ⟨g1, cap1, rfl, hg, hrow, hb1⟩
  clear HC
  go_wp2_with fail
  go_ret
  exact ⟨g1, cap1, rfl, hg, hrow, hb1⟩
end Go.Proofs.YtijcclpnkfmpnaaGreat
/- The contracts of check.stray, check.over and image.Zero. -/
namespace Go.Proofs.YtijcclpnkfmpnaaGreat
open Go.RowKit

theorem stray_any (A : Option Addr) (n c : Nat) (h at_ len tag : Int) (w : World) (hn : n ≤ 6400) (_ha : 0 ≤ at_) (hl : 0 ≤ len) (hl2 : len ≤ 65535) :
    Calls Tryz.prog 171 #[.slice A n c, entV h at_ len tag] w fun e w' => e = .returned (.bool (!(tagB tag && lenB len && withinB n at_ len))) ∧ Below w.heap.size w w' := by
  have hW : Below w.heap.size w (w.alloc (.cells #[.int .i64 h, .int .i64 at_, .int .i64 len, .int .i64 tag] 85)) := (Below.refl _ _).alloc (Nat.le_refl _) _
  cases ht : tagB tag with
  | false =>
    go_enter Tryz.func171, Tryz.ntmps171
    go_wp2_with fail
    refine (tag_any tag _).mono ?_
    rintro e w1 ⟨rfl, rfl⟩
    rw [ht]
    go_wp2_with fail
    go_ret
    exact ⟨rfl, hW⟩
  | true =>
    cases hlb : lenB len with
    | false =>
      go_enter Tryz.func171, Tryz.ntmps171
      go_wp2_with fail
      refine (tag_any tag _).mono ?_
      rintro e w1 ⟨rfl, rfl⟩
      rw [ht]
      go_wp2_with fail
      refine (len_any len _).mono ?_
      rintro e w1 ⟨rfl, rfl⟩
      rw [hlb]
      go_wp2_with fail
      go_ret
      exact ⟨rfl, hW⟩
    | true =>
      go_enter Tryz.func171, Tryz.ntmps171
      go_wp2_with fail
      refine (tag_any tag _).mono ?_
      rintro e w1 ⟨rfl, rfl⟩
      rw [ht]
      go_wp2_with fail
      refine (len_any len _).mono ?_
      rintro e w1 ⟨rfl, rfl⟩
      rw [hlb]
      go_wp2_with fail
      refine (within_any n at_ len _ (by omega) (by omega) hl (by omega)).mono ?_
      rintro e w1 ⟨rfl, hb1⟩
      have hB := hW.trans (hb1.mono hW.size)
      clear hb1 hW
      cases hq : withinB n at_ len with
      | true =>
        go_wp2_with fail
        go_ret
        exact ⟨by rw [hq]; rfl, hB⟩
      | false =>
        go_wp2_with fail
        go_ret
        exact ⟨by rw [hq]; rfl, hB⟩
/-- do two stretches of bytes share one? -/
def overB (a al b bl : Int) : Bool := decide (a < b + bl) && decide (b < a + al)
theorem over_any (a al b bl : Int) (w : World) (h1 : 0 ≤ a) (h2 : a ≤ 100000) (h3 : 0 ≤ al) (h4 : al ≤ 100000) (h5 : 0 ≤ b) (h6 : b ≤ 100000) (h7 : 0 ≤ bl) (h8 : bl ≤ 100000) :
    Calls Tryz.prog 174 #[.agg #[.int .i64 a, .int .i64 al], .agg #[.int .i64 b, .int .i64 bl]] w fun e w' => e = .returned (.bool (overB a al b bl)) ∧ Below w.heap.size w w' := by
  have hW := ((Below.refl w.heap.size w).alloc (Nat.le_refl _) (.cells #[.int .i64 a, .int .i64 al] 83)).alloc (by simp) (.cells #[.int .i64 b, .int .i64 bl] 83)
  have s1 : IntKind.i64.wrap (b + bl) = b + bl := IntWalk.i64_in _ (by omega)
  have s2 : IntKind.i64.wrap (a + al) = a + al := IntWalk.i64_in _ (by omega)
  unfold overB
  by_cases hc : a < b + bl
  · go_enter Tryz.func174, Tryz.ntmps174
    go_wp2_with fail
    go_ret
    exact ⟨by simp [hc], hW⟩
  · go_enter Tryz.func174, Tryz.ntmps174
    go_wp2_with fail
    go_ret
    exact ⟨by simp; omega, hW⟩
theorem pred_izero : Pred 130 nonZero := by
  intro x w
  have hb := Hidden.mk (bv_bne x)
  go_enter Tryz.func130, Tryz.ntmps130
  go_wp2
  go_ret
  exact ⟨ret_bool hb.out, rfl⟩
theorem idxf_izero (A : Option Addr) (n c : Nat) (l : Bytes) (w : World) (hn : l.length = n) (hl : n ≤ maxLen) (hr : Rd w A l) :
    Calls Tryz.prog 148 #[.slice A n c, .func (.func 130) #[] #[]] w fun e w' => e = .returned (.int .i64 (idxP nonZero l)) ∧ w = w' := by
  subst hn
  unfold maxLen at hl
  have HP := Hidden.mk pred_izero
  generalize nonZero = p at HP ⊢
  go_enter Tryz.func148, Tryz.ntmps148
  go_wp2
  go_loopw [8] (fun i wr => w = wr ∧ ∃ k : Nat, k ≤ l.length ∧ i = .int .i64 k ∧ Hidden (∀ x ∈ l.take k, p x = false)) (fun i _ => l.length - (intOf i).toNat)
  case atStart => exact ⟨rfl, 0, Nat.zero_le _, rfl, ⟨by simp⟩⟩
  case round =>
    obtain ⟨rfl, k, hk, rfl, hnot⟩ := hrel
    by_cases hlt : k < l.length
    · obtain ⟨b, off, rfl, hc⟩ := hr k hlt
      go_wp2_with fail
      refine (HP.out _ _).mono ?_
      rintro e w1 ⟨rfl, rfl⟩
      cases he : p l[k] with
      | true =>
        have hi : Hidden (idxP p l = k) := ⟨idxP_at p l k hlt hnot.out he⟩
        clear he
        go_wp2
        go_ret
        exact ⟨ret_i64 hi.out.symm, rfl⟩
      | false =>
        have hnk : Hidden (∀ x ∈ l.take (k + 1), p x = false) := ⟨forall_take_succ hlt hnot.out he⟩
        clear he hnot
        go_wp2
        go_roundw
        case rel => exact ⟨by trivial, k + 1, by omega, by go_num, hnk⟩
        case measure => simp [intOf]; omega
    · have hi : Hidden (idxP p l = -1) := ⟨idxP_none p l (by have := hnot.out; rwa [List.take_of_length_le (by omega)] at this)⟩
      go_wp2
      go_ret
      exact ⟨ret_i64 hi.out.symm, rfl⟩
theorem izero_any (A : Option Addr) (n c : Nat) (l : Bytes) (w : World) (hn : l.length = n) (hl : n ≤ maxLen) (hr : Rd w A l) :
    Calls Tryz.prog 88 #[.slice A n c] w fun e w' => e = .returned (.bool (zeroE l)) ∧ w = w' := by
  have hv := Hidden.mk (idxP_any nonZero l)
  have hcf : Calls Tryz.prog 128 #[.slice A n c, .func (.func 130) #[] #[]] w fun e w' => e = .returned (.bool (l.any nonZero)) ∧ w = w' := by
    go_enter Tryz.func128, Tryz.ntmps128
    go_wp2_with fail
    refine (idxf_izero A n c l _ hn hl hr).mono ?_
    rintro e w1 ⟨rfl, rfl⟩
    go_wp2
    go_ret
    exact ⟨congrArg (fun b => Ending.returned (.bool b)) hv.out, rfl⟩
  have HC := Hidden.mk hcf
  clear hcf
  unfold zeroE
  go_enter Tryz.func88, Tryz.ntmps88
  go_wp2_with fail
  refine HC.out.mono ?_
  rintro e w1 ⟨rfl, rfl⟩
  go_wp2_with fail
  go_ret
  exact ⟨rfl, rfl⟩

theorem forall_take_succ' {α : Type} {l : List α} {k : Nat} {p : α → Bool} (hk : k < l.length) (h : ∀ x ∈ l.take k, p x = false) (hp : p l[k] = false) : ∀ x ∈ l.take (k + 1), p x = false := by
  intro x hx
  rw [List.take_succ_eq_append_getElem hk, List.mem_append, List.mem_singleton] at hx
  rcases hx with hx | rfl
  · exact h x hx
  · exact hp
/-- the slice at A has the entries L: the handle, the bytes -/
def RdEs (w : World) (A : Option Addr) (L : List (Int × Bytes)) : Prop := ∀ i (h : i < L.length), ∃ g off, A = some ⟨g, off, none⟩ ∧ w.cell? ⟨g, off + i * 4, none⟩ = some (.int .i64 L[i].1) ∧ w.cell? ⟨g, off + i * 4 + 1, none⟩ = some (.int .i64 (rAt L[i].2)) ∧
  w.cell? ⟨g, off + i * 4 + 2, none⟩ = some (.int .i64 (rLen L[i].2)) ∧ w.cell? ⟨g, off + i * 4 + 3, none⟩ = some (.int .i64 (rTag L[i].2))
theorem RdEs.below {w w' : World} {A : Option Addr} {L : List (Int × Bytes)} (h : RdEs w A L) (hb : Below w.heap.size w w') : RdEs w' A L := fun i hi => by
  obtain ⟨g, off, hA, c0, c1, c2, c3⟩ := h i hi
  exact ⟨g, off, hA, (hb.cell (block_lt_of_cell c0)).trans c0, (hb.cell (block_lt_of_cell c1)).trans c1, (hb.cell (block_lt_of_cell c2)).trans c2, (hb.cell (block_lt_of_cell c3)).trans c3⟩
theorem idxe_over (p : Int × Bytes → Bool) (A : Option Addr) (n c : Nat) (L : List (Int × Bytes)) (cap : Value) (w : World) (hn : L.length = n) (hl : n ≤ 1000) (hr : RdEs w A L)
    (hP : ∀ x ∈ L, ∀ W, Below w.heap.size w W → Calls Tryz.prog 173 #[entR x.1 x.2, cap] W fun e w' => e = .returned (.bool (p x)) ∧ Below W.heap.size W w') :
    Calls Tryz.prog 196 #[.slice A n c, .func (.func 173) #[] #[cap]] w fun e w' => ∃ z : Int, e = .returned (.int .i64 z) ∧ decide (0 ≤ z) = L.any p ∧ Below w.heap.size w w' := by
  subst hn
  have HP := Hidden.mk hP
  clear hP
  go_enter Tryz.func196, Tryz.ntmps196
  go_wp2_with fail
  go_loopw [8] (fun i wr => Below w.heap.size w wr ∧ ∃ k : Nat, k ≤ L.length ∧ i = .int .i64 k ∧ Hidden (∀ x ∈ L.take k, p x = false)) (fun i _ => L.length - (intOf i).toNat)
  case atStart => exact ⟨Below.refl _ _, 0, Nat.zero_le _, rfl, ⟨by simp⟩⟩
  case round =>
    obtain ⟨hbel, k, hk, rfl, hnot⟩ := hrel
    by_cases hlt : k < L.length
    · obtain ⟨b, off, rfl, c0, c1, c2, c3⟩ := (hr.below hbel) k hlt
      have hp := HP.out L[k] (List.getElem_mem hlt) wr hbel
      have HPK := Hidden.mk hp
      have HE : Hidden (entR L[k].1 L[k].2 = entV L[k].1 (rAt L[k].2) (rLen L[k].2) (rTag L[k].2)) := ⟨rfl⟩
      have i0 : (0 : Int) ≤ k := by omega
      have i1 : (k : Int) < L.length := by omega
      clear hp
      go_wp2_with fail
      refine (HPK.out).mono ?_
      rintro e w1 ⟨rfl, hb1⟩
      have hB1 := hbel.trans (hb1.mono hbel.size)
      cases he : p L[k] with
      | true =>
        have hi : Hidden (true = L.any p) := ⟨(List.any_eq_true.2 ⟨L[k], List.getElem_mem hlt, he⟩).symm⟩
        clear he hb1 hbel
        go_wp2_with fail
        go_ret
        exact ⟨_, rfl, by rw [← hi.out]; simp, hB1⟩
      | false =>
        have hnk : Hidden (∀ x ∈ L.take (k + 1), p x = false) := ⟨forall_take_succ' hlt hnot.out he⟩
        clear he hnot hb1 hbel
        go_wp2_with fail
        go_roundw
        case rel => exact ⟨hB1, k + 1, by omega, by go_num, hnk⟩
        case measure => simp [intOf]; omega
    · have hi : Hidden (false = L.any p) := ⟨by
        have := hnot.out
        rw [List.take_of_length_le (by omega)] at this
        symm; simpa using this⟩
      go_wp2_with fail
      go_ret
      exact ⟨-1, rfl, by rw [← hi.out]; rfl, hbel⟩
theorem cfe_over (p : Int × Bytes → Bool) (A : Option Addr) (n c : Nat) (L : List (Int × Bytes)) (cap : Value) (w : World) (hn : L.length = n) (hl : n ≤ 1000) (hr : RdEs w A L)
    (hP : ∀ x ∈ L, ∀ W, Below w.heap.size w W → Calls Tryz.prog 173 #[entR x.1 x.2, cap] W fun e w' => e = .returned (.bool (p x)) ∧ Below W.heap.size W w') :
    Calls Tryz.prog 172 #[.slice A n c, .func (.func 173) #[] #[cap]] w fun e w' => e = .returned (.bool (L.any p)) ∧ Below w.heap.size w w' := by
  have HC := Hidden.mk (idxe_over p A n c L cap w hn hl hr hP)
  clear hP
  go_enter Tryz.func172, Tryz.ntmps172
  go_wp2_with fail
  refine HC.out.mono ?_
  rintro e w1 ⟨z, rfl, hz, hb⟩
  have HZ := Hidden.mk hz
  clear hz
  go_wp2_with fail
  go_ret
  exact ⟨congrArg (fun b => Ending.returned (.bool b)) HZ.out, hb⟩
theorem idxe_leads (p : Int × Bytes → Bool) (A : Option Addr) (n c : Nat) (L : List (Int × Bytes)) (cap : Value) (w : World) (hn : L.length = n) (hl : n ≤ 1000) (hr : RdEs w A L)
    (hP : ∀ x ∈ L, ∀ W, Below w.heap.size w W → Calls Tryz.prog 175 #[entR x.1 x.2, cap] W fun e w' => e = .returned (.bool (p x)) ∧ Below W.heap.size W w') :
    Calls Tryz.prog 196 #[.slice A n c, .func (.func 175) #[] #[cap]] w fun e w' => ∃ z : Int, e = .returned (.int .i64 z) ∧ decide (0 ≤ z) = L.any p ∧ Below w.heap.size w w' := by
  subst hn
  have HP := Hidden.mk hP
  clear hP
  go_enter Tryz.func196, Tryz.ntmps196
  go_wp2_with fail
  go_loopw [8] (fun i wr => Below w.heap.size w wr ∧ ∃ k : Nat, k ≤ L.length ∧ i = .int .i64 k ∧ Hidden (∀ x ∈ L.take k, p x = false)) (fun i _ => L.length - (intOf i).toNat)
  case atStart => exact ⟨Below.refl _ _, 0, Nat.zero_le _, rfl, ⟨by simp⟩⟩
  case round =>
    obtain ⟨hbel, k, hk, rfl, hnot⟩ := hrel
    by_cases hlt : k < L.length
    · obtain ⟨b, off, rfl, c0, c1, c2, c3⟩ := (hr.below hbel) k hlt
      have hp := HP.out L[k] (List.getElem_mem hlt) wr hbel
      have HPK := Hidden.mk hp
      have HE : Hidden (entR L[k].1 L[k].2 = entV L[k].1 (rAt L[k].2) (rLen L[k].2) (rTag L[k].2)) := ⟨rfl⟩
      have i0 : (0 : Int) ≤ k := by omega
      have i1 : (k : Int) < L.length := by omega
      clear hp
      go_wp2_with fail
      refine (HPK.out).mono ?_
      rintro e w1 ⟨rfl, hb1⟩
      have hB1 := hbel.trans (hb1.mono hbel.size)
      cases he : p L[k] with
      | true =>
        have hi : Hidden (true = L.any p) := ⟨(List.any_eq_true.2 ⟨L[k], List.getElem_mem hlt, he⟩).symm⟩
        clear he hb1 hbel
        go_wp2_with fail
        go_ret
        exact ⟨_, rfl, by rw [← hi.out]; simp, hB1⟩
      | false =>
        have hnk : Hidden (∀ x ∈ L.take (k + 1), p x = false) := ⟨forall_take_succ' hlt hnot.out he⟩
        clear he hnot hb1 hbel
        go_wp2_with fail
        go_roundw
        case rel => exact ⟨hB1, k + 1, by omega, by go_num, hnk⟩
        case measure => simp [intOf]; omega
    · have hi : Hidden (false = L.any p) := ⟨by
        have := hnot.out
        rw [List.take_of_length_le (by omega)] at this
        symm; simpa using this⟩
      go_wp2_with fail
      go_ret
      exact ⟨-1, rfl, by rw [← hi.out]; rfl, hbel⟩
theorem cfe_leads (p : Int × Bytes → Bool) (A : Option Addr) (n c : Nat) (L : List (Int × Bytes)) (cap : Value) (w : World) (hn : L.length = n) (hl : n ≤ 1000) (hr : RdEs w A L)
    (hP : ∀ x ∈ L, ∀ W, Below w.heap.size w W → Calls Tryz.prog 175 #[entR x.1 x.2, cap] W fun e w' => e = .returned (.bool (p x)) ∧ Below W.heap.size W w') :
    Calls Tryz.prog 172 #[.slice A n c, .func (.func 175) #[] #[cap]] w fun e w' => e = .returned (.bool (L.any p)) ∧ Below w.heap.size w w' := by
  have HC := Hidden.mk (idxe_leads p A n c L cap w hn hl hr hP)
  clear hP
  go_enter Tryz.func172, Tryz.ntmps172
  go_wp2_with fail
  refine HC.out.mono ?_
  rintro e w1 ⟨z, rfl, hz, hb⟩
  have HZ := Hidden.mk hz
  clear hz
  go_wp2_with fail
  go_ret
  exact ⟨congrArg (fun b => Ending.returned (.bool b)) HZ.out, hb⟩
end Go.Proofs.YtijcclpnkfmpnaaGreat
/- The contract of check.handles. -/
namespace Go.Proofs.YtijcclpnkfmpnaaGreat
open Go.RowKit

def entsL (p : Nat → Bool) (R : Nat → Bytes) (m : Nat) : List (Int × Bytes) := ((List.range m).filter p).map fun (k : Nat) => (((k : Int) + 1), R k)
def rightL (n : Nat) (R : Nat → Bytes) (m : Nat) : List (Int × Bytes) := entsL (fun k => kindH n R k == 6) R m
def wholeL (n : Nat) (R : Nat → Bytes) (m : Nat) : List (Int × Bytes) := entsL (fun k => wholeE n (R k)) R m
theorem entsL_succ (p : Nat → Bool) (R : Nat → Bytes) (m : Nat) : entsL p R (m + 1) = entsL p R m ++ (if p m = true then [(((m : Int) + 1), R m)] else []) := by
  unfold entsL
  rw [List.range_succ, List.filter_append, List.map_append]
  congr 1
  cases h : p m <;> simp [h]
theorem entsL_len (p : Nat → Bool) (R : Nat → Bytes) (m : Nat) : (entsL p R m).length ≤ m := by
  unfold entsL
  rw [List.length_map]
  have := List.length_filter_le p (List.range m)
  rwa [List.length_range] at this
theorem wholeL_any (n : Nat) (R : Nat → Bytes) (m : Nat) (r : Bytes) : (wholeL n R m).any (fun x => overE r x.2) = (List.range m).any fun j => wholeE n (R j) && overE r (R j) := by
  unfold wholeL entsL
  rw [List.any_map, List.any_filter]
  rfl
def ecells (x : Int × Bytes) : List Value := [.int .i64 x.1, .int .i64 (rAt x.2), .int .i64 (rLen x.2), .int .i64 (rTag x.2)]
def fcells (f : Flt) : List Value := [.int .i64 f.what, .int .i64 f.which]
theorem ecells_at (L : List (Int × Bytes)) (q : Nat) (hq : q < 4) : ∀ i (h : i < L.length), (L.flatMap ecells)[i * 4 + q]? = (ecells L[i])[q]? := by
  induction L with
  | nil => intro i h; simp at h
  | cons x L ih =>
    intro i h
    rw [List.flatMap_cons]
    have hl : (ecells x).length = 4 := rfl
    cases i with
    | zero => rw [List.getElem?_append_left (by omega)]; simp
    | succ i =>
      rw [List.getElem?_append_right (by omega), hl, show (i + 1) * 4 + q - 4 = i * 4 + q from by omega, ih i (by simpa using h)]
      simp
theorem own_rdEs {w : World} {base : Nat} {v : Value} {L : List (Int × Bytes)} (h : w.ownsRow base 85 4 v L.length (L.flatMap ecells)) : ∃ A c, v = .slice A L.length c ∧ L.length ≤ c ∧ RdEs w A L := by
  rcases h.2 with ⟨rfl, h0⟩ | ⟨g, cap, cur, rfl, _, hh, hc, hm, hz, ht⟩
  · exact ⟨none, 0, by rw [h0], by omega, fun i hi => by omega⟩
  · refine ⟨_, cap, rfl, hc, fun i hi => ?_⟩
    have hcell : ∀ q u, q < 4 → (ecells L[i])[q]? = some u → w.cell? ⟨g, 0 + (i * 4 + q), none⟩ = some u := fun q u hq hu => by
      have := h.cells (g := g) rfl (i * 4 + q) u (by rw [ecells_at L q hq i hi]; exact hu)
      rw [Addr.add_lit] at this
      exact this
    refine ⟨g, 0, rfl, ?_, ?_, ?_, ?_⟩
    · exact hcell 0 _ (by omega) rfl
    · exact (Nat.add_assoc 0 (i * 4) 1) ▸ hcell 1 _ (by omega) rfl
    · exact (Nat.add_assoc 0 (i * 4) 2) ▸ hcell 2 _ (by omega) rfl
    · exact (Nat.add_assoc 0 (i * 4) 3) ▸ hcell 3 _ (by omega) rfl
theorem own_apart {w : World} {base e e' size size' n n' : Nat} {v v' : Value} {xs xs' : List Value} (h : w.ownsRow base e size v n xs) (h' : w.ownsRow base e' size' v' n' xs') (hne : e ≠ e') : v.ownBlock = none ∨ v.ownBlock ≠ v'.ownBlock := by
  rcases h.2 with ⟨rfl, _⟩ | ⟨g, cap, cur, rfl, _, hh, _⟩
  · exact .inl rfl
  · right
    intro he
    rcases h'.2 with ⟨rfl, _⟩ | ⟨g', cap', cur', rfl, _, hh', _⟩
    · simp [Value.ownBlock] at he
    · obtain rfl : g = g' := by simpa [Value.ownBlock] using he
      rw [hh] at hh'
      injection hh' with hh'
      injection hh' with _ ht
      exact hne ht
/-- three slices of the call's own: faults, right ones, whole ones -/
structure HSt (w : World) (base : Nat) (vf vr vw : Value) (F : List Flt) (R W : List (Int × Bytes)) : Prop where
  f : w.ownsRow base 130 2 vf F.length (F.flatMap fcells)
  r : w.ownsRow base 85 4 vr R.length (R.flatMap ecells)
  o : w.ownsRow base 85 4 vw W.length (W.flatMap ecells)
  ne : ∀ b, vr.ownBlock = some b → vw.ownBlock ≠ some b
section
variable {w w' : World} {base : Nat} {vf vr vw vf' : Value} {F : List Flt} {R W : List (Int × Bytes)}
theorem HSt.below (h : HSt w base vf vr vw F R W) (hb : Below w.heap.size w w') : HSt w' base vf vr vw F R W := ⟨own_below h.f hb, own_below h.r hb, own_below h.o hb, h.ne⟩
theorem HSt.addF (h : HSt w base vf vr vw F R W) {x : Flt} (hg : w.grownBy w' vf.ownBlock) (h' : w'.ownsRow base 130 2 vf' (F.length + 1) (F.flatMap fcells ++ fcells x)) : HSt w' base vf' vr vw (F ++ [x]) R W :=
  ⟨by simpa using h', h.r.kept hg (own_apart h.r h.f (by decide)), h.o.kept hg (own_apart h.o h.f (by decide)), h.ne⟩
theorem HSt.addR (h : HSt w base vf vr vw F R W) {x : Int × Bytes} {g cap n : Nat} (hg : w.grownBy w' vr.ownBlock) (hn : n = R.length + 1) (h' : w'.ownsRow base 85 4 (.slice (some ⟨g, 0, none⟩) n cap) n (R.flatMap ecells ++ ecells x)) (hat : vr.ownBlock = some g ∨ w.heap.size ≤ g) :
    HSt w' base vf (.slice (some ⟨g, 0, none⟩) n cap) vw F (R ++ [x]) W := by
  subst hn
  refine ⟨h.f.kept hg (own_apart h.f h.r (by decide)), by simpa using h', h.o.kept hg ?_, fun b hb hw => ?_⟩
  · cases hv : vw.ownBlock with
    | none => exact .inl rfl
    | some b => exact .inr fun e => h.ne b e.symm hv
  · obtain rfl : g = b := by simpa [Value.ownBlock] using hb
    rcases hat with ha | ha
    · exact h.ne g ha hw
    · have := (h.o.lt _ hw).2; omega
theorem HSt.addW (h : HSt w base vf vr vw F R W) {x : Int × Bytes} {g cap n : Nat} (hg : w.grownBy w' vw.ownBlock) (hn : n = W.length + 1) (h' : w'.ownsRow base 85 4 (.slice (some ⟨g, 0, none⟩) n cap) n (W.flatMap ecells ++ ecells x)) (hat : vw.ownBlock = some g ∨ w.heap.size ≤ g) :
    HSt w' base vf vr (.slice (some ⟨g, 0, none⟩) n cap) F R (W ++ [x]) := by
  subst hn
  refine ⟨h.f.kept hg (own_apart h.f h.o (by decide)), h.r.kept hg ?_, by simpa using h', fun b hb hw => ?_⟩
  · cases hv : vr.ownBlock with
    | none => exact .inl rfl
    | some b => exact .inr fun e => h.ne b hv e.symm
  · obtain rfl : g = b := by simpa [Value.ownBlock] using hw
    rcases hat with ha | ha
    · exact h.ne g hb ha
    · have := (h.r.lt _ hb).2; omega
end
theorem fault_info : (Tryz.prog.info? 130).map (fun i => (i.zero, i.size, i.bytes)) = some (some (.agg #[.int .i64 0, .int .i64 0]), 2, 16) := by kernel_rfl
theorem entry_info : (Tryz.prog.info? 85).map (fun i => (i.zero, i.size, i.bytes)) = some (some (.agg #[.int .i64 0, .int .i64 0, .int .i64 0, .int .i64 0]), 4, 32) := by kernel_rfl
theorem rAt_le (r : Bytes) : rAt r ≤ 65535 := by
  have h := ofB_lt ((r.drop 1).take 2)
  have h2 : 2 ^ (8 * ((r.drop 1).take 2).length) ≤ 2 ^ 16 := Nat.pow_le_pow_right (by omega) (by simp; omega)
  unfold rAt; omega
theorem rLen_le (r : Bytes) : rLen r ≤ 65535 := by
  have h := ofB_lt ((r.drop 3).take 2)
  have h2 : 2 ^ (8 * ((r.drop 3).take 2).length) ≤ 2 ^ 16 := Nat.pow_le_pow_right (by omega) (by simp; omega)
  unfold rLen; omega
theorem overE_eq (r s : Bytes) : overB (rAt r) (rLen r) (rAt s) (rLen s) = overE r s := by
  unfold overB overE
  congr 1 <;> (rw [decide_eq_decide]; omega)
/-- the closure of handles -/
theorem over1_any (r : Bytes) (Bx : Nat) (x : Int × Bytes) (W : World) (h1 : W.cell? ⟨Bx, 1, none⟩ = some (.int .i64 (rAt r))) (h2 : W.cell? ⟨Bx, 2, none⟩ = some (.int .i64 (rLen r))) :
    Calls Tryz.prog 173 #[entR x.1 x.2, .pointer (some ⟨Bx, 0, none⟩)] W fun e w' => e = .returned (.bool (overE r x.2)) ∧ Below W.heap.size W w' := by
  have hlt := block_lt_of_cell h1
  have hW : Below W.heap.size W (W.alloc (.cells #[.int .i64 x.1, .int .i64 (rAt x.2), .int .i64 (rLen x.2), .int .i64 (rTag x.2)] 85)) := (Below.refl _ _).alloc (Nat.le_refl _) _
  have b1 := rAt_le r
  have b2 := rLen_le r
  have b3 := rAt_le x.2
  have b4 := rLen_le x.2
  have HO := Hidden.mk (overE_eq r x.2)
  obtain ⟨xh, xr⟩ := x
  unfold entR
  dsimp only at *
  generalize rAt xr = c1 at *
  generalize rLen xr = c2 at *
  generalize rTag xr = c3 at *
  generalize rAt r = d1 at *
  generalize rLen r = d2 at *
  go_enter Tryz.func173, Tryz.ntmps173
  go_wp2_with fail
  refine (over_any d1 d2 c1 c2 _ (by omega) (by omega) (by omega) (by omega) (by omega) (by omega) (by omega) (by omega)).mono ?_
  rintro e w' ⟨rfl, hb⟩
  have hB := hW.trans (hb.mono hW.size)
  rw [HO.out]
  go_wp2_with fail
  go_ret
  exact ⟨rfl, hB⟩
end Go.Proofs.YtijcclpnkfmpnaaGreat
/- The contract of check.handles: the walk. -/
namespace Go.Proofs.YtijcclpnkfmpnaaGreat
open Go.RowKit

set_option maxRecDepth 100000 in
set_option maxHeartbeats 1000000 in
theorem handles_ok (A : Option Addr) (n c : Nat) (l : Bytes) (w : World) (hn : l.length = n) (hr : rightB n = true) (hnc : n ≤ c) (hrd : Rd w A l) :
    Calls Tryz.prog 144 #[.slice A n c] w fun e w' => ∃ vf vr vw, e = .returned (.tuple #[vf, vr]) ∧ HSt w' w.heap.size vf vr vw (faultsH n (rawE l) 40) (rightL n (rawE l) 40) (wholeL n (rawE l) 40) ∧ Below w.heap.size w w' := by
  have hnb := rightB_true.1 hr
  obtain ⟨i1, hi1, hy0, hy1, hy2⟩ := info_parts fault_info
  obtain ⟨i2, hi2, hx0, hx1, hx2⟩ := info_parts entry_info
  have HGET : Hidden (∀ k : Nat, k < 40 → ∀ W, Below w.heap.size w W → Calls Tryz.prog 42 #[.slice A n c, .int .i64 ((k : Int) + 1)] W fun e w' => (hasE (rawE l k) = true → e = .returned (.tuple #[entR ((k : Int) + 1) (rawE l k), .nilIface])) ∧ (hasE (rawE l k) = false → e = .returned (.tuple #[entV 0 0 0 0, .iface 76 (.int .i64 5)])) ∧ Below W.heap.size W w') :=
    ⟨fun k hk W hW => iget_ok A n c l k W hn hr hnc (hrd.below hW) hk⟩
  have HRAW : Hidden (∀ k : Nat, k < 40 → ∀ W, Below w.heap.size w W → Rd W (A.map (·.add (5 * k))) (rawE l k)) := ⟨fun k hk W hW => rawE_rd (hrd.below hW) k hk (by omega)⟩
  have HLEN : Hidden (∀ k : Nat, k < 40 → (rawE l k).length = 5) := ⟨fun k hk => rawE_len l k hk (by omega)⟩
  generalize rawE l = R at *
  clear hr hrd hn
  go_enter Tryz.func144, Tryz.ntmps144
  go_wp2_with fail
  go_loopw [2, 3, 4, 5] (fun vf vr vw h wr => ∃ k : Nat, k ≤ 40 ∧ h = .int .i64 ((k : Int) + 1) ∧ Below w.heap.size w wr ∧ HSt wr w.heap.size vf vr vw (faultsH n R k) (rightL n R k) (wholeL n R k)) (fun _ _ _ h _ => 41 - (intOf h).toNat)
  case atStart => exact ⟨0, by omega, rfl, Below.refl _ _, World.ownsRow_nil _ _ _ _, World.ownsRow_nil _ _ _ _, World.ownsRow_nil _ _ _ _, fun b hb => by cases hb⟩
  case round =>
    obtain ⟨k, hk, rfl, hbel, hst⟩ := hrel
    by_cases hlt : k < 40
    · have k0 : ((k : Int) + 1) ≤ 40 := by omega
      have s1 : IntKind.i64.wrap ((k : Int) + 1 + 1) = (k : Int) + 1 + 1 := IntWalk.i64_in _ (by omega)
      have hlF := faultsH_len n R k
      have hlR : (rightL n R k).length ≤ k := entsL_len _ R k
      have hlW : (wholeL n R k).length ≤ k := entsL_len _ R k
      have hget := HGET.out k hlt wr hbel
      have HG := Hidden.mk hget
      clear hget
      have HSF := Hidden.mk (faultsH_succ n R k)
      have HSR : Hidden (rightL n R (k + 1) = rightL n R k ++ if (kindH n R k == 6) = true then [(((k : Int) + 1), R k)] else []) := ⟨entsL_succ _ R k⟩
      have HSW : Hidden (wholeL n R (k + 1) = wholeL n R k ++ if wholeE n (R k) = true then [(((k : Int) + 1), R k)] else []) := ⟨entsL_succ _ R k⟩
      cases hE : hasE (R k) with
      | false =>
        have hW0 : wholeE n (R k) = false := by simp [wholeE, hE]
        have hKK : kindH n R k = if zeroE (R k) = true then 0 else 3 := by unfold kindH; rw [hE]; simp
        have HKK := Hidden.mk hKK
        have HW0 := Hidden.mk hW0
        have HEE := Hidden.mk hE
        clear hW0 hKK hE
        go_wp2_with fail
        refine HG.out.mono ?_
        rintro e w1 ⟨_, he, hb1⟩
        have he := he HEE.out
        subst he
        have hB1 := hbel.trans (hb1.mono hbel.size)
        have hst1 := hst.below hb1
        have hB2 : Below w.heap.size w (w1.alloc (.cells #[.int .i64 0, .int .i64 0, .int .i64 0, .int .i64 0] 85)) := hB1.alloc hB1.size _
        have hst2 := hst1.below ((Below.refl _ _).alloc (Nat.le_refl _) (.cells #[.int .i64 0, .int .i64 0, .int .i64 0, .int .i64 0] 85))
        clear hst hst1 hB1 hb1 hbel
        go_wp2_with fail
        generalize w1.alloc (.cells #[.int .i64 0, .int .i64 0, .int .i64 0, .int .i64 0] 85) = w2 at *
        refine (raw_any A n c ((k : Int) + 1) _ (by omega) (by omega) (by omega) hnc).mono ?_
        rintro e w3 ⟨rfl, rfl⟩
        rw [entO_k]
        go_wp2_with fail
        refine (izero_any _ 5 _ (R k) _ (HLEN.out k hlt) (by simp [maxLen]) (HRAW.out k hlt w2 hB2)).mono ?_
        rintro e w3 ⟨rfl, rfl⟩
        cases hz : zeroE (R k) with
        | true =>
          have e1 : faultsH n R (k + 1) = faultsH n R k := by rw [HSF.out, HKK.out, hz]; simp [fltOf]
          have e2 : rightL n R (k + 1) = rightL n R k := by rw [HSR.out, HKK.out, hz]; simp
          have e3 : wholeL n R (k + 1) = wholeL n R k := by rw [HSW.out, HW0.out]; simp
          have hst3 : HSt w2 w.heap.size u2 u3 u4 (faultsH n R (k + 1)) (rightL n R (k + 1)) (wholeL n R (k + 1)) := by rw [e1, e2, e3]; exact hst2
          have HST := Hidden.mk hst3
          clear e1 e2 e3 hst3 hst2 hz
          go_wp2_with fail
          go_roundw
          case rel => exact ⟨k + 1, by omega, by go_num, hB2, HST.out⟩
          case measure => simp [intOf]; omega
        | false =>
          have e1 : faultsH n R (k + 1) = faultsH n R k ++ [⟨3, k + 1⟩] := by rw [HSF.out, HKK.out, hz]; simp [fltOf]
          have e2 : rightL n R (k + 1) = rightL n R k := by rw [HSR.out, HKK.out, hz]; simp
          have e3 : wholeL n R (k + 1) = wholeL n R k := by rw [HSW.out, HW0.out]; simp
          have HE1 := Hidden.mk e1
          have HE2 := Hidden.mk e2
          have HE3 := Hidden.mk e3
          clear e1 e2 e3 hz
          go_wp2_with (at_builtin; refine wpList_append_lies _ rfl (.tmp 30) (.tmp 33) _ rfl w.heap.size 130 i1 _ 2 16 Tryz.underlying127 hi1 hy0 hy1 hy2 rfl (by decide) u2 (faultsH n R k).length ((faultsH n R k).flatMap fcells) rfl (own_below hst2.f ((Below.refl _ _).alloc (Nat.le_refl _) _)) ⟨w2.heap.size, 0, none⟩ 1 1 [.int .i64 3, .int .i64 ((k : Int) + 1)] rfl rfl (World.news_of_block (cs := #[.int .i64 3, .int .i64 ((k : Int) + 1)]) (t := 130) (fr := (0, 0)) (heap_alloc_new w2 _)) (by simp [Value.oneCell']) (by omega) (by simp only [maxLen]; omega) (by omega) (by have := hB2.size; simp; omega) (w2.heap.size + 1) (by simp) ?_; intro gf capf w7 hown7 hg7 hat7 hlt7)
          have hgF := grown_trans' ((Below.refl _ _).alloc (Nat.le_refl _) _) hg7
          have hst7 := hst2.addF (x := ⟨3, k + 1⟩) hgF hown7
          have hB7 : Below w.heap.size w w7 := hB2.grown hgF hB2.size (fun q hq => (hst2.f.lt q hq).1)
          clear hown7 hg7 hat7 hlt7 hgF hst2 hB2
          go_roundw
          case rel => exact ⟨k + 1, by omega, by go_num, hB7, by rw [HE1.out, HE2.out, HE3.out]; exact hst7⟩
          case measure => simp [intOf]; omega
      | true =>
        have HKK : Hidden (kindH n R k = if strayE n (R k) = true then 1 else if (wholeL n R k).any (fun x => overE (R k) x.2) = true then 2 else 6) := ⟨by rw [wholeL_any]; unfold kindH; rw [hE]; simp⟩
        have HWW : Hidden (wholeE n (R k) = !strayE n (R k)) := ⟨by unfold wholeE; rw [hE]; simp⟩
        have HEE := Hidden.mk hE
        have HSTR : Hidden ((!(tagB (rTag (R k)) && lenB (rLen (R k)) && withinB n (rAt (R k)) (rLen (R k)))) = strayE n (R k)) := ⟨rfl⟩
        have HENT : Hidden (∀ h, entR h (R k) = entV h (rAt (R k)) (rLen (R k)) (rTag (R k))) := ⟨fun _ => rfl⟩
        have b1 := rAt_le (R k)
        have b2 := rLen_le (R k)
        have HCELL : Hidden (ecells (((k : Int) + 1), R k) = [.int .i64 ((k : Int) + 1), .int .i64 (rAt (R k)), .int .i64 (rLen (R k)), .int .i64 (rTag (R k))]) := ⟨rfl⟩
        have HOV : Hidden (∀ (Bx : Nat) (x : Int × Bytes) (W : World), W.cell? ⟨Bx, 1, none⟩ = some (.int .i64 (rAt (R k))) → W.cell? ⟨Bx, 2, none⟩ = some (.int .i64 (rLen (R k))) → Calls Tryz.prog 173 #[entR x.1 x.2, .pointer (some ⟨Bx, 0, none⟩)] W fun e w' => e = .returned (.bool (overE (R k) x.2)) ∧ Below W.heap.size W w') := ⟨fun (Bx : Nat) (x : Int × Bytes) (W : World) h1 h2 => over1_any (R k) Bx x W h1 h2⟩
        clear hE
        go_wp2_with fail
        refine HG.out.mono ?_
        rintro e w1 ⟨he, _, hb1⟩
        have he := he HEE.out
        rw [HENT.out] at he
        subst he
        generalize rAt (R k) = a1 at *
        generalize rLen (R k) = a2 at *
        generalize rTag (R k) = a3 at *
        have hB1 := hbel.trans (hb1.mono hbel.size)
        have hst1 := hst.below hb1
        have nf : ∀ q, u2.ownBlock = some q → q < w1.heap.size := fun q hq => Nat.lt_of_lt_of_le (hst.f.lt q hq).2 hb1.size
        have nr : ∀ q, u3.ownBlock = some q → q < w1.heap.size := fun q hq => Nat.lt_of_lt_of_le (hst.r.lt q hq).2 hb1.size
        have NF := Hidden.mk nf
        have NR := Hidden.mk nr
        have hal : Below w1.heap.size w1 (w1.alloc (.cells #[.int .i64 ((k : Int) + 1), .int .i64 a1, .int .i64 a2, .int .i64 a3] 85)) := (Below.refl _ _).alloc (Nat.le_refl _) _
        have hB2 : Below w.heap.size w (w1.alloc (.cells #[.int .i64 ((k : Int) + 1), .int .i64 a1, .int .i64 a2, .int .i64 a3] 85)) := hB1.alloc hB1.size _
        have hst2 := hst1.below hal
        have hbx : (w1.alloc (.cells #[.int .i64 ((k : Int) + 1), .int .i64 a1, .int .i64 a2, .int .i64 a3] 85)).heap[w1.heap.size]? = some (.cells #[.int .i64 ((k : Int) + 1), .int .i64 a1, .int .i64 a2, .int .i64 a3] 85 (0, 0)) := heap_alloc_new w1 _
        clear hst hst1 hB1 hb1 hbel hal nf nr
        go_wp2_with fail
        generalize w1.alloc (.cells #[.int .i64 ((k : Int) + 1), .int .i64 a1, .int .i64 a2, .int .i64 a3] 85) = w2 at *
        generalize w1.heap.size = Bx at *
        refine (stray_any A n c ((k : Int) + 1) a1 a2 a3 _ (by omega) (by omega) (by omega) (by omega)).mono ?_
        rintro e w3 ⟨rfl, hb3⟩
        rw [HSTR.out]
        have hB3 := hB2.trans (hb3.mono hB2.size)
        have hst3 := hst2.below hb3
        have hltx : Bx < w2.heap.size := (Array.getElem?_eq_some_iff.1 hbx).1
        have hbx3 := (hb3.block Bx hltx).trans hbx
        have hltx3 : Bx < w3.heap.size := (Array.getElem?_eq_some_iff.1 hbx3).1
        clear hB2 hst2 hb3 hbx hltx
        cases hs : strayE n (R k) with
        | true =>
          have HE1 : Hidden (faultsH n R (k + 1) = faultsH n R k ++ [⟨1, k + 1⟩]) := ⟨by rw [HSF.out, HKK.out, hs]; simp [fltOf]⟩
          have HE2 : Hidden (rightL n R (k + 1) = rightL n R k) := ⟨by rw [HSR.out, HKK.out, hs]; simp⟩
          have HE3 : Hidden (wholeL n R (k + 1) = wholeL n R k) := ⟨by rw [HSW.out, HWW.out, hs]; simp⟩
          clear hs
          go_wp2_with (at_builtin; refine wpList_append_lies _ rfl (.tmp 39) (.tmp 42) _ rfl w.heap.size 130 i1 _ 2 16 Tryz.underlying127 hi1 hy0 hy1 hy2 rfl (by decide) u2 (faultsH n R k).length ((faultsH n R k).flatMap fcells) rfl (own_below hst3.f ((Below.refl _ _).alloc (Nat.le_refl _) _)) ⟨w3.heap.size, 0, none⟩ 1 1 [.int .i64 1, .int .i64 ((k : Int) + 1)] rfl rfl (World.news_of_block (cs := #[.int .i64 1, .int .i64 ((k : Int) + 1)]) (t := 130) (fr := (0, 0)) (heap_alloc_new w3 _)) (by simp [Value.oneCell']) (by omega) (by simp only [maxLen]; omega) (by omega) (by have := hB3.size; simp; omega) (w3.heap.size + 1) (by simp) ?_; intro gf capf w7 hown7 hg7 hat7 hlt7)
          have hgF := grown_trans' ((Below.refl _ _).alloc (Nat.le_refl _) _) hg7
          have hst7 := hst3.addF (x := ⟨1, k + 1⟩) hgF hown7
          have hB7 : Below w.heap.size w w7 := hB3.grown hgF hB3.size (fun q hq => (hst3.f.lt q hq).1)
          clear hown7 hg7 hat7 hlt7 hgF hst3 hB3
          go_roundw
          case rel => exact ⟨k + 1, by omega, by go_num, hB7, by rw [HE1.out, HE2.out, HE3.out]; exact hst7⟩
          case measure => simp [intOf]; omega
        | false =>
          obtain ⟨A4, c4, hv4, hc4, hrd4⟩ := own_rdEs hst3.o
          subst hv4
          have hcf := cfe_over (fun x => overE (R k) x.2) A4 (wholeL n R k).length c4 (wholeL n R k) (.pointer (some ⟨Bx, 0, none⟩)) w3 rfl (by omega) hrd4 (fun x _ W hW => HOV.out Bx x W (by have := (hW.block Bx hltx3).trans hbx3; simp [World.cell?, this]) (by have := (hW.block Bx hltx3).trans hbx3; simp [World.cell?, this]))
          have HCF := Hidden.mk hcf
          clear hcf
          go_wp2_with fail
          refine HCF.out.mono ?_
          rintro e w4 ⟨rfl, hb4⟩
          have hB4 := hB3.trans (hb4.mono hB3.size)
          have hst4 := hst3.below hb4
          have hbx4 := (hb4.block Bx hltx3).trans hbx3
          have hltx4 : Bx < w4.heap.size := (Array.getElem?_eq_some_iff.1 hbx4).1
          have hrdc4 : ∀ W : World, W.heap[Bx]? = some (.cells #[.int .i64 ((k : Int) + 1), .int .i64 a1, .int .i64 a2, .int .i64 a3] 85 (0, 0)) → W.cell? ⟨Bx, 0, none⟩ = some (.int .i64 ((k : Int) + 1)) ∧ W.cell? ⟨Bx, 1, none⟩ = some (.int .i64 a1) ∧ W.cell? ⟨Bx, 2, none⟩ = some (.int .i64 a2) ∧ W.cell? ⟨Bx, 3, none⟩ = some (.int .i64 a3) := fun W h => by simp [World.cell?, h]
          have HRD := Hidden.mk hrdc4
          obtain ⟨y0, y1, y2, y3⟩ := hrdc4 w4 hbx4
          clear hB3 hst3 hb4 hbx3 hltx3 hrd4 hrdc4
          have HE3 : Hidden (wholeL n R (k + 1) = wholeL n R k ++ [(((k : Int) + 1), R k)]) := ⟨by rw [HSW.out, HWW.out, hs]; simp⟩
          cases hany : (wholeL n R k).any (fun x => overE (R k) x.2) with
          | true =>
            have HE1 : Hidden (faultsH n R (k + 1) = faultsH n R k ++ [⟨2, k + 1⟩]) := ⟨by rw [HSF.out, HKK.out, hs, hany]; simp [fltOf]⟩
            have HE2 : Hidden (rightL n R (k + 1) = rightL n R k) := ⟨by rw [HSR.out, HKK.out, hs, hany]; simp⟩
            clear hs hany
            go_wp2_with (first | (at_builtin; refine wpList_append_lies _ rfl (.tmp 48) (.tmp 51) _ rfl w.heap.size 130 i1 _ 2 16 Tryz.underlying127 hi1 hy0 hy1 hy2 rfl (by decide) u2 (faultsH n R k).length ((faultsH n R k).flatMap fcells) rfl (own_below hst4.f ((Below.refl _ _).alloc (Nat.le_refl _) _)) ⟨w4.heap.size, 0, none⟩ 1 1 [.int .i64 2, .int .i64 ((k : Int) + 1)] rfl rfl (World.news_of_block (cs := #[.int .i64 2, .int .i64 ((k : Int) + 1)]) (t := 130) (fr := (0, 0)) (heap_alloc_new w4 _)) (by simp [Value.oneCell']) (by omega) (by simp only [maxLen]; omega) (by omega) (by have := hB4.size; simp; omega) (w4.heap.size + 1) (by simp) ?_; intro gf capf w7 hown7 hg7 hat7 hlt7; have hgF := grown_trans' ((Below.refl _ _).alloc (Nat.le_refl _) _) hg7; have hst7 := hst4.addF (x := ⟨2, k + 1⟩) hgF hown7; have hB7 : Below w.heap.size w w7 := hB4.grown hgF hB4.size (fun q hq => (hst4.f.lt q hq).1); obtain ⟨z0, z1, z2, z3⟩ := HRD.out w7 ((hgF.block Bx hltx4 (fun e => Nat.lt_irrefl _ (NF.out Bx e.symm))).trans hbx4)) | (at_builtin; refine wpList_append_lies _ rfl (.tmp 53) (.tmp 55) _ rfl w.heap.size 85 i2 _ 4 32 Tryz.underlying136 hi2 hx0 hx1 hx2 rfl (by decide) (.slice A4 (wholeL n R k).length c4) (wholeL n R k).length ((wholeL n R k).flatMap ecells) rfl (own_below hst7.o ((Below.refl _ _).alloc (Nat.le_refl _) _)) ⟨w7.heap.size, 0, none⟩ 1 1 [.int .i64 ((k : Int) + 1), .int .i64 a1, .int .i64 a2, .int .i64 a3] rfl rfl (World.news_of_block (cs := #[.int .i64 ((k : Int) + 1), .int .i64 a1, .int .i64 a2, .int .i64 a3]) (t := 85) (fr := (0, 0)) (heap_alloc_new w7 _)) (by simp [Value.oneCell']) (by omega) (by simp only [maxLen]; omega) (by omega) (by have := hB7.size; simp; omega) (w7.heap.size + 1) (by simp) ?_; intro g8 cap8 w8 hown8 hg8 hat8 hlt8))
            have hgW := grown_trans' ((Below.refl _ _).alloc (Nat.le_refl _) _) hg8
            have hst8 := hst7.addW (x := (((k : Int) + 1), R k)) hgW rfl (by rw [HCELL.out]; exact hown8) (by rcases hat8 with h | h; exact .inl h; exact .inr (by omega))
            have hB8 : Below w.heap.size w w8 := hB7.grown hgW hB7.size (fun q hq => (hst7.o.lt q hq).1)
            go_roundw
            case rel => exact ⟨k + 1, by omega, by go_num, hB8, by rw [HE1.out, HE2.out, HE3.out]; exact hst8⟩
            case measure => simp [intOf]; omega
          | false =>
            have HE1 : Hidden (faultsH n R (k + 1) = faultsH n R k) := ⟨by rw [HSF.out, HKK.out, hs, hany]; simp [fltOf]⟩
            have HE2 : Hidden (rightL n R (k + 1) = rightL n R k ++ [(((k : Int) + 1), R k)]) := ⟨by rw [HSR.out, HKK.out, hs, hany]; simp⟩
            clear hs hany
            go_wp2_with (first | (at_builtin; refine wpList_append_lies _ rfl (.tmp 18) (.tmp 20) _ rfl w.heap.size 85 i2 _ 4 32 Tryz.underlying136 hi2 hx0 hx1 hx2 rfl (by decide) u3 (rightL n R k).length ((rightL n R k).flatMap ecells) rfl (own_below hst4.r ((Below.refl _ _).alloc (Nat.le_refl _) _)) ⟨w4.heap.size, 0, none⟩ 1 1 [.int .i64 ((k : Int) + 1), .int .i64 a1, .int .i64 a2, .int .i64 a3] rfl rfl (World.news_of_block (cs := #[.int .i64 ((k : Int) + 1), .int .i64 a1, .int .i64 a2, .int .i64 a3]) (t := 85) (fr := (0, 0)) (heap_alloc_new w4 _)) (by simp [Value.oneCell']) (by omega) (by simp only [maxLen]; omega) (by omega) (by have := hB4.size; simp; omega) (w4.heap.size + 1) (by simp) ?_; intro g6 cap6 w6 hown6 hg6 hat6 hlt6; have hgR := grown_trans' ((Below.refl _ _).alloc (Nat.le_refl _) _) hg6; have hst6 := hst4.addR (x := (((k : Int) + 1), R k)) hgR rfl (by rw [HCELL.out]; exact hown6) (by rcases hat6 with h | h; exact .inl h; exact .inr (by omega)); have hB6 : Below w.heap.size w w6 := hB4.grown hgR hB4.size (fun q hq => (hst4.r.lt q hq).1); obtain ⟨z0, z1, z2, z3⟩ := HRD.out w6 ((hgR.block Bx hltx4 (fun e => Nat.lt_irrefl _ (NR.out Bx e.symm))).trans hbx4)) | (at_builtin; refine wpList_append_lies _ rfl (.tmp 53) (.tmp 55) _ rfl w.heap.size 85 i2 _ 4 32 Tryz.underlying136 hi2 hx0 hx1 hx2 rfl (by decide) (.slice A4 (wholeL n R k).length c4) (wholeL n R k).length ((wholeL n R k).flatMap ecells) rfl (own_below hst6.o ((Below.refl _ _).alloc (Nat.le_refl _) _)) ⟨w6.heap.size, 0, none⟩ 1 1 [.int .i64 ((k : Int) + 1), .int .i64 a1, .int .i64 a2, .int .i64 a3] rfl rfl (World.news_of_block (cs := #[.int .i64 ((k : Int) + 1), .int .i64 a1, .int .i64 a2, .int .i64 a3]) (t := 85) (fr := (0, 0)) (heap_alloc_new w6 _)) (by simp [Value.oneCell']) (by omega) (by simp only [maxLen]; omega) (by omega) (by have := hB6.size; simp; omega) (w6.heap.size + 1) (by simp) ?_; intro g8 cap8 w8 hown8 hg8 hat8 hlt8))
            have hgW := grown_trans' ((Below.refl _ _).alloc (Nat.le_refl _) _) hg8
            have hst8 := hst6.addW (x := (((k : Int) + 1), R k)) hgW rfl (by rw [HCELL.out]; exact hown8) (by rcases hat8 with h | h; exact .inl h; exact .inr (by omega))
            have hB8 : Below w.heap.size w w8 := hB6.grown hgW hB6.size (fun q hq => (hst6.o.lt q hq).1)
            go_roundw
            case rel => exact ⟨k + 1, by omega, by go_num, hB8, by rw [HE1.out, HE2.out, HE3.out]; exact hst8⟩
            case measure => simp [intOf]; omega
    · obtain rfl : k = 40 := by omega
      go_wp2_with fail
      go_ret2
      exact ⟨u2, u3, u4, rfl, hst, hbel⟩
end Go.Proofs.YtijcclpnkfmpnaaGreat
