/- The contract of num.Set: it writes the bytes of a number into a block. -/
import Derived.Test.YtibogmoemohngaaNum1
import Derived.Laws.CopyOwn
namespace Go.Proofs.Ytibogmoemohngaa
open Go.RowKit

/-- a row in which other values stand from i on -/
def setB (cur : Array Value) (i : Nat) (l : List Value) : Array Value := (splice cur.toList i l).toArray
theorem setB_size (cur : Array Value) (i : Nat) (l : List Value) (h : i + l.length ≤ cur.size) : (setB cur i l).size = cur.size := by
  simp only [setB, List.size_toArray]; rw [length_splice _ _ _ (by simpa using h)]; simp
theorem setB_nil (cur : Array Value) (i : Nat) : setB cur i [] = cur := by simp [setB, splice]
theorem setB_snoc (cur : Array Value) (i : Nat) (l : List Value) (v : Value) (h : i + l.length < cur.size) :
    (setB cur i l).setIfInBounds (i + l.length) v = setB cur i (l ++ [v]) := by
  apply Array.ext'
  obtain ⟨cur⟩ := cur
  simp only [List.size_toArray] at h
  simp only [setB, splice, List.setIfInBounds_toArray]
  rw [List.set_append_right _ _ (by simp; omega)]
  have h1 : i + l.length - (cur.take i).length = l.length := by simp; omega
  rw [h1, List.set_append_right _ _ (by omega), Nat.sub_self]
  rw [List.drop_eq_getElem_cons h]
  simp [List.append_assoc, Nat.add_assoc]
theorem setB_at (cur : Array Value) (i : Nat) (l : List Value) (j : Nat) (h : i + l.length ≤ cur.size) :
    (setB cur i l)[j]? = if i ≤ j ∧ j < i + l.length then l[j - i]? else cur[j]? := by
  obtain ⟨cur⟩ := cur
  simp only [List.size_toArray] at h
  simp only [setB, splice, List.getElem?_toArray]
  have hl : (cur.take i).length = i := by simp; omega
  by_cases h1 : j < i
  · rw [if_neg (by omega), List.getElem?_append_left (by omega), List.getElem?_take, if_pos h1]
  · rw [List.getElem?_append_right (by omega), hl]
    by_cases h2 : j < i + l.length
    · rw [if_pos (by omega), List.getElem?_append_left (by omega)]
    · rw [if_neg (by omega), List.getElem?_append_right (by omega), List.getElem?_drop]
      congr 1; omega

/-- block g is a row of bytes of which the first are l; cap: how many cells; e: the type byte -/
def Row (w : World) (e g cap : Nat) (l : Bytes) : Prop :=
  ∃ cur, w.heap[g]? = some (.cells cur e (0, 0)) ∧ l.length ≤ cap ∧ cap ≤ maxLen ∧ cur.size = cap ∧ cur.toList.take l.length = l.map bv
section
variable {w w' : World} {e g cap : Nat} {l : Bytes}
theorem Row.own (h : Row w e g cap l) {base : Nat} (hb : base ≤ g) : Own w base e (.slice (some ⟨g, 0, none⟩) l.length cap) l := by
  obtain ⟨cur, hg, h1, h2, h3, h4⟩ := h
  exact ⟨by simp, .inr ⟨g, cap, cur, rfl, hb, hg, h1, h2, by omega, by simpa using h4⟩⟩
theorem Row.of_own {base : Nat} {v : Value} (h : Own w base e v l) (hn : v ≠ .slice none 0 0) : ∃ g cap, v = .slice (some ⟨g, 0, none⟩) l.length cap ∧ base ≤ g ∧ Row w e g cap l := by
  rcases h.2 with ⟨rfl, _⟩ | ⟨g, cap, cur, rfl, hb, hg, h1, h2, h3, h4⟩
  · exact absurd rfl hn
  · exact ⟨g, cap, rfl, hb, cur, hg, h1, h2, by omega, by simpa using h4⟩
theorem Row.cell (h : Row w e g cap l) (j : Nat) (hj : j < l.length) : w.cell? ⟨g, j, none⟩ = some (bv l[j]) := by
  obtain ⟨cur, hg, h1, h2, h3, h4⟩ := h
  rw [cell_of_row w g j cur e (0, 0) hg]
  have h5 : (l.map bv)[j]? = some (bv l[j]) := by simp [hj]
  rw [← h4, List.getElem?_take, if_pos (by omega)] at h5
  simpa using h5
theorem Row.rd (h : Row w e g cap l) : Rd w (some ⟨g, 0, none⟩) l := fun j hj => ⟨g, 0, rfl, by rw [Nat.zero_add]; exact h.cell j hj⟩
theorem Row.below {B : Nat} (h : Row w e g cap l) (hb : Below B w w') (hg : g < B) : Row w' e g cap l := by
  obtain ⟨cur, h0, h1⟩ := h
  exact ⟨cur, (hb.block g hg).trans h0, h1⟩
theorem Row.lt (h : Row w e g cap l) : g < w.heap.size := by
  obtain ⟨cur, h0, _⟩ := h
  exact (Array.getElem?_eq_some_iff.1 h0).1
theorem Row.le (h : Row w e g cap l) : l.length ≤ cap ∧ cap ≤ maxLen := by
  obtain ⟨cur, _, h1, h2, _⟩ := h
  exact ⟨h1, h2⟩
theorem splice_len (l bs : Bytes) (i : Nat) (h : i + bs.length ≤ l.length) : (splice l i bs).length = l.length := length_splice l i bs h
theorem Row.set_ (h : Row w e g cap l) (i : Nat) (bs : Bytes) (hi : i + bs.length ≤ l.length) (cur : Array Value) (hc : w.heap[g]? = some (.cells cur e (0, 0))) :
    Row (w.setRow g (setB cur i (bs.map bv))) e g cap (splice l i bs) := by
  obtain ⟨cur', hg, h1, h2, h3, h4⟩ := h
  rw [hc] at hg
  injection hg with hg
  injection hg with hg
  subst hg
  refine ⟨_, setRow_heap w g cur _ e _ hc, by rw [splice_len _ _ _ hi]; exact h1, h2, by rw [setB_size _ _ _ (by simp; omega)]; exact h3, ?_⟩
  have hlen := splice_len l bs i hi
  apply List.ext_getElem?
  intro j
  rw [hlen, List.getElem?_take]
  by_cases hj : j < l.length
  · rw [if_pos hj]
    have h5 : cur[j]? = (l.map bv)[j]? := by rw [← h4, List.getElem?_take, if_pos hj]; simp
    have h6 : (setB cur i (bs.map bv)).toList[j]? = (setB cur i (bs.map bv))[j]? := by simp
    rw [h6, setB_at _ _ _ _ (by simp; omega), h5]
    simp only [splice, List.length_map]
    have hl : (l.take i).length = i := by simp; omega
    rw [List.getElem?_map, List.getElem?_map, List.getElem?_map]
    by_cases h7 : j < i
    · rw [if_neg (by omega), List.getElem?_append_left (by omega), List.getElem?_take, if_pos h7]
    · rw [List.getElem?_append_right (by omega), hl]
      by_cases h8 : j < i + bs.length
      · rw [if_pos (by omega), List.getElem?_append_left (by omega)]
      · rw [if_neg (by omega), List.getElem?_append_right (by omega), List.getElem?_drop]
        congr 2; omega
  · rw [if_neg hj, List.getElem?_eq_none (by simp; omega)]
end

/-- the bytes of a number, the low one first -/
def numB (n : Nat) : Nat → Bytes
  | 0 => []
  | k + 1 => UInt8.ofNat (n % 256) :: numB (n / 256) k
theorem numB_length (n k : Nat) : (numB n k).length = k := by
  induction k generalizing n with
  | zero => rfl
  | succ k ih => simp [numB, ih]
theorem numB_succ (n k : Nat) : numB n (k + 1) = numB n k ++ [UInt8.ofNat (n / 2 ^ (8 * k) % 256)] := by
  induction k generalizing n with
  | zero => simp [numB]
  | succ k ih =>
    rw [numB, ih (n / 256)]
    conv => rhs; rw [numB]
    simp only [List.cons_append, List.cons.injEq, List.append_cancel_left_eq, true_and, and_true]
    rw [Nat.div_div_eq_div_mul, show 8 * (k + 1) = 8 + 8 * k from by omega, Nat.pow_add]

theorem ofNat_mod (n : Nat) : (UInt8.ofNat (n % 256)).toNat = n % 256 := by simp [UInt8.toNat_ofNat']

theorem set_any (g off len cap T : Nat) (cur : Array Value) (at_ n size : Nat) (w : World) (hb : w.heap[g]? = some (.cells cur T (0, 0)))
    (hs : size ≤ 4) (hat : at_ + size ≤ len) (hlen : len ≤ maxLen) (hcur : off + len ≤ cur.size) :
    Calls Try.prog 56 #[.slice (some ⟨g, off, none⟩) len cap, .int .i64 at_, .int .i64 n, .int .i64 size] w
      fun e w' => e = .returned (.tuple #[]) ∧ w' = w.setRow g (setB cur (off + at_) ((numB n size).map bv)) := by
  unfold maxLen at hlen
  go_enter Try.func56, Try.ntmps56
  go_wp2
  go_loopw [10] (fun i wr => ∃ k : Nat, k ≤ size ∧ i = .int .i64 k ∧ wr = w.setRow g (setB cur (off + at_) ((numB n k).map bv))) (fun i _ => size - (intOf i).toNat)
  case atStart => exact ⟨0, Nat.zero_le _, rfl, by simp [numB, setB_nil, setRow_self w g cur T _ hb]⟩
  case round =>
    obtain ⟨k, hk, rfl, hwr⟩ := hrel
    by_cases hlt : k < size
    · have hsz : off + at_ + ((numB n k).map bv).length ≤ cur.size := by simp [numB_length]; omega
      have hg : wr.heap[g]? = some (.cells (setB cur (off + at_) ((numB n k).map bv)) T (0, 0)) := by rw [hwr]; exact setRow_heap w g cur _ T _ hb
      have hi : off + (at_ + k) < (setB cur (off + at_) ((numB n k).map bv)).size := by rw [setB_size _ _ _ hsz]; omega
      have hcell : wr.cell? ⟨g, off + (at_ + k), none⟩ = some (setB cur (off + at_) ((numB n k).map bv))[off + (at_ + k)] := by
        rw [cell_of_row wr g _ _ _ _ hg]; exact Array.getElem?_eq_getElem hi
      have hfr : wr.frozen? ⟨g, off + (at_ + k), none⟩ = false := frozen_of_row wr g _ _ T hg
      have hnext : wr.setCell ⟨g, off + (at_ + k), none⟩ (.int .u8 ((n : Int) / 2 ^ (8 * k) % 256)) = w.setRow g (setB cur (off + at_) ((numB n (k + 1)).map bv)) := by
        rw [setCell_eq_setRow wr g _ _ T _ _ hg, hwr, setRow_setRow]
        congr 1
        have h1 := setB_snoc cur (off + at_) ((numB n k).map bv) (.int .u8 ((n : Int) / 2 ^ (8 * k) % 256)) (by simp [numB_length]; omega)
        rw [show off + (at_ + k) = off + at_ + ((numB n k).map bv).length from by simp [numB_length]; omega, h1, numB_succ, List.map_append]
        congr 2
        simp only [List.map_cons, List.map_nil, bv, ofNat_mod]
        rfl
      have HN := Hidden.mk hnext
      clear hnext hg hwr hsz
      generalize (setB cur (off + at_) ((numB n k).map bv))[off + (at_ + k)] = u at hcell
      clear hi
      go_wp2
      go_roundw
      case rel => exact ⟨k + 1, by omega, by go_num, HN.out⟩
      case measure => simp [intOf]; omega
    · obtain rfl : k = size := by omega
      subst hwr
      go_wp2
      go_end0
      exact ⟨rfl, rfl⟩
end Go.Proofs.Ytibogmoemohngaa
