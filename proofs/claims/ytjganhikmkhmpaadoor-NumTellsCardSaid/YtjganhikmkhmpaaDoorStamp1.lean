/- The contracts of stamp.Make and bytes.Equal. -/
import Derived.Test.YtjganhikmkhmpaaDoorStr3
namespace Go.Proofs.YtjganhikmkhmpaaDoor
open Go.RowKit

/-- a sector of a stamp and a body -/
def makeB (st : Nat) (b : Bytes) : Bytes := numB st 4 ++ (b ++ List.replicate (24 - b.length) 0) ++ numB st 4
theorem makeB_len (st : Nat) (b : Bytes) (h : b.length ≤ 24) : (makeB st b).length = 32 := by simp [makeB, numB_length]; omega
theorem splice_app (a b c d : Bytes) (h : b.length = d.length) : splice (a ++ (b ++ c)) a.length d = a ++ (d ++ c) := by
  simp only [splice, List.take_left, ← h]
  rw [← List.append_assoc a b c, ← List.length_append, List.drop_left]
theorem makeB_steps (st : Nat) (b : Bytes) (h : b.length ≤ 24) : splice (splice (splice (List.replicate 32 0) 0 (numB st 4)) 4 b) 28 (numB st 4) = makeB st b := by
  have hl := numB_length st 4
  rw [splice_zeros, hl, show 32 - 4 = b.length + ((24 - b.length) + 4) from by omega, ← List.replicate_append_replicate]
  have e1 := splice_app (numB st 4) (List.replicate b.length 0) (List.replicate ((24 - b.length) + 4) 0) b (by simp)
  rw [hl] at e1
  rw [e1, ← List.replicate_append_replicate]
  have e2 := splice_app (numB st 4 ++ (b ++ List.replicate (24 - b.length) 0)) (List.replicate 4 0) [] (numB st 4) (by simp [hl])
  have hlen : (numB st 4 ++ (b ++ List.replicate (24 - b.length) 0)).length = 28 := by simp [hl]; omega
  rw [hlen] at e2
  simp only [List.append_nil] at e2
  rw [← List.append_assoc b, ← List.append_assoc (numB st 4), e2, makeB]

theorem make_e1 (st : Int) (A : Option Addr) (n c : Nat) (w : World) (h : st < 1 ∨ 4294967295 < st) :
    Calls Tryd.prog 13 #[.int .i64 st, .slice A n c] w fun e w' => e = .returned (.tuple #[.slice none 0 0, .iface 135 (.int .i64 1)]) ∧ w = w' := by
  by_cases h1 : st < 1
  · clear h
    go_enter Tryd.func13, Tryd.ntmps13
    go_wp2
    go_ret2
    exact ⟨rfl, rfl⟩
  · have h2 : 4294967295 < st := by omega
    clear h
    go_enter Tryd.func13, Tryd.ntmps13
    go_wp2
    go_ret2
    exact ⟨rfl, rfl⟩
theorem make_e4 (st : Int) (A : Option Addr) (n c : Nat) (w : World) (h1 : 1 ≤ st) (h2 : st ≤ 4294967295) (hn : 24 < n) :
    Calls Tryd.prog 13 #[.int .i64 st, .slice A n c] w fun e w' => e = .returned (.tuple #[.slice none 0 0, .iface 135 (.int .i64 4)]) ∧ w = w' := by
  go_enter Tryd.func13, Tryd.ntmps13
  go_wp2
  go_ret2
  exact ⟨rfl, rfl⟩
set_option maxRecDepth 100000 in
theorem make_ok (st : Int) (A : Option Addr) (n c : Nat) (b : Bytes) (w : World) (hbn : b.length = n) (h1 : 1 ≤ st) (h2 : st ≤ 4294967295) (hn : n ≤ 24) (hr : Rd w A b) :
    Calls Tryd.prog 13 #[.int .i64 st, .slice A n c] w fun e w' => ∃ g, e = .returned (.tuple #[.slice (some ⟨g, 0, none⟩) 32 32, .nilIface]) ∧ w.heap.size ≤ g ∧ Row w' 5 g 32 (makeB st.toNat b) ∧ Below w.heap.size w w' := by
  obtain ⟨s, rfl⟩ := Int.eq_ofNat_of_zero_le (show 0 ≤ st by omega)
  have hmk := mk_bytes 32 32 rfl (by omega) w
  have hz := row_zeros w 32 (by simp [maxLen])
  have hblk : (w.alloc (.cells (zeroRow 32) 5)).heap[w.heap.size]? = some (.cells (zeroRow 32) 5 (0, 0)) := heap_alloc_new w _
  have hB1 : Below w.heap.size w (w.alloc (.cells (zeroRow 32) 5)) := (Below.refl _ _).alloc (Nat.le_refl _) _
  have hl := numB_length s 4
  go_enter Tryd.func13, Tryd.ntmps13
  go_wp2_with fail
  refine (set_any w.heap.size 0 32 32 5 (zeroRow 32) 0 s 4 _ hblk (by omega) (by omega) (by simp [maxLen]) (by rw [zeroRow_size]; omega)).mono ?_
  rintro e w1 ⟨rfl, hw1⟩
  have hrow1 := hz.set_ 0 (numB s 4) (by simp [hl]) _ hblk
  have hblk1 : w1.heap[w.heap.size]? = some (.cells (setB (zeroRow 32) 0 ((numB s 4).map bv)) 5 (0, 0)) := by rw [hw1]; exact setRow_heap _ _ _ _ _ _ hblk
  rw [Nat.zero_add] at hw1
  rw [← hw1] at hrow1
  have hB2 : Below w.heap.size w w1 := by rw [hw1]; exact below_setRow hB1 (Nat.le_refl _) _
  have hsz1 : (setB (zeroRow 32) 0 ((numB s 4).map bv)).size = 32 := by rw [setB_size _ _ _ (by simp [hl, zeroRow_size]), zeroRow_size]
  generalize setB (zeroRow 32) 0 ((numB s 4).map bv) = cur1 at hblk1 hsz1
  clear hw1 hmk hz hblk hB1
  have hcopy := fun ty => run_copy_rd w1 w.heap.size 4 28 28 n c n A b cur1 5 hblk1 hbn (hr.below hB2) (Nat.min_eq_left (by omega)).symm (by omega) ty
  rw [List.take_of_length_le (by omega)] at hcopy
  have hrow2 := hrow1.set_ 4 b (by rw [splice_len _ _ _ (by simp [hl])]; simp; omega) _ hblk1
  have hblk2 := setRow_heap w1 w.heap.size cur1 (setB cur1 4 (b.map bv)) 5 (0, 0) hblk1
  have hB3 : Below w.heap.size w (w1.setRow w.heap.size (setB cur1 4 (b.map bv))) := below_setRow hB2 (Nat.le_refl _) _
  have hsz2 : (setB cur1 4 (b.map bv)).size = 32 := by rw [setB_size _ _ _ (by simp; omega), hsz1]
  generalize w1.setRow w.heap.size (setB cur1 4 (b.map bv)) = w2 at hcopy hrow2 hblk2 hB3
  generalize setB cur1 4 (b.map bv) = cur2 at hblk2 hsz2
  go_wp2_with fail
  refine (set_any w.heap.size 0 32 32 5 cur2 28 s 4 _ hblk2 (by omega) (by omega) (by simp [maxLen]) (by omega)).mono ?_
  rintro e w3 ⟨rfl, rfl⟩
  go_wp2_with fail
  go_ret2
  refine ⟨_, rfl, Nat.le_refl _, ?_, below_setRow hB3 (Nat.le_refl _) _⟩
  have hrow3 := hrow2.set_ 28 (numB s 4) (by rw [splice_len _ _ _ (by rw [splice_len _ _ _ (by simp [hl])]; simp; omega), splice_len _ _ _ (by simp [hl])]; simp [hl]) _ hblk2
  rw [makeB_steps s b (by omega)] at hrow3
  simpa using hrow3

/-- bytes.Equal -/
theorem equal_any (A B : Option Addr) (n m c d : Nat) (a b : Bytes) (w : World) (hn : a.length = n) (hm : b.length = m) (ha : Rd w A a) (hb : Rd w B b) :
    Calls Tryd.prog 80 #[.slice A n c, .slice B m d] w fun e w' => e = .returned (.bool (a == b)) ∧ w = w' := by
  have c1 := conv_text w A n c a hn ha
  have c2 := conv_text w B m d b hm hb
  go_enter Tryd.func80, Tryd.ntmps80
  go_wp2
  go_ret
  exact ⟨rfl, rfl⟩
end Go.Proofs.YtjganhikmkhmpaaDoor
