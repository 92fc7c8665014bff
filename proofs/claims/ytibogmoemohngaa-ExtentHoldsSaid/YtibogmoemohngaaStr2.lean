/- The contracts of num.name, PutName, GetName. -/
import Derived.Test.YtibogmoemohngaaStr1
import Derived.Test.YtibogmoemohngaaMem
import Derived.Lib.ConvBytes
namespace Go.Proofs.Ytibogmoemohngaa
open Go.RowKit

def isName (l : Bytes) : Bool := !l.isEmpty && decide (l.length ≤ 8) && !l.any notLower

/-- a text as bytes: a new block -/
theorem conv_bytes (w : World) (l : Bytes) : ∃ cap W', (convert 9 22 (sv l)).run Try.prog w = .ok (.slice (some ⟨w.heap.size, 0, none⟩) l.length cap) W' ∧
    l.length ≤ cap ∧ Rd W' (some ⟨w.heap.size, 0, none⟩) l ∧ Below w.heap.size w W' := by
  refine ⟨_, _, Lib.run_convert_string_bytes w 9 22 5 ⟨l.toArray⟩ Try.underlying9 Try.underlying22 Try.underlying5, ?_, ?_, ?_⟩
  · exact grownCap_ge _ _ _ _
  · intro j hj
    refine ⟨_, 0, rfl, ?_⟩
    rw [Nat.zero_add, Lib.bytesWorld_cell w 5 ⟨l.toArray⟩ j hj]
    simp [hj]
  · exact ⟨rfl, rfl, rfl, by rw [Lib.bytesWorld_size]; omega, fun k hk => Lib.bytesWorld_at_old w _ ⟨l.toArray⟩ k hk⟩

set_option maxRecDepth 100000 in
theorem name_any (l : Bytes) (w : World) (hs : l.length ≤ 140737488351232) :
    Calls Try.prog 100 #[sv l] w fun e w' => e = .returned (.bool (isName l)) ∧ Below w.heap.size w w' := by
  by_cases h0 : l = []
  · subst h0
    go_enter Try.func100, Try.ntmps100
    go_wp2
    go_ret
    exact ⟨rfl, Below.refl _ _⟩
  · have h0' : l.isEmpty = false := by
      cases l with
      | nil => exact absurd rfl h0
      | cons a b => rfl
    clear h0
    by_cases h8 : (l.length : Int) ≤ 8
    · obtain ⟨cap, W1, hrun, hcap, hrd, hbel⟩ := conv_bytes w l
      have hv : Hidden ((!l.any notLower) = isName l) := ⟨by simp [isName, h0']; intros; omega⟩
      go_enter Try.func100, Try.ntmps100
      go_wp2_with fail
      refine (containsf_name _ _ _ l _ rfl (by simp only [maxLen]; omega) hrd).mono ?_
      rintro e w1 ⟨rfl, rfl⟩
      go_wp2
      go_ret
      exact ⟨ret_bool hv.out, hbel⟩
    · have hv : Hidden (false = isName l) := ⟨by simp [isName, h0']; intros; omega⟩
      go_enter Try.func100, Try.ntmps100
      go_wp2
      go_ret
      exact ⟨ret_bool hv.out, Below.refl _ _⟩

theorem splice_zeros (n : Nat) (l : Bytes) : splice (List.replicate n 0) 0 l = l ++ List.replicate (n - l.length) 0 := by
  simp only [splice, List.take_zero, List.nil_append, Nat.zero_add, List.drop_replicate]
/-- the bytes of a name: zeros behind it -/
def nameB (l : Bytes) : Bytes := l ++ List.replicate (8 - l.length) 0

theorem putName_no (l : Bytes) (w : World) (hs : l.length ≤ 140737488351232) (hn : isName l = false) :
    Calls Try.prog 58 #[sv l] w fun e w' => e = .returned (.tuple #[.slice none 0 0, .iface 78 (.int .i64 2)]) ∧ Below w.heap.size w w' := by
  go_enter Try.func58, Try.ntmps58
  go_wp2_with fail
  refine (name_any l _ hs).mono ?_
  rintro e w1 ⟨rfl, hb⟩
  rw [hn]
  go_wp2
  go_ret2
  exact ⟨rfl, hb⟩
set_option maxRecDepth 100000 in
theorem putName_ok (l : Bytes) (w : World) (hn : isName l = true) :
    Calls Try.prog 58 #[sv l] w fun e w' => ∃ g, e = .returned (.tuple #[.slice (some ⟨g, 0, none⟩) 8 8, .nilIface]) ∧ w.heap.size ≤ g ∧ Row w' 5 g 8 (nameB l) ∧ Below w.heap.size w w' := by
  have h8 : l.length ≤ 8 := by simp [isName] at hn; omega
  go_enter Try.func58, Try.ntmps58
  go_wp2_with fail
  refine (name_any l _ (by omega)).mono ?_
  rintro e w1 ⟨rfl, hb⟩
  rw [hn]
  have hmk := mk_bytes 8 8 rfl (by omega) w1
  have hz := row_zeros w1 8 (by simp [maxLen])
  have hblk : (w1.alloc (.cells (zeroRow 8) 5)).heap[w1.heap.size]? = some (.cells (zeroRow 8) 5 (0, 0)) := heap_alloc_new w1 _
  have hcopy := fun ty => run_copy_text (w1.alloc (.cells (zeroRow 8) 5)) w1.heap.size 0 8 8 l.length l (zeroRow 8) 5 hblk (Nat.min_eq_left h8).symm (by rw [zeroRow_size]; omega) ty
  have hres := hz.set_ 0 l (by simp; omega) _ hblk
  have hBB : Below w.heap.size w ((w1.alloc (.cells (zeroRow 8) 5)).setRow w1.heap.size (setB (zeroRow 8) 0 (l.map bv))) := below_setRow (hb.alloc hb.size _) hb.size _
  rw [List.take_of_length_le (Nat.le_refl _)] at hcopy
  generalize (w1.alloc (.cells (zeroRow 8) 5)).setRow w1.heap.size (setB (zeroRow 8) 0 (l.map bv)) = W2 at hcopy hres hBB
  clear hz hblk
  go_wp2_with fail
  go_ret2
  refine ⟨_, rfl, hb.size, ?_, hBB⟩
  rw [splice_zeros] at hres
  exact hres
end Go.Proofs.Ytibogmoemohngaa
