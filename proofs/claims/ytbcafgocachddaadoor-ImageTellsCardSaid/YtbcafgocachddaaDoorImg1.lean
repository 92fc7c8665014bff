/- Contracts of package image: the small ones, and New. -/
import Derived.Test.YtbcafgocachddaaDoorMem
import Derived.Test.YtbcafgocachddaaDoorStr2
namespace Go.Proofs.YtbcafgocachddaaDoor
open Go.RowKit

def rightB (n : Int) : Bool := decide (288 ≤ n) && decide (n ≤ 6400)
theorem rightB_true {n : Int} : rightB n = true ↔ 288 ≤ n ∧ n ≤ 6400 := by simp [rightB]
theorem rightB_false {n : Int} : rightB n = false ↔ n < 288 ∨ 6400 < n := by simp [rightB]; omega
theorem right_any (n : Int) (w : World) : Calls Tryd.prog 73 #[.int .i64 n] w fun e w' => e = .returned (.bool (rightB n)) ∧ w = w' := by
  by_cases h1 : 288 ≤ n
  · go_enter Tryd.func73, Tryd.ntmps73
    go_wp2
    go_ret
    exact ⟨ret_bool (by simp [rightB]; intros; omega), rfl⟩
  · go_enter Tryd.func73, Tryd.ntmps73
    go_wp2
    go_ret
    exact ⟨ret_bool (by symm; simp [rightB]; omega), rfl⟩
def handleB (n : Int) : Bool := decide (1 ≤ n) && decide (n ≤ 40)
theorem handleB_true {n : Int} : handleB n = true ↔ 1 ≤ n ∧ n ≤ 40 := by simp [handleB]
theorem handleB_false {n : Int} : handleB n = false ↔ n < 1 ∨ 40 < n := by simp [handleB]; omega
theorem handle_any (n : Int) (w : World) : Calls Tryd.prog 90 #[.int .i64 n] w fun e w' => e = .returned (.bool (handleB n)) ∧ w = w' := by
  by_cases h1 : 1 ≤ n
  · go_enter Tryd.func90, Tryd.ntmps90
    go_wp2
    go_ret
    exact ⟨ret_bool (by simp [handleB]; intros; omega), rfl⟩
  · go_enter Tryd.func90, Tryd.ntmps90
    go_wp2
    go_ret
    exact ⟨ret_bool (by symm; simp [handleB]; omega), rfl⟩
def tagB (n : Int) : Bool := decide (0 ≤ n) && decide (n ≤ 15)
theorem tagB_true {n : Int} : tagB n = true ↔ 0 ≤ n ∧ n ≤ 15 := by simp [tagB]
theorem tagB_false {n : Int} : tagB n = false ↔ n < 0 ∨ 15 < n := by simp [tagB]; omega
theorem tag_any (n : Int) (w : World) : Calls Tryd.prog 84 #[.int .i64 n] w fun e w' => e = .returned (.bool (tagB n)) ∧ w = w' := by
  by_cases h1 : 0 ≤ n
  · go_enter Tryd.func84, Tryd.ntmps84
    go_wp2
    go_ret
    exact ⟨ret_bool (by simp [tagB]; intros; omega), rfl⟩
  · go_enter Tryd.func84, Tryd.ntmps84
    go_wp2
    go_ret
    exact ⟨ret_bool (by symm; simp [tagB]; omega), rfl⟩
def lenB (n : Int) : Bool := decide (1 ≤ n) && decide (n ≤ 1000)
theorem lenB_true {n : Int} : lenB n = true ↔ 1 ≤ n ∧ n ≤ 1000 := by simp [lenB]
theorem lenB_false {n : Int} : lenB n = false ↔ n < 1 ∨ 1000 < n := by simp [lenB]; omega
theorem len_any (n : Int) (w : World) : Calls Tryd.prog 85 #[.int .i64 n] w fun e w' => e = .returned (.bool (lenB n)) ∧ w = w' := by
  by_cases h1 : 1 ≤ n
  · go_enter Tryd.func85, Tryd.ntmps85
    go_wp2
    go_ret
    exact ⟨ret_bool (by simp [lenB]; intros; omega), rfl⟩
  · go_enter Tryd.func85, Tryd.ntmps85
    go_wp2
    go_ret
    exact ⟨ret_bool (by symm; simp [lenB]; omega), rfl⟩
def withinB (n at_ len : Int) : Bool := decide (288 ≤ at_) && decide (len ≤ n) && decide (at_ ≤ n - len)
theorem withinB_true {n a l : Int} : withinB n a l = true ↔ 288 ≤ a ∧ l ≤ n ∧ a ≤ n - l := by simp [withinB, and_assoc]
theorem within_any (n at_ len : Int) (w : World) (hn0 : 0 ≤ n) (hn : n ≤ 1000000) (hl : 0 ≤ len) (hl2 : len ≤ 1000000) :
    Calls Tryd.prog 86 #[.int .i64 n, .agg #[.int .i64 at_, .int .i64 len]] w fun e w' => e = .returned (.bool (withinB n at_ len)) ∧ Below w.heap.size w w' := by
  have hB : ∀ o, Below w.heap.size w (w.alloc o) := fun o => (Below.refl _ _).alloc (Nat.le_refl _) o
  by_cases h1 : 288 ≤ at_
  · by_cases h2 : len ≤ n
    · go_enter Tryd.func86, Tryd.ntmps86
      go_wp2
      go_ret
      exact ⟨ret_bool (by rw [Bool.eq_iff_iff]; simp [withinB]; omega), hB _⟩
    · go_enter Tryd.func86, Tryd.ntmps86
      go_wp2
      go_ret
      exact ⟨ret_bool (by rw [Bool.eq_iff_iff]; simp [withinB]; omega), hB _⟩
  · go_enter Tryd.func86, Tryd.ntmps86
    go_wp2
    go_ret
    exact ⟨ret_bool (by rw [Bool.eq_iff_iff]; simp [withinB]; omega), hB _⟩

theorem check_e3 (A : Option Addr) (n c : Nat) (h : Int) (w : World) (hr : rightB n = false) :
    Calls Tryd.prog 78 #[.slice A n c, .int .i64 h] w fun e w' => e = .returned (.iface 132 (.int .i64 3)) ∧ w = w' := by
  go_enter Tryd.func78, Tryd.ntmps78
  go_wp2_with fail
  refine (right_any _ _).mono ?_
  rintro e w' ⟨rfl, rfl⟩
  rw [hr]
  go_wp2
  go_ret
  exact ⟨rfl, rfl⟩
theorem check_e1 (A : Option Addr) (n c : Nat) (h : Int) (w : World) (hr : rightB n = true) (hh : handleB h = false) :
    Calls Tryd.prog 78 #[.slice A n c, .int .i64 h] w fun e w' => e = .returned (.iface 132 (.int .i64 1)) ∧ w = w' := by
  go_enter Tryd.func78, Tryd.ntmps78
  go_wp2_with fail
  refine (right_any _ _).mono ?_
  rintro e w' ⟨rfl, rfl⟩
  rw [hr]
  go_wp2_with fail
  refine (handle_any _ _).mono ?_
  rintro e w' ⟨rfl, rfl⟩
  rw [hh]
  go_wp2
  go_ret
  exact ⟨rfl, rfl⟩
theorem check_ok (A : Option Addr) (n c : Nat) (h : Int) (w : World) (hr : rightB n = true) (hh : handleB h = true) :
    Calls Tryd.prog 78 #[.slice A n c, .int .i64 h] w fun e w' => e = .returned .nilIface ∧ w = w' := by
  go_enter Tryd.func78, Tryd.ntmps78
  go_wp2_with fail
  refine (right_any _ _).mono ?_
  rintro e w' ⟨rfl, rfl⟩
  rw [hr]
  go_wp2_with fail
  refine (handle_any _ _).mono ?_
  rintro e w' ⟨rfl, rfl⟩
  rw [hh]
  go_wp2
  go_ret
  exact ⟨rfl, rfl⟩

theorem new_e1 (n : Int) (w : World) (h : rightB n = false) :
    Calls Tryd.prog 10 #[.int .i64 n] w fun e w' => e = .returned (.tuple #[.slice none 0 0, .iface 132 (.int .i64 1)]) ∧ w = w' := by
  go_enter Tryd.func10, Tryd.ntmps10
  go_wp2_with fail
  refine (right_any _ _).mono ?_
  rintro e w' ⟨rfl, rfl⟩
  rw [h]
  go_wp2
  go_ret2
  exact ⟨rfl, rfl⟩
theorem new_ok (n : Int) (w : World) (h : rightB n = true) :
    Calls Tryd.prog 10 #[.int .i64 n] w fun e w' => ∃ g, e = .returned (.tuple #[.slice (some ⟨g, 0, none⟩) n.toNat n.toNat, .nilIface]) ∧ w.heap.size ≤ g ∧ Row w' 5 g n.toNat (List.replicate n.toNat 0) ∧ Below w.heap.size w w' := by
  have hb := rightB_true.1 h
  have hmk := mk_bytes n n.toNat (by omega) (by omega) w
  have hz := row_zeros w n.toNat (by simp only [maxLen]; omega)
  clear hb
  go_enter Tryd.func10, Tryd.ntmps10
  go_wp2_with fail
  refine (right_any _ _).mono ?_
  rintro e w' ⟨rfl, rfl⟩
  rw [h]
  go_wp2
  go_ret2
  exact ⟨_, rfl, Nat.le_refl _, hz, (Below.refl _ _).alloc (Nat.le_refl _) _⟩
end Go.Proofs.YtbcafgocachddaaDoor
