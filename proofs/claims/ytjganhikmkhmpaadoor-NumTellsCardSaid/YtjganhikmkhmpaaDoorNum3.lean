/- The contracts of num.Get, slices.Clone and num.Put. -/
import Derived.Test.YtjganhikmkhmpaaDoorNum2
namespace Go.Proofs.YtjganhikmkhmpaaDoor
open Go.RowKit

/-- an error of the program: nil, or a number of api.Errno -/
def errV (n : Nat) : Value := if n = 0 then .nilIface else .iface 135 (.int .i64 n)
def getE (n : Nat) (at_ size : Int) : Nat := if 1 ≤ size ∧ size ≤ 4 then (if at_ < 0 ∨ (n : Int) - size < at_ then 3 else 0) else 1
def getN (l : Bytes) (at_ size : Int) : Nat := ofB ((l.drop at_.toNat).take size.toNat)

theorem get_e1 (A : Option Addr) (n c : Nat) (at_ size : Int) (w : World) (h : size < 1 ∨ 4 < size) :
    Calls Tryd.prog 21 #[.slice A n c, .int .i64 at_, .int .i64 size] w fun e w' => e = .returned (.tuple #[.int .i64 0, .iface 135 (.int .i64 1)]) ∧ w = w' := by
  have hs : (decide (1 ≤ size) && decide (size ≤ 4)) = false := by simp; omega
  go_enter Tryd.func21, Tryd.ntmps21
  go_wp2_with (go_at_call 83; refine (sized_any _ _).mono ?_; rintro e w' ⟨rfl, rfl⟩)
  go_ret2
  exact ⟨rfl, rfl⟩
theorem get_e3 (A : Option Addr) (n c : Nat) (at_ size : Int) (w : World) (hl : n ≤ maxLen) (h1 : 1 ≤ size) (h4 : size ≤ 4) (h : at_ < 0 ∨ (n : Int) - size < at_) :
    Calls Tryd.prog 21 #[.slice A n c, .int .i64 at_, .int .i64 size] w fun e w' => e = .returned (.tuple #[.int .i64 0, .iface 135 (.int .i64 3)]) ∧ w = w' := by
  unfold maxLen at hl
  have hs : (decide (1 ≤ size) && decide (size ≤ 4)) = true := by simp; omega
  by_cases h0 : at_ < 0
  · clear h
    go_enter Tryd.func21, Tryd.ntmps21
    go_wp2_with (go_at_call 83; refine (sized_any _ _).mono ?_; rintro e w' ⟨rfl, rfl⟩)
    go_ret2
    exact ⟨rfl, rfl⟩
  · have hh : (n : Int) - size < at_ := by omega
    clear h
    go_enter Tryd.func21, Tryd.ntmps21
    go_wp2_with (go_at_call 83; refine (sized_any _ _).mono ?_; rintro e w' ⟨rfl, rfl⟩)
    go_ret2
    exact ⟨rfl, rfl⟩
theorem get_ok (A : Option Addr) (n c : Nat) (l : Bytes) (at_ size : Int) (w : World) (hn : l.length = n) (hc : n ≤ c) (hl : n ≤ maxLen) (hr : Rd w A l) (h1 : 1 ≤ size) (h4 : size ≤ 4) (h0 : 0 ≤ at_) (h : at_ ≤ (n : Int) - size) :
    Calls Tryd.prog 21 #[.slice A n c, .int .i64 at_, .int .i64 size] w fun e w' => e = .returned (.tuple #[.int .i64 (getN l at_ size), .nilIface]) ∧ w = w' := by
  subst hn
  unfold maxLen at hl
  have hs : (decide (1 ≤ size) && decide (size ≤ 4)) = true := by simp; omega
  obtain ⟨a, rfl⟩ := Int.eq_ofNat_of_zero_le h0
  obtain ⟨s, rfl⟩ := Int.eq_ofNat_of_zero_le (show 0 ≤ size by omega)
  go_enter Tryd.func21, Tryd.ntmps21
  go_wp2_with (go_at_call 83; refine (sized_any _ _).mono ?_; rintro e w' ⟨rfl, rfl⟩)
  refine (of_any _ _ _ ((l.drop a).take s) _ (by simp; omega) (by omega) (hr.cut a s (by omega))).mono ?_
  rintro e w' ⟨rfl, rfl⟩
  go_wp2
  go_ret2
  exact ⟨by simp [getN], rfl⟩

theorem byte_info : (Tryd.prog.info? 5).map (fun i => (i.zero, i.size, i.bytes)) = some (some (.int .u8 0), 1, 1) := by kernel_rfl

/-- slices.Clone of bytes: nil stays nil, else the call's own -/
theorem clone_nil (n c : Nat) (w : World) : Calls Tryd.prog 81 #[.slice none n c] w fun e w' => e = .returned (.slice none 0 0) ∧ w = w' := by
  have he := fun W => Lib.run_eql_slice_nil (P := Tryd.prog) W 22 5 none n c 0 0 Tryd.underlying22
  go_enter Tryd.func81, Tryd.ntmps81
  go_wp2
  go_ret
  exact ⟨rfl, rfl⟩
theorem clone_some (ad : Addr) (n c : Nat) (l : Bytes) (w : World) (hn : l.length = n) (hl : n ≤ 140737488351232) (hr : Rd w (some ad) l) :
    Calls Tryd.prog 81 #[.slice (some ad) n c] w fun e w' => ∃ g cap, e = .returned (.slice (some ⟨g, 0, none⟩) n cap) ∧ w.heap.size ≤ g ∧ Row w' 5 g cap l ∧ Below w.heap.size w w' := by
  subst hn
  have he := fun W => Lib.run_eql_slice_nil (P := Tryd.prog) W 22 5 (some ad) l.length c 0 0 Tryd.underlying22
  obtain ⟨i0, hi0, hz0, hz1, hz2⟩ := info_parts byte_info
  go_enter Tryd.func81, Tryd.ntmps81
  have hown := World.ownsRow_lit (base := w.heap.size) (e := 5) (size := 1) w #[] 0 (Nat.le_refl _) (by simp) rfl
  have hr1 : Rd (w.alloc (.cells #[] 5)) (some ad) l := hr.below ((Below.refl _ _).alloc (Nat.le_refl _) _)
  go_wp2_with (at_builtin; refine wpList_append_own _ rfl (.tmp 5) (.tmp 6) _ rfl w.heap.size 5 i0 _ 1 1 Tryd.underlying22 hi0 hz0 hz1 hz2 rfl (by decide) (.slice (some ⟨w.heap.size, 0, none⟩) 0 0) 0 [] rfl hown ad l.length c (l.map bv) rfl (by simp) hr1.cells one_bv (by simp only [maxLen]; omega) (by omega) (by simp) ?_; intro v1 w1 hown1 hg1 hnn)
  go_ret
  have hnn' : v1 ≠ .slice none 0 0 := fun h => by have := hnn.1 h; simp at this
  obtain ⟨g, cap, rfl, hbg, hrow⟩ := Row.of_own (l := l) (by simpa [Own] using hown1) hnn'
  refine ⟨g, cap, rfl, hbg, hrow, ?_⟩
  · exact ((Below.refl _ _).alloc (Nat.le_refl _) _).grown hg1 (by simp) (fun k hk => by simp [Value.ownBlock] at hk; omega)

def putE (n : Nat) (at_ x size : Int) : Nat := if 1 ≤ size ∧ size ≤ 4 ∧ 0 ≤ x ∧ x ≤ mostN size then (if at_ < 0 ∨ (n : Int) - size < at_ then 3 else 0) else 1
def putB (l : Bytes) (at_ x size : Int) : Bytes := splice l at_.toNat (numB x.toNat size.toNat)
theorem put_e1 (A : Option Addr) (n c : Nat) (at_ x size : Int) (w : World) (h : ¬ (1 ≤ size ∧ size ≤ 4 ∧ 0 ≤ x ∧ x ≤ mostN size)) :
    Calls Tryd.prog 19 #[.slice A n c, .int .i64 at_, .int .i64 x, .int .i64 size] w fun e w' => e = .returned (.tuple #[.slice none 0 0, .iface 135 (.int .i64 1)]) ∧ w = w' := by
  by_cases hs : 1 ≤ size ∧ size ≤ 4
  · have hs' : (decide (1 ≤ size) && decide (size ≤ 4)) = true := by simp; omega
    by_cases h0 : x < 0
    · clear h
      go_enter Tryd.func19, Tryd.ntmps19
      go_wp2_with (first | (go_at_call 83; refine (sized_any _ _).mono ?_; rintro e w' ⟨rfl, rfl⟩) | (go_at_call 84; refine (most_any _ _ (by omega) (by omega)).mono ?_; rintro e w' ⟨rfl, rfl⟩))
      go_ret2
      exact ⟨rfl, rfl⟩
    · have hx : mostN size < x := by omega
      clear h
      obtain ⟨h1, h4⟩ := hs
      go_enter Tryd.func19, Tryd.ntmps19
      go_wp2_with (first | (go_at_call 83; refine (sized_any _ _).mono ?_; rintro e w' ⟨rfl, rfl⟩) | (go_at_call 84; refine (most_any _ _ (by omega) (by omega)).mono ?_; rintro e w' ⟨rfl, rfl⟩))
      go_ret2
      exact ⟨rfl, rfl⟩
  · have hs' : (decide (1 ≤ size) && decide (size ≤ 4)) = false := by simp; omega
    clear h
    go_enter Tryd.func19, Tryd.ntmps19
    go_wp2_with (go_at_call 83; refine (sized_any _ _).mono ?_; rintro e w' ⟨rfl, rfl⟩)
    go_ret2
    exact ⟨rfl, rfl⟩

theorem put_e3 (A : Option Addr) (n c : Nat) (at_ x size : Int) (w : World) (hl : n ≤ maxLen) (h1 : 1 ≤ size) (h4 : size ≤ 4) (hx0 : 0 ≤ x) (hx : x ≤ mostN size) (h : at_ < 0 ∨ (n : Int) - size < at_) :
    Calls Tryd.prog 19 #[.slice A n c, .int .i64 at_, .int .i64 x, .int .i64 size] w fun e w' => e = .returned (.tuple #[.slice none 0 0, .iface 135 (.int .i64 3)]) ∧ w = w' := by
  unfold maxLen at hl
  have hs' : (decide (1 ≤ size) && decide (size ≤ 4)) = true := by simp; omega
  by_cases h0 : at_ < 0
  · clear h
    go_enter Tryd.func19, Tryd.ntmps19
    go_wp2_with (first | (go_at_call 83; refine (sized_any _ _).mono ?_; rintro e w' ⟨rfl, rfl⟩) | (go_at_call 84; refine (most_any _ _ (by omega) (by omega)).mono ?_; rintro e w' ⟨rfl, rfl⟩))
    go_ret2
    exact ⟨rfl, rfl⟩
  · have hh : (n : Int) - size < at_ := by omega
    clear h
    go_enter Tryd.func19, Tryd.ntmps19
    go_wp2_with (first | (go_at_call 83; refine (sized_any _ _).mono ?_; rintro e w' ⟨rfl, rfl⟩) | (go_at_call 84; refine (most_any _ _ (by omega) (by omega)).mono ?_; rintro e w' ⟨rfl, rfl⟩))
    go_ret2
    exact ⟨rfl, rfl⟩
theorem put_ok (A : Option Addr) (m c : Nat) (l : Bytes) (at_ x size : Int) (w : World) (hm : l.length = m) (hl : m ≤ 140737488351232) (hr : Rd w A l) (h1 : 1 ≤ size) (h4 : size ≤ 4) (hx0 : 0 ≤ x) (hx : x ≤ mostN size)
    (h0 : 0 ≤ at_) (h : at_ ≤ (m : Int) - size) :
    Calls Tryd.prog 19 #[.slice A m c, .int .i64 at_, .int .i64 x, .int .i64 size] w fun e w' =>
      ∃ g cap, e = .returned (.tuple #[.slice (some ⟨g, 0, none⟩) m cap, .nilIface]) ∧ w.heap.size ≤ g ∧ Row w' 5 g cap (putB l at_ x size) ∧ Below w.heap.size w w' := by
  subst hm
  have hs' : (decide (1 ≤ size) && decide (size ≤ 4)) = true := by simp; omega
  obtain ⟨b, off, rfl, hb⟩ := hr.lt (by omega)
  obtain ⟨a, rfl⟩ := Int.eq_ofNat_of_zero_le h0
  obtain ⟨s, rfl⟩ := Int.eq_ofNat_of_zero_le (show 0 ≤ size by omega)
  obtain ⟨n, rfl⟩ := Int.eq_ofNat_of_zero_le hx0
  go_enter Tryd.func19, Tryd.ntmps19
  go_wp2_with (first | (go_at_call 83; refine (sized_any _ _).mono ?_; rintro e w' ⟨rfl, rfl⟩) | (go_at_call 84; refine (most_any _ _ (by omega) (by omega)).mono ?_; rintro e w' ⟨rfl, rfl⟩))
  refine (clone_some _ _ _ l _ rfl hl hr).mono ?_
  rintro e w1 ⟨g, cap, rfl, hg, hrow, hbel⟩
  go_wp2_with fail
  obtain ⟨hlc, hcm⟩ := hrow.le
  have hrow' := hrow
  obtain ⟨cur, hcur, _, _, hcs, _⟩ := hrow'
  refine (set_any g 0 l.length cap 5 cur a n s _ hcur (by omega) (by omega) (by omega) (by omega)).mono ?_
  rintro e w2 ⟨rfl, rfl⟩
  go_wp2
  go_ret2
  refine ⟨g, cap, rfl, hg, ?_, below_setRow hbel hg _⟩
  have := hrow.set_ a (numB n s) (by rw [numB_length]; omega) cur hcur
  simpa [putB, Nat.zero_add] using this

theorem isNil_err (n : Nat) : errV (n + 1) ≠ .nilIface := by simp [errV]
end Go.Proofs.YtjganhikmkhmpaaDoor
