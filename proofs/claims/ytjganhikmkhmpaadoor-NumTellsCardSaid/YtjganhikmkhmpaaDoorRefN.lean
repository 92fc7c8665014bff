/- The contracts of the reference's Get, Put, Name, NameBytes and ReadName. -/
import Derived.Test.YtjganhikmkhmpaaDoorRefS
import Derived.Test.YtjganhikmkhmpaaDoorNumLow1
namespace Go.Proofs.YtjganhikmkhmpaaDoor
open Go.RowKit

def getF (l : Bytes) (at_ size : Int) : Nat := if getE l.length at_ size = 0 then getN l at_ size else 0
def putF (l : Bytes) (at_ x size : Int) : Bytes := if putE l.length at_ x size = 0 then putB l at_ x size else []

theorem get_any (A : Option Addr) (n c : Nat) (l : Bytes) (at_ size : Int) (w : World) (hn : l.length = n) (hc : n ≤ c) (hl : n ≤ maxLen) (hr : Rd w A l) :
    Calls Tryd.prog 21 #[.slice A n c, .int .i64 at_, .int .i64 size] w fun e w' => e = .returned (.tuple #[.int .i64 (getF l at_ size), errV (getE n at_ size)]) ∧ w = w' := by
  unfold getF
  rw [hn]
  by_cases hs : 1 ≤ size ∧ size ≤ 4
  · by_cases ha : at_ < 0 ∨ (n : Int) - size < at_
    · have he : getE n at_ size = 3 := by unfold getE; rw [if_pos hs, if_pos ha]
      rw [he, if_neg (by omega)]
      exact get_e3 A n c at_ size w hl hs.1 hs.2 ha
    · have he : getE n at_ size = 0 := by unfold getE; rw [if_pos hs, if_neg ha]
      rw [he, if_pos rfl]
      exact get_ok A n c l at_ size w hn hc hl hr hs.1 hs.2 (by omega) (by omega)
  · have he : getE n at_ size = 1 := by unfold getE; rw [if_neg hs]
    rw [he, if_neg (by omega)]
    exact get_e1 A n c at_ size w (by omega)
theorem refGet_any (A : Option Addr) (n c : Nat) (l : Bytes) (at_ size : Int) (w : World) (hn : l.length = n) (hc : n ≤ c) (hl : n ≤ 140737488351232) (hr : Rd w A l) :
    Calls Tryd.prog 20 #[.slice A n c, .int .i64 at_, .int .i64 size] w fun e w' => e = .returned (.tuple #[.int .i64 (getF l at_ size), .int .i64 (getE n at_ size)]) ∧ w = w' := by
  unfold getF
  rw [hn]
  by_cases hs : 1 ≤ size ∧ size ≤ 4
  · obtain ⟨h1, h4⟩ := hs
    by_cases ha : at_ < 0 ∨ (n : Int) - size < at_
    · have he : getE n at_ size = 3 := by unfold getE; rw [if_pos ⟨h1, h4⟩, if_pos ha]
      rw [he, if_neg (by omega)]
      by_cases h0 : at_ < 0
      · clear ha he
        go_enter Tryd.func20, Tryd.ntmps20
        go_wp2_with fail
        go_ret2
        exact ⟨rfl, rfl⟩
      · by_cases hb : (n : Int) < at_
        · clear ha he
          go_enter Tryd.func20, Tryd.ntmps20
          go_wp2_with fail
          go_ret2
          exact ⟨rfl, rfl⟩
        · have hc3 : (n : Int) - at_ < size := by omega
          have s1 : IntKind.i64.wrap ((n : Int) - at_) = (n : Int) - at_ := IntWalk.i64_in _ (by omega)
          clear ha he
          go_enter Tryd.func20, Tryd.ntmps20
          go_wp2_with fail
          go_ret2
          exact ⟨rfl, rfl⟩
    · have he : getE n at_ size = 0 := by unfold getE; rw [if_pos ⟨h1, h4⟩, if_neg ha]
      rw [he, if_pos rfl]
      obtain ⟨a, rfl⟩ := Int.eq_ofNat_of_zero_le (show 0 ≤ at_ by omega)
      obtain ⟨s, rfl⟩ := Int.eq_ofNat_of_zero_le (show 0 ≤ size by omega)
      have s1 : IntKind.i64.wrap ((n : Int) - a) = (n : Int) - a := IntWalk.i64_in _ (by omega)
      have s2 : IntKind.i64.wrap ((a : Int) + s) = (a : Int) + s := IntWalk.i64_in _ (by omega)
      have t0 : decide ((a : Int) < 0) = false := by simp
      have t1 : decide (n < a) = false := by simp; omega
      have t2 : decide ((n : Int) - a < s) = false := by simp; omega
      have t3 : decide ((s : Int) < 1) = false := by simp; omega
      have t4 : decide ((4 : Int) < s) = false := by simp; omega
      have hcut := hr.cut a s (by omega)
      obtain ⟨p, off, rfl, _⟩ := hr.lt (by omega)
      rw [Option.map_some, Addr.add_lit] at hcut
      have hrun := run_cut p off n c a (a + s) (by omega) (by omega) (by omega)
      rw [Nat.add_sub_cancel_left, Int.natCast_add] at hrun
      have hlen : ((l.drop a).take s).length = s := by simp; omega
      have HG : Hidden (getN l (a : Int) (s : Int) = ofB ((l.drop a).take s)) := ⟨by simp [getN]⟩
      clear ha he
      go_enter Tryd.func20, Tryd.ntmps20
      go_wp2_with fail
      refine (number_any _ s _ ((l.drop a).take s) _ hlen (by omega) hcut).mono ?_
      rintro e w' ⟨rfl, rfl⟩
      go_wp2_with fail
      go_ret2
      exact ⟨by rw [HG.out]; rfl, rfl⟩
  · have he : getE n at_ size = 1 := by unfold getE; rw [if_neg hs]
    rw [he, if_neg (by omega)]
    by_cases h1 : size < 1
    · clear hs he
      go_enter Tryd.func20, Tryd.ntmps20
      go_wp2_with fail
      go_ret2
      exact ⟨rfl, rfl⟩
    · have h4 : 4 < size := by omega
      clear hs he
      go_enter Tryd.func20, Tryd.ntmps20
      go_wp2_with fail
      go_ret2
      exact ⟨rfl, rfl⟩

theorem put_any (A : Option Addr) (n c : Nat) (l : Bytes) (at_ x size : Int) (w : World) (hn : l.length = n) (hl : n ≤ 140737488351232) (hr : Rd w A l) :
    Calls Tryd.prog 19 #[.slice A n c, .int .i64 at_, .int .i64 x, .int .i64 size] w fun e w' => ∃ A' c', e = .returned (.tuple #[.slice A' (putF l at_ x size).length c', errV (putE n at_ x size)]) ∧ Rd w' A' (putF l at_ x size) ∧ Below w.heap.size w w' := by
  unfold putF
  rw [hn]
  by_cases hx : 1 ≤ size ∧ size ≤ 4 ∧ 0 ≤ x ∧ x ≤ mostN size
  · by_cases ha : at_ < 0 ∨ (n : Int) - size < at_
    · have he : putE n at_ x size = 3 := by unfold putE; rw [if_pos hx, if_pos ha]
      rw [he, if_neg (by omega)]
      refine (put_e3 A n c at_ x size w (by simp only [maxLen]; omega) hx.1 hx.2.1 hx.2.2.1 hx.2.2.2 ha).mono ?_
      rintro e w' ⟨rfl, rfl⟩
      exact ⟨none, 0, rfl, Rd.nil_, Below.refl _ _⟩
    · have he : putE n at_ x size = 0 := by unfold putE; rw [if_pos hx, if_neg ha]
      rw [he, if_pos rfl]
      refine (put_ok A n c l at_ x size w hn hl hr hx.1 hx.2.1 hx.2.2.1 hx.2.2.2 (by omega) (by omega)).mono ?_
      rintro e w' ⟨g, cap, rfl, hg, hrow, hb⟩
      have hlen : (putB l at_ x size).length = n := by
        unfold putB
        rw [splice_len _ _ _ (by rw [numB_length]; omega), hn]
      exact ⟨some ⟨g, 0, none⟩, cap, by rw [hlen]; rfl, hrow.rd, hb⟩
  · have he : putE n at_ x size = 1 := by unfold putE; rw [if_neg hx]
    rw [he, if_neg (by omega)]
    refine (put_e1 A n c at_ x size w hx).mono ?_
    rintro e w' ⟨rfl, rfl⟩
    exact ⟨none, 0, rfl, Rd.nil_, Below.refl _ _⟩
theorem splice_put (l : Bytes) (o x k : Nat) (h : o + k < l.length) : (splice l o (numB x k)).set (o + k) (UInt8.ofNat (x / 2 ^ (8 * k) % 256)) = splice l o (numB x (k + 1)) := by
  have h1 := numB_length x k
  have h2 := numB_length x (k + 1)
  apply List.ext_getElem?
  intro p
  rw [List.getElem?_set, splice_len _ _ _ (by omega), splice_rd _ _ _ _ (by omega), splice_rd _ _ _ _ (by omega), h1, h2]
  by_cases a : o + k = p
  · subst a
    rw [if_pos rfl, if_pos (by omega), if_pos (by omega), Nat.add_sub_cancel_left, numB_get _ _ _ (by omega)]
  · rw [if_neg a]
    by_cases b : o ≤ p ∧ p < o + k
    · rw [if_pos b, if_pos (show o ≤ p ∧ p < o + (k + 1) from by omega), numB_get _ _ _ (by omega), numB_get _ _ _ (by omega)]
    · rw [if_neg b, if_neg (show ¬ (o ≤ p ∧ p < o + (k + 1)) from by omega)]
end Go.Proofs.YtjganhikmkhmpaaDoor
