/- image.Drop where it is refused; image.Get and image.New in one form. -/
import Derived.Test.YtbcafgocachddaaDoorImg6
import Derived.Test.YtbcafgocachddaaDoorRefI5
namespace Go.Proofs.YtbcafgocachddaaDoor
open Go.RowKit

theorem idrop_e (A : Option Addr) (n c : Nat) (h k : Int) (w : World) (hget : Calls Tryd.prog 25 #[.slice A n c, .int .i64 h] w fun e w' => e = .returned (.tuple #[entV 0 0 0 0, .iface 132 (.int .i64 k)]) ∧ Below w.heap.size w w') :
    Calls Tryd.prog 26 #[.slice A n c, .int .i64 h] w fun e w' => e = .returned (.tuple #[.slice none 0 0, .iface 132 (.int .i64 k)]) ∧ Below w.heap.size w w' := by
  have HG := Hidden.mk hget
  unfold entV at HG
  clear hget
  go_enter Tryd.func26, Tryd.ntmps26
  go_wp2_with fail
  refine HG.out.mono ?_
  rintro e w1 ⟨rfl, hb1⟩
  have hB2 : Below w.heap.size w (w1.alloc (.cells #[.int .i64 0, .int .i64 0, .int .i64 0, .int .i64 0] 26)) := hb1.alloc hb1.size _
  clear hb1
  go_wp2_with fail
  go_ret2
  exact ⟨rfl, hB2⟩
/-- what Get and Drop answer -/
def handE (n : Nat) (l : Bytes) (h : Int) : Nat := if rightB n = false then 3 else if handleB h = false then 1 else if hasE (rawE l (h - 1).toNat) = true then 0 else 5
theorem new_ans (n : Int) (w : World) : Calls Tryd.prog 10 #[.int .i64 n] w fun e w' => ∃ A' c', e = .returned (.tuple #[.slice A' (if rightB n = true then n.toNat else 0) c', errV (if rightB n = true then 0 else 1)]) ∧ Below w.heap.size w w' := by
  cases hr : rightB n with
  | false =>
    refine (new_e1 n w hr).mono ?_
    rintro e w' ⟨rfl, rfl⟩
    exact ⟨none, 0, rfl, Below.refl _ _⟩
  | true =>
    refine (new_ok n w hr).mono ?_
    rintro e w' ⟨g, rfl, _, _, hb⟩
    exact ⟨_, _, rfl, hb⟩
theorem iget_no (A : Option Addr) (n c : Nat) (l : Bytes) (k : Nat) (w : World) (hn : l.length = n) (hr : rightB n = true) (hnc : n ≤ c) (hrd : Rd w A l) (hk : k < 40) (hE : hasE (rawE l k) = false) :
    Calls Tryd.prog 25 #[.slice A n c, .int .i64 ((k : Int) + 1)] w fun e w' => e = .returned (.tuple #[entV 0 0 0 0, .iface 132 (.int .i64 5)]) ∧ Below w.heap.size w w' :=
  (iget_ok A n c l k w hn hr hnc hrd hk).mono fun _ _ h => ⟨h.2.1 hE, h.2.2⟩
end Go.Proofs.YtbcafgocachddaaDoor
