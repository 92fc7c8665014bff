/- The contracts of the reference's Number, Make and Open. -/
import Derived.Test.YtbcafgocachddaaDoorRowSet
import Derived.Test.YtbcafgocachddaaDoorStamp2
namespace Go.Proofs.YtbcafgocachddaaDoor
open Go.RowKit

theorem ofB_drop (l : Bytes) (j : Nat) (h : j < l.length) : ofB (l.drop j) = l[j].toNat + 256 * ofB (l.drop (j + 1)) := by
  rw [List.drop_eq_getElem_cons h]; rfl
theorem number_any (A : Option Addr) (n c : Nat) (l : Bytes) (w : World) (hn : l.length = n) (hl : n ≤ 4) (hr : Rd w A l) :
    Calls Tryd.prog 92 #[.slice A n c] w fun e w' => e = .returned (.int .i64 (ofB l)) ∧ w = w' := by
  subst hn
  have s0 : IntKind.i64.wrap ((l.length : Int) - 1) = (l.length : Int) - 1 := IntWalk.i64_in _ (by omega)
  go_enter Tryd.func92, Tryd.ntmps92
  go_wp2
  go_loop [3, 4] (fun n i => ∃ j : Nat, j ≤ l.length ∧ i = .int .i64 ((j : Int) - 1) ∧ n = .int .i64 (ofB (l.drop j))) (fun _ i => (intOf i + 1).toNat)
  case atStart => exact ⟨l.length, Nat.le_refl _, rfl, by simp [ofB]⟩
  case round =>
    obtain ⟨j, hj, rfl, rfl⟩ := hrel
    rcases j with _ | j
    · rw [show (((0 : Nat) : Int) - 1) = (-1 : Int) from rfl, List.drop_zero]
      go_wp2
      go_ret
      exact ⟨rfl, rfl⟩
    · rw [show (((j + 1 : Nat) : Int) - 1) = (j : Int) from by omega]
      obtain ⟨b, off, rfl, hc⟩ := hr j (by omega)
      have hd := ofB_drop l j (by omega)
      have h1 := ofB_lt (l.drop (j + 1))
      have hp : 2 ^ (8 * (l.drop (j + 1)).length) ≤ 16777216 := by
        have : (l.drop (j + 1)).length ≤ 3 := by simp; omega
        calc 2 ^ (8 * (l.drop (j + 1)).length) ≤ 2 ^ 24 := Nat.pow_le_pow_right (by omega) (by omega)
          _ = 16777216 := by decide
      have hx := u8_lt l[j]
      have HD := Hidden.mk hd
      generalize ofB (l.drop (j + 1)) = m at *
      generalize l[j] = x at *
      have s1 : IntKind.i64.wrap ((m : Int) * 256) = (m : Int) * 256 := IntWalk.i64_in _ (by omega)
      have s2 : IntKind.i64.wrap (x.toNat : Int) = (x.toNat : Int) := IntWalk.i64_in _ (by omega)
      have s3 : IntKind.i64.wrap ((m : Int) * 256 + (x.toNat : Int)) = (m : Int) * 256 + (x.toNat : Int) := IntWalk.i64_in _ (by omega)
      have s4 : IntKind.i64.wrap ((j : Int) - 1) = (j : Int) - 1 := IntWalk.i64_in _ (by omega)
      have k0 : (0 : Int) ≤ j := by omega
      have k1 : (j : Int) < l.length := by omega
      clear hd h1 hp
      go_wp2
      go_round
      case rel => exact ⟨j, by omega, rfl, by rw [HD.out]; exact int_i64 (by omega)⟩
      case measure => simp [intOf]

/-- what a stamp with a body is as a sector, and the fault -/
def makeF (st : Int) (b : Bytes) : Bytes × Nat := if st < 1 ∨ 4294967295 < st then ([], 1) else if 24 < b.length then ([], 4) else (makeB st.toNat b, 0)
/-- what a sector is: its stamp, its body, the fault -/
def openF (l : Bytes) : Nat × Bytes × Nat := if l.length ≠ 32 then (0, [], 3) else if l.take 4 ≠ l.drop 28 then (0, [], 6) else if stampOf l = 0 then (0, [], 5) else (stampOf l, bodyOf l, 0)
def mixF (a b : Bytes) (cut : Int) : Bytes × Nat := if a.length ≠ 32 ∨ b.length ≠ 32 then ([], 3) else if cut < 0 ∨ 32 < cut then ([], 1) else (a.take cut.toNat ++ b.drop cut.toNat, 0)

end Go.Proofs.YtbcafgocachddaaDoor
