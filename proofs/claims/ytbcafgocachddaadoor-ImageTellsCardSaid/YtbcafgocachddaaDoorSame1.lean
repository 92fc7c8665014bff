/- vaultsame.Entries and Roots of lists that are the same. -/
import Derived.Test.YtbcafgocachddaaDoorImageBack0
import Derived.Test.YtbcafgocachddaaDoorRefI5
import Derived.Deep.DeepCutAuto
namespace Go.Proofs.YtbcafgocachddaaDoor
open Go.RowKit

theorem ecells_len (x : Int × Bytes) : (ecells x).length = 4 := rfl
set_option maxRecDepth 100000 in
theorem sameEnts_eq (A B : Option Addr) (ca cb : Nat) (L : List (Int × Bytes)) (w : World) (hl : L.length ≤ 1000) (hA : RdX ecells 4 w A L) (hB : RdX ecells 4 w B L) :
    Calls Tryd.prog 16 #[.slice A L.length ca, .slice B L.length cb] w fun e w' => e = .returned (.bool true) ∧ Below w.heap.size w w' := by
  have HA := Hidden.mk hA
  have HB := Hidden.mk hB
  clear hA hB
  go_enter Tryd.func16, Tryd.ntmps16
  go_wp2_with fail
  go_loopg [5] L.length (fun m i wr => ∃ j : Nat, j ≤ L.length ∧ m = L.length - j ∧ i = .int .i64 (j : Int) ∧ Below w.heap.size w wr)
  case atStart => exact ⟨0, by omega, rfl, rfl, Below.refl _ _⟩
  case round =>
    obtain ⟨j, hj, rfl, rfl, hbel⟩ := hrel
    by_cases hlt : j < L.length
    · have hp' := (HA.out.below hbel) j hlt
      obtain ⟨p, off, rfl, hp'⟩ := hp'
      have hq' := (HB.out.below hbel) j hlt
      obtain ⟨q, oq, rfl, hq'⟩ := hq'
      have x0 := hp' 0 _ rfl
      have x1 := hp' 1 _ rfl
      have x2 := hp' 2 _ rfl
      have x3 := hp' 3 _ rfl
      have y0 := hq' 0 _ rfl
      have y1 := hq' 1 _ rfl
      have y2 := hq' 2 _ rfl
      have y3 := hq' 3 _ rfl
      rw [Nat.add_zero] at x0 y0
      generalize (L[j].1 : Int) = b0 at *
      generalize (rAt L[j].2 : Int) = b1 at *
      generalize (rLen L[j].2 : Int) = b2 at *
      generalize (rTag L[j].2 : Int) = b3 at *
      have k0 : (0 : Int) ≤ j := by omega
      have k1 : (j : Int) < L.length := by omega
      have HBL := Hidden.mk hbel
      clear hp' hq' hbel
      go_wp2_with fail
      go_quiet (fail)
      clear x0 x1 x2 x3 y0 y1 y2 y3
      have hbn := below_drewN HBL.out nq
      go_wp2_with fail
      go_roundg (L.length - (j + 1))
      case measure => omega
      case rel => exact ⟨j + 1, by omega, rfl, by go_num, hbn⟩
    · obtain rfl : j = L.length := by omega
      go_wp2_with fail
      go_ret
      exact ⟨rfl, hbel⟩
set_option maxRecDepth 100000 in
theorem sameRoots_eq (A B : Option Addr) (ca cb : Nat) (L : List (Bytes × Nat)) (w : World) (hl : L.length ≤ 1000) (hA : RdX rcells 2 w A L) (hB : RdX rcells 2 w B L) :
    Calls Tryd.prog 17 #[.slice A L.length ca, .slice B L.length cb] w fun e w' => e = .returned (.bool true) ∧ Below w.heap.size w w' := by
  have HA := Hidden.mk hA
  have HB := Hidden.mk hB
  clear hA hB
  go_enter Tryd.func17, Tryd.ntmps17
  go_wp2_with fail
  go_loopg [5] L.length (fun m i wr => ∃ j : Nat, j ≤ L.length ∧ m = L.length - j ∧ i = .int .i64 (j : Int) ∧ Below w.heap.size w wr)
  case atStart => exact ⟨0, by omega, rfl, rfl, Below.refl _ _⟩
  case round =>
    obtain ⟨j, hj, rfl, rfl, hbel⟩ := hrel
    by_cases hlt : j < L.length
    · have hp' := (HA.out.below hbel) j hlt
      obtain ⟨p, off, rfl, hp'⟩ := hp'
      have hq' := (HB.out.below hbel) j hlt
      obtain ⟨q, oq, rfl, hq'⟩ := hq'
      have x0 := hp' 0 _ rfl
      have x1 := hp' 1 _ rfl
      have y0 := hq' 0 _ rfl
      have y1 := hq' 1 _ rfl
      rw [Nat.add_zero] at x0 y0
      generalize L[j].1 = b0 at *
      generalize (L[j].2 : Int) = b1 at *
      have k0 : (0 : Int) ≤ j := by omega
      have k1 : (j : Int) < L.length := by omega
      have HBL := Hidden.mk hbel
      clear hp' hq' hbel
      go_wp2_with fail
      go_quiet (fail)
      clear x0 x1 y0 y1
      have hbn := below_drewN HBL.out nq
      go_wp2_with fail
      go_roundg (L.length - (j + 1))
      case measure => omega
      case rel => exact ⟨j + 1, by omega, rfl, by go_num, hbn⟩
    · obtain rfl : j = L.length := by omega
      go_wp2_with fail
      go_ret
      exact ⟨rfl, hbel⟩
end Go.Proofs.YtbcafgocachddaaDoor
