/- The contract of stamp.Mix. -/
import Derived.Test.YtjganhikmkhmpaaDoorConcat1
import Derived.Deep.RegionWith
namespace Go.Proofs.YtjganhikmkhmpaaDoor
open Go.RowKit

theorem mix_e1 (A B : Option Addr) (c d : Nat) (cut : Int) (w : World) (h : cut < 0 ∨ 32 < cut) :
    Calls Tryd.prog 17 #[.slice A 32 c, .slice B 32 d, .int .i64 cut] w fun e w' => e = .returned (.tuple #[.slice none 0 0, .iface 135 (.int .i64 1)]) ∧ w = w' := by
  rcases h with h | h
  · go_enter Tryd.func17, Tryd.ntmps17
    go_wp2
    go_ret2
    exact ⟨rfl, rfl⟩
  · go_enter Tryd.func17, Tryd.ntmps17
    go_wp2
    go_ret2
    exact ⟨rfl, rfl⟩
set_option maxRecDepth 100000 in
theorem mix_ok (A B : Option Addr) (c d : Nat) (a b : Bytes) (cut : Int) (w : World) (ha : a.length = 32) (hb : b.length = 32) (hc : 32 ≤ c) (hd : 32 ≤ d) (hra : Rd w A a) (hrb : Rd w B b) (h0 : 0 ≤ cut) (h1 : cut ≤ 32) :
    Calls Tryd.prog 17 #[.slice A 32 c, .slice B 32 d, .int .i64 cut] w fun e w' => ∃ g cap, e = .returned (.tuple #[.slice (some ⟨g, 0, none⟩) 32 cap, .nilIface]) ∧ w.heap.size ≤ g ∧ Row w' 5 g cap (a.take cut.toNat ++ b.drop cut.toNat) ∧ Below w.heap.size w w' := by
  obtain ⟨k, rfl⟩ := Int.eq_ofNat_of_zero_le h0
  have hk : k ≤ 32 := by omega
  have hA := hra.take k (by omega)
  have hB := hrb.tail k d (by omega) (by omega)
  have hcat : ∀ (B' : Option Addr) (d' : Nat), Rd w B' (b.drop k) →
      Calls Tryd.prog 82 #[.slice (some ⟨w.heap.size, 0, none⟩) 2 2] (w.alloc (.cells #[.slice A k c, .slice B' (32 - k) d'] 22)).drew fun e w' => ∃ g cap, e = .returned (.slice (some ⟨g, 0, none⟩) 32 cap) ∧ w.heap.size ≤ g ∧ Row w' 5 g cap (a.take k ++ b.drop k) ∧ Below w.heap.size w w' := by
    intro B' d' hB'
    have hBW : Below w.heap.size w (w.alloc (.cells #[.slice A k c, .slice B' (32 - k) d'] 22)).drew := ((Below.refl _ _).alloc (Nat.le_refl _) _).drew
    refine (concat2 _ w.heap.size 0 2 A B' k (32 - k) c d' (a.take k) (b.drop k) (by simp; omega) (by simp; omega) (hA.below hBW) (hB'.below hBW) (World.cell?_alloc_mark w #[.slice A k c, .slice B' (32 - k) d'] 22 (0, 0) 0) (World.cell?_alloc_mark w #[.slice A k c, .slice B' (32 - k) d'] 22 (0, 0) 1) (by omega) (by omega)).mono ?_
    rintro e w' ⟨g, cap, rfl, hg, hrow, hbel⟩
    have hs : w.heap.size ≤ (w.alloc (.cells #[.slice A k c, .slice B' (32 - k) d'] 22)).drew.heap.size := hBW.size
    exact ⟨g, cap, by rw [show k + (32 - k) = 32 from by omega], Nat.le_trans hs hg, hrow, hBW.trans (hbel.mono hs)⟩
  by_cases hdk : d = k
  · rw [if_pos hdk] at hB
    have H := Hidden.mk (hcat B (d - k) hB)
    clear hcat
    subst hdk
    have hd32 : d = 32 := by omega
    subst hd32
    go_enter Tryd.func17, Tryd.ntmps17
    go_wp2_with fail
    go_region_with (go_at_call 82; refine H.out.mono ?_; rintro e w' ⟨g, cap, rfl, hg, hrow, hbel⟩)
    go_wp2
    go_ret2
    exact ⟨g, cap, rfl, hg, hrow, hbel⟩
  · rw [if_neg hdk] at hB
    have H := Hidden.mk (hcat _ (d - k) hB)
    clear hcat
    go_enter Tryd.func17, Tryd.ntmps17
    go_wp2_with fail
    go_region_with (go_at_call 82; refine H.out.mono ?_; rintro e w' ⟨g, cap, rfl, hg, hrow, hbel⟩)
    all_goals
      go_wp2
      go_ret2
      exact ⟨g, cap, rfl, hg, hrow, hbel⟩
end Go.Proofs.YtjganhikmkhmpaaDoor
