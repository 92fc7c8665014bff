/- The reference on images: copied, Wipe. -/
import Derived.Test.YtbcafgocachddaaDoorRefI1
import Derived.Test.YtbcafgocachddaaDoorRefM
namespace Go.Proofs.YtbcafgocachddaaDoor
open Go.RowKit

set_option maxRecDepth 100000 in
theorem refCopied_ok (p off n c : Nat) (l : Bytes) (w : World) (hn : l.length = n) (h1 : 1 ≤ n) (hl : n ≤ 140737488351232) (hr : Rd w (some ⟨p, off, none⟩) l) :
    Calls Tryd.prog 93 #[.slice (some ⟨p, off, none⟩) n c] w fun e w' => ∃ g cap, e = .returned (.slice (some ⟨g, 0, none⟩) n cap) ∧ w.heap.size ≤ g ∧ n ≤ cap ∧ Row w' 5 g cap l ∧ Below w.heap.size w w' := by
  obtain ⟨i0, hi0, hz0, hz1, hz2⟩ := info_parts byte_info
  go_enter Tryd.func93, Tryd.ntmps93
  go_wp2_with (at_builtin; refine wpList_append_own _ rfl (.tmp 4) (.tmp 5) _ rfl w.heap.size 5 i0 _ 1 1 Tryd.underlying22 hi0 hz0 hz1 hz2 rfl (by decide) (.slice none 0 0) 0 [] rfl (World.ownsRow_nil _ _ _ _) ⟨p, off, none⟩ n c (l.map bv) rfl (by simp; omega) hr.cells one_bv (by simp only [maxLen]; omega) (by omega) (Nat.le_refl _) ?_; intro v1 w1 hown1 hg1 hnn1)
  have hb1 : Below w.heap.size w w1 := (Below.refl _ _).grown hg1 (Nat.le_refl _) (fun k hk => by simp [Value.ownBlock] at hk)
  have hO : Own w1 w.heap.size 5 v1 l := by unfold Own; simpa [hn] using hown1
  have hne : v1 ≠ .slice none 0 0 := fun h => by
    subst h
    rcases hO.2 with ⟨_, h0⟩ | ⟨g, cap, cur, h, _⟩
    · omega
    · cases h
  obtain ⟨g, cap, hv, hbg, hrow⟩ := Row.of_own hO hne
  rw [hn] at hv
  subst hv
  have hcap := hrow.le.1
  clear hO hne hown1 hg1 hnn1
  go_ret
  exact ⟨g, cap, rfl, hbg, by omega, hrow, hb1⟩
set_option maxRecDepth 100000 in
theorem refWipe_ok (p off n c : Nat) (l : Bytes) (a m : Nat) (w : World) (hn : l.length = n) (h1 : 1 ≤ n) (hl : n ≤ 140737488351232) (hm : a + m ≤ n) (hr : Rd w (some ⟨p, off, none⟩) l) :
    Calls Tryd.prog 24 #[.slice (some ⟨p, off, none⟩) n c, .int .i64 (a : Int), .int .i64 (m : Int)] w fun e w' => ∃ g cap, e = .returned (.slice (some ⟨g, 0, none⟩) n cap) ∧ w.heap.size ≤ g ∧ n ≤ cap ∧ Row w' 5 g cap (splice l a (List.replicate m 0)) ∧ Below w.heap.size w w' := by
  go_enter Tryd.func24, Tryd.ntmps24
  go_wp2_with fail
  refine (refCopied_ok p off n c l _ hn h1 hl hr).mono ?_
  rintro e w1 ⟨g, cap, rfl, hg, hcap, hrow, hb1⟩
  have HZ : Hidden (∀ j, j < m → splice l a ((List.replicate m 0).take j) = splice l a ((List.replicate m 0).take j) ∧ (splice l a ((List.replicate m (0 : UInt8)).take j)).set (a + j) 0 = splice l a ((List.replicate m 0).take (j + 1))) := ⟨fun j hj => ⟨rfl, by
    have := splice_take_succ l (List.replicate m 0) a j (by simpa using hj) (by simp; omega)
    simpa using this⟩⟩
  have HL : Hidden (∀ j, j ≤ m → (splice l a ((List.replicate m 0).take j)).length = n) := ⟨fun j hj => by rw [splice_len _ _ _ (by simp; omega)]; exact hn⟩
  have HF : Hidden (splice l a ((List.replicate m 0).take m) = splice l a (List.replicate m 0)) := ⟨by rw [List.take_of_length_le (by simp)]⟩
  have hrow0 : Row w1 5 g cap (splice l a ((List.replicate m 0).take 0)) := by simpa [splice] using hrow
  generalize hS : (fun j => splice l a ((List.replicate m 0).take j)) = S at *
  have hSj : ∀ j, splice l a ((List.replicate m 0).take j) = S j := fun j => by rw [← hS]
  simp only [hSj] at HZ HL HF hrow0
  clear hS hSj hrow hr
  go_wp2_with fail
  go_loopg [8] m (fun q i wr => ∃ j : Nat, j ≤ m ∧ q = m - j ∧ i = .int .i64 (j : Int) ∧ Below w.heap.size w wr ∧ Row wr 5 g cap (S j))
  case atStart => exact ⟨0, by omega, rfl, rfl, hb1, hrow0⟩
  case round =>
    obtain ⟨j, hj, rfl, rfl, hbel, hrw⟩ := hrel
    by_cases hlt : j < m
    · have hsl := HL.out j hj
      have hcell := hrw.cell (a + j) (by omega)
      have hfr := hrw.frozen (a + j)
      have hst := hrw.store (a + j) (by omega) 0
      rw [(HZ.out j hlt).2] at hst
      have hbn := hbel.setCell (p := ⟨g, a + j, none⟩) hg (bv 0)
      have hbv : bv 0 = .int .u8 0 := rfl
      rw [hbv] at hst hbn
      have q1 : IntKind.i64.wrap ((a : Int) + j) = (a : Int) + j := IntWalk.i64_in _ (by omega)
      have k0 : (0 : Int) ≤ (a : Int) + j := by omega
      have k1 : (a : Int) + j < n := by omega
      have k2 : (j : Int) < m := by omega
      generalize (S j)[a + j] = u at hcell
      clear hbv hrw hsl
      go_wp2_with fail
      go_roundg (m - (j + 1))
      case measure => omega
      case rel => exact ⟨j + 1, by omega, rfl, by go_num, hbn, hst⟩
    · obtain rfl : j = m := by omega
      go_wp2_with fail
      go_ret
      exact ⟨g, cap, rfl, hg, hcap, HF.out ▸ hrw, hbel⟩
end Go.Proofs.YtbcafgocachddaaDoor
