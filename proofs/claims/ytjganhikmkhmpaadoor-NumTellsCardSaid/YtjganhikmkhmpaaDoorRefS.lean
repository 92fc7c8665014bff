/- The contracts of the reference's Number, Make and Open. -/
import Derived.Test.YtjganhikmkhmpaaDoorRowSet
import Derived.Test.YtjganhikmkhmpaaDoorStamp2
namespace Go.Proofs.YtjganhikmkhmpaaDoor
open Go.RowKit

theorem ofB_drop (l : Bytes) (j : Nat) (h : j < l.length) : ofB (l.drop j) = l[j].toNat + 256 * ofB (l.drop (j + 1)) := by
  rw [List.drop_eq_getElem_cons h]; rfl
theorem number_any (A : Option Addr) (n c : Nat) (l : Bytes) (w : World) (hn : l.length = n) (hl : n ≤ 4) (hr : Rd w A l) :
    Calls Tryd.prog 78 #[.slice A n c] w fun e w' => e = .returned (.int .i64 (ofB l)) ∧ w = w' := by
  subst hn
  have s0 : IntKind.i64.wrap ((l.length : Int) - 1) = (l.length : Int) - 1 := IntWalk.i64_in _ (by omega)
  go_enter Tryd.func78, Tryd.ntmps78
  go_wp2
  go_loop [3, 4] (fun n i => ∃ j : Nat, j ≤ l.length ∧ i = .int .i64 ((j : Int) - 1) ∧ n = .int .i64 (ofB (l.drop j))) (fun _ i => (intOf i + 1).toNat)
  case atStart => exact ⟨l.length, Nat.le_refl _, rfl, by simp [ofB]⟩
  case round =>
    obtain ⟨j, hj, rfl, rfl⟩ := hrel
    rcases j with _ | j
    · rw [show (((0 : Nat) : Int) - 1) = (-1 : Int) from rfl, List.drop_zero]
      go_wp2
      go_ret
      exact ⟨rfl, rfl⟩
    · rw [show (((j + 1 : Nat) : Int) - 1) = (j : Int) from by omega]
      obtain ⟨b, off, rfl, hc⟩ := hr j (by omega)
      have hd := ofB_drop l j (by omega)
      have h1 := ofB_lt (l.drop (j + 1))
      have hp : 2 ^ (8 * (l.drop (j + 1)).length) ≤ 16777216 := by
        have : (l.drop (j + 1)).length ≤ 3 := by simp; omega
        calc 2 ^ (8 * (l.drop (j + 1)).length) ≤ 2 ^ 24 := Nat.pow_le_pow_right (by omega) (by omega)
          _ = 16777216 := by decide
      have hx := u8_lt l[j]
      have HD := Hidden.mk hd
      generalize ofB (l.drop (j + 1)) = m at *
      generalize l[j] = x at *
      have s1 : IntKind.i64.wrap ((m : Int) * 256) = (m : Int) * 256 := IntWalk.i64_in _ (by omega)
      have s2 : IntKind.i64.wrap (x.toNat : Int) = (x.toNat : Int) := IntWalk.i64_in _ (by omega)
      have s3 : IntKind.i64.wrap ((m : Int) * 256 + (x.toNat : Int)) = (m : Int) * 256 + (x.toNat : Int) := IntWalk.i64_in _ (by omega)
      have s4 : IntKind.i64.wrap ((j : Int) - 1) = (j : Int) - 1 := IntWalk.i64_in _ (by omega)
      have k0 : (0 : Int) ≤ j := by omega
      have k1 : (j : Int) < l.length := by omega
      clear hd h1 hp
      go_wp2
      go_round
      case rel => exact ⟨j, by omega, rfl, by rw [HD.out]; exact int_i64 (by omega)⟩
      case measure => simp [intOf]

/-- what a stamp with a body is as a sector, and the fault -/
def makeF (st : Int) (b : Bytes) : Bytes × Nat := if st < 1 ∨ 4294967295 < st then ([], 1) else if 24 < b.length then ([], 4) else (makeB st.toNat b, 0)
/-- what a sector is: its stamp, its body, the fault -/
def openF (l : Bytes) : Nat × Bytes × Nat := if l.length ≠ 32 then (0, [], 3) else if l.take 4 ≠ l.drop 28 then (0, [], 6) else if stampOf l = 0 then (0, [], 5) else (stampOf l, bodyOf l, 0)
def mixF (a b : Bytes) (cut : Int) : Bytes × Nat := if a.length ≠ 32 ∨ b.length ≠ 32 then ([], 3) else if cut < 0 ∨ 32 < cut then ([], 1) else (a.take cut.toNat ++ b.drop cut.toNat, 0)

theorem make_any (st : Int) (A : Option Addr) (n c : Nat) (b : Bytes) (w : World) (hn : b.length = n) (hr : Rd w A b) :
    Calls Tryd.prog 13 #[.int .i64 st, .slice A n c] w fun e w' => ∃ A' c', e = .returned (.tuple #[.slice A' (makeF st b).1.length c', errV (makeF st b).2]) ∧ Rd w' A' (makeF st b).1 ∧ Below w.heap.size w w' := by
  unfold makeF
  by_cases h1 : st < 1 ∨ 4294967295 < st
  · rw [if_pos h1]
    refine (make_e1 st A n c w h1).mono ?_
    rintro e w' ⟨rfl, rfl⟩
    exact ⟨none, 0, rfl, Rd.nil_, Below.refl _ _⟩
  · rw [if_neg h1]
    by_cases h2 : 24 < b.length
    · rw [if_pos h2]
      refine (make_e4 st A n c w (by omega) (by omega) (by omega)).mono ?_
      rintro e w' ⟨rfl, rfl⟩
      exact ⟨none, 0, rfl, Rd.nil_, Below.refl _ _⟩
    · rw [if_neg h2]
      refine (make_ok st A n c b w hn (by omega) (by omega) (by omega) hr).mono ?_
      rintro e w' ⟨g, rfl, hg, hrow, hb⟩
      exact ⟨some ⟨g, 0, none⟩, 32, by rw [makeB_len _ _ (by omega)]; rfl, hrow.rd, hb⟩
theorem open_any (A : Option Addr) (n c : Nat) (l : Bytes) (w : World) (hn : l.length = n) (hc : n ≤ c) (hr : Rd w A l) :
    Calls Tryd.prog 16 #[.slice A n c] w fun e w' => ∃ A' c', e = .returned (.tuple #[.int .i64 (openF l).1, .slice A' (openF l).2.1.length c', errV (openF l).2.2]) ∧ Rd w' A' (openF l).2.1 ∧ Below w.heap.size w w' := by
  subst hn
  unfold openF
  by_cases h1 : l.length ≠ 32
  · rw [if_pos h1]
    refine (open_e3 A _ c w h1).mono ?_
    rintro e w' ⟨rfl, rfl⟩
    exact ⟨none, 0, rfl, Rd.nil_, Below.refl _ _⟩
  · rw [if_neg h1]
    have h32 : l.length = 32 := by omega
    rw [h32] at hc ⊢
    by_cases h2 : l.take 4 ≠ l.drop 28
    · rw [if_pos h2]
      refine (open_e6 A c l w h32 hc hr h2).mono ?_
      rintro e w' ⟨rfl, n, rfl⟩
      exact ⟨none, 0, rfl, Rd.nil_, below_drewN (Below.refl _ _) _⟩
    · rw [if_neg h2]
      have h2' : l.take 4 = l.drop 28 := Decidable.not_not.1 h2
      by_cases h3 : stampOf l = 0
      · rw [if_pos h3]
        refine (open_e5 A c l w h32 hc hr h2' h3).mono ?_
        rintro e w' ⟨rfl, n, rfl⟩
        exact ⟨none, 0, rfl, Rd.nil_, below_drewN (Below.refl _ _) _⟩
      · rw [if_neg h3]
        refine (open_ok A c l w h32 hc hr h2' h3).mono ?_
        rintro e w' ⟨g, cap, rfl, hg, hrow, hb⟩
        exact ⟨some ⟨g, 0, none⟩, cap, by rw [show (bodyOf l).length = 24 from by simp [bodyOf, h32]]; rfl, hrow.rd, hb⟩

set_option maxRecDepth 100000 in
theorem refOpen_any (A : Option Addr) (n c : Nat) (l : Bytes) (w : World) (hn : l.length = n) (hc : n ≤ c) (hr : Rd w A l) :
    Calls Tryd.prog 15 #[.slice A n c] w fun e w' => ∃ A' c', e = .returned (.tuple #[.int .i64 (openF l).1, .slice A' (openF l).2.1.length c', .int .i64 (openF l).2.2]) ∧ Rd w' A' (openF l).2.1 ∧ Below w.heap.size w w' := by
  unfold openF
  by_cases h1 : n = 32
  · subst h1
    rw [if_neg (by omega)]
    have hr1 := hr.take 4 (by omega)
    have hr2 := hr.cut 28 4 (by omega)
    have hr3 := hr.cut 4 24 (by omega)
    rw [List.take_of_length_le (by simp; omega)] at hr2
    obtain ⟨p, off, rfl, _⟩ := hr.lt (by omega)
    have e1 : (l.take 4).length = 4 := by simp; omega
    have e2 : (l.drop 28).length = 4 := by simp; omega
    have hb3 : (bodyOf l).length = 24 := by simp [bodyOf, hn]
    by_cases h2 : l.take 4 = l.drop 28
    · have H2 := Hidden.mk h2
      by_cases h3 : stampOf l = 0
      · rw [if_neg (by simpa using h2), if_pos h3]
        have H3 := Hidden.mk h3
        clear h2 h3
        go_enter Tryd.func15, Tryd.ntmps15
        go_wp2_with fail
        refine (number_any _ 4 _ (l.take 4) _ e1 (by omega) hr1).mono ?_
        rintro e w1 ⟨rfl, rfl⟩
        rw [show ofB (l.take 4) = 0 from H3.out]
        go_wp2_with fail
        refine (number_any _ 4 _ (l.drop 28) _ e2 (by omega) hr2).mono ?_
        rintro e w1 ⟨rfl, rfl⟩
        rw [← H2.out, show ofB (l.take 4) = 0 from H3.out]
        go_wp2_with fail
        go_ret3
        exact ⟨none, 0, rfl, Rd.nil_, Below.refl _ _⟩
      · rw [if_neg (by simpa using h2), if_neg h3]
        have t3 : ((stampOf l : Int) == 0) = false := by simp; omega
        clear h2 h3
        go_enter Tryd.func15, Tryd.ntmps15
        go_wp2_with fail
        refine (number_any _ 4 _ (l.take 4) _ e1 (by omega) hr1).mono ?_
        rintro e w1 ⟨rfl, rfl⟩
        rw [show ofB (l.take 4) = stampOf l from rfl]
        go_wp2_with fail
        refine (number_any _ 4 _ (l.drop 28) _ e2 (by omega) hr2).mono ?_
        rintro e w1 ⟨rfl, rfl⟩
        rw [← H2.out, show ofB (l.take 4) = stampOf l from rfl]
        go_wp2_with fail
        go_quiet (fail)
        go_wp2_with fail
        go_ret3
        exact ⟨some ⟨p, off + 4, none⟩, c - 4, by rw [hb3]; rfl, by simpa [Addr.add_lit, bodyOf] using hr3.drewN nq, below_drewN (Below.refl _ _) _⟩
    · rw [if_pos h2]
      have t2 : ((ofB (l.take 4) : Int) != (ofB (l.drop 28) : Int)) = true := by
        simp only [bne_iff_ne, ne_eq]
        intro h
        exact h2 (ofB_inj _ _ (by rw [e1, e2]) (by omega))
      clear h2
      go_enter Tryd.func15, Tryd.ntmps15
      go_wp2_with fail
      refine (number_any _ 4 _ (l.take 4) _ e1 (by omega) hr1).mono ?_
      rintro e w1 ⟨rfl, rfl⟩
      go_wp2_with fail
      refine (number_any _ 4 _ (l.drop 28) _ e2 (by omega) hr2).mono ?_
      rintro e w1 ⟨rfl, rfl⟩
      go_wp2_with fail
      go_ret3
      exact ⟨none, 0, rfl, Rd.nil_, Below.refl _ _⟩
  · rw [if_pos (by omega)]
    have t1 : ((n : Int) != 32) = true := by simp; omega
    clear h1
    go_enter Tryd.func15, Tryd.ntmps15
    go_wp2
    go_ret3
    exact ⟨none, 0, rfl, Rd.nil_, Below.refl _ _⟩
end Go.Proofs.YtjganhikmkhmpaaDoor
