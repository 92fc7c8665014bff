/- NumBack: the walk. -/
import Derived.Test.YtpffnfggekomhaaStr3
import Derived.Test.YtpffnfggekomhaaNumLow1
namespace Go.Proofs.Ytpffnfggekomhaa
open Go.RowKit

theorem two_row (w : World) : Row (w.alloc (.cells #[.int .u8 1, .int .u8 2] 5)) 5 w.heap.size 2 [1, 2] :=
  ⟨_, heap_alloc_new w _, by simp, by simp [maxLen], by simp, rfl⟩
theorem two_get : getN [1, 2] 0 2 = 513 := by decide
theorem putB_take (l : Bytes) (a x s : Nat) (h : a + s ≤ l.length) : (putB l a x s).take a = l.take a := by
  unfold putB splice
  simp only [Int.toNat_natCast]
  rw [List.take_append_of_le_length (by simp; omega), List.take_take, Nat.min_self]
theorem putB_drop (l : Bytes) (a x s : Nat) (h : a + s ≤ l.length) : (putB l a x s).drop (a + s) = l.drop (a + s) := by
  unfold putB splice
  simp only [Int.toNat_natCast, numB_length]
  rw [← List.append_assoc, List.drop_append_of_le_length (by simp [numB_length]; omega), List.drop_of_length_le (by simp [numB_length]; omega), List.nil_append]
theorem nameB_len (s : Bytes) (h : isName s = true) : (nameB s).length = 8 := by
  have h8 : s.length ≤ 8 := by simp [isName] at h; omega
  simp [nameB]; omega
theorem nameB_back (s : Bytes) (h : isName s = true) : gotName (nameB s) = true ∧ nameAt (nameB s) = s := by
  have h8 : s.length ≤ 8 := by simp [isName] at h; omega
  have hz : (0 : UInt8) ∉ s := by
    intro h0
    simp only [isName, Bool.and_eq_true, Bool.not_eq_true', List.any_eq_false] at h
    exact h.2 0 h0 (by decide)
  have hi : (nameB s).idxOf 0 = s.length := by
    unfold nameB
    rw [List.idxOf_append, if_neg hz]
    rcases Nat.lt_or_ge s.length 8 with hlt | hge
    · obtain ⟨m, hm⟩ : ∃ m, 8 - s.length = m + 1 := ⟨7 - s.length, by omega⟩
      rw [hm, List.replicate_succ]
      simp
    · have : 8 - s.length = 0 := by omega
      simp [this]
  have h1 : nameAt (nameB s) = s := by unfold nameAt; rw [hi]; simp [nameB]
  have h2 : nameRest (nameB s) = List.replicate (8 - s.length) 0 := by unfold nameRest; rw [hi]; simp [nameB]
  refine ⟨?_, h1⟩
  unfold gotName
  rw [h1, h2, h]
  simp [nonZero]

set_option maxRecDepth 100000 in
theorem numBack_walk (A : Option Addr) (c : Nat) (l : Bytes) (at_ n size : Int) (s : Bytes) (w : World) (hc : l.length ≤ c) (hl : l.length ≤ 140737488351232) (hs : s.length ≤ 140737488351232) (hr : Rd w A l) :
    Calls Try.prog 7 #[.slice A l.length c, .int .i64 at_, .int .i64 n, .int .i64 size, sv s] w fun e w' => e = .returned (.bool true) ∧ Below w.heap.size w w' := by
  go_enter Try.func7, Try.ntmps7
  go_wp2_with fail
  refine (get_ok _ _ _ [1, 2] 0 2 _ rfl (by simp) (by simp [maxLen]) (two_row w).rd (by omega) (by omega) (by omega) (by simp)).mono ?_
  rintro e w1 ⟨rfl, rfl⟩
  rw [two_get]
  have hB1 : Below w.heap.size w (w.alloc (.cells #[.int .u8 1, .int .u8 2] 5)) := (Below.refl _ _).alloc (Nat.le_refl _) _
  have hr1 := hr.below hB1
  go_wp2_with fail
  generalize w.alloc (.cells #[.int .u8 1, .int .u8 2] 5) = w1 at hB1 hr1 ⊢
  by_cases hx : 1 ≤ size ∧ size ≤ 4 ∧ 0 ≤ n ∧ n ≤ mostN size
  · obtain ⟨hs1, hs4, hn0, hn⟩ := hx
    by_cases ha : at_ < 0 ∨ (l.length : Int) - size < at_
    · refine (put_e3 _ _ _ at_ n size _ (by simp only [maxLen]; omega) hs1 hs4 hn0 hn ha).mono ?_
      rintro e w2 ⟨rfl, rfl⟩
      cases hnm : isName s with
      | false =>
        go_wp2_with fail
        refine (putName_no s _ hs hnm).mono ?_
        rintro e w9 ⟨rfl, hb9⟩
        go_wp2_with fail
        go_ret
        exact ⟨rfl, hB1.trans (hb9.mono hB1.size)⟩
      | true =>
        have hgn := Hidden.mk (nameB_back s hnm)
        go_wp2_with fail
        refine (putName_ok s _ hnm).mono ?_
        rintro e w9 ⟨g, rfl, hg9, hrow9, hb9⟩
        have hB9 : Below w.heap.size w w9 := hB1.trans (hb9.mono hB1.size)
        go_wp2_with fail
        refine (getName_any _ 8 (nameB s) _ (nameB_len s hnm) (by omega) hrow9.rd).mono ?_
        rintro e w10 ⟨rfl, hb10⟩
        have hB10 : Below w.heap.size w w10 := hB9.trans (hb10.mono hB9.size)
        obtain ⟨hg1, hg2⟩ := hgn.out
        rw [if_pos hg1, hg2]
        clear hg1 hg2 hnm
        go_wp2_with fail
        go_ret
        exact ⟨rfl, hB10⟩
    · refine (put_ok _ _ _ l at_ n size _ rfl hl hr1 hs1 hs4 hn0 hn (by omega) (by omega)).mono ?_
      rintro e w2 ⟨p, pc, rfl, hp, hprow, hpb⟩
      have hB2 : Below w.heap.size w w2 := hB1.trans (hpb.mono hB1.size)
      have hr2 : Rd w2 A l := hr1.below hpb
      have hlen := putB_len' l at_ n size hs1 (by omega) (by omega)
      obtain ⟨a, rfl⟩ := Int.eq_ofNat_of_zero_le (show 0 ≤ at_ by omega)
      obtain ⟨k, rfl⟩ := Int.eq_ofNat_of_zero_le (show 0 ≤ size by omega)
      obtain ⟨x, rfl⟩ := Int.eq_ofNat_of_zero_le hn0
      have hpl := hprow.le
      have has : a + k ≤ l.length := by omega
      clear ha
      have hv : Hidden (getN (putB l a x k) a k = x) := ⟨(getN_putB l a x k k has (by omega)).trans (mod_most x k (by omega) (by omega) hn)⟩
      go_wp2_with fail
      refine (get_ok _ _ _ (putB l a x k) a k _ hlen (by omega) (by simp only [maxLen]; omega) hprow.rd (by omega) (by omega) (by omega) (by omega)).mono ?_
      rintro e w3 ⟨rfl, rfl⟩
      rw [hv.out]
      have c1 := fun nq => conv_text (w2.drewN nq) (some ⟨p, 0, none⟩) a pc (l.take a) (by simp; omega) (by have := (hprow.rd).take a (by omega); rw [putB_take l a x k has] at this; exact this)
      have c2 := fun nq => conv_text (w2.drewN nq) A a c (l.take a) (by simp; omega) (hr2.take a (by omega))
      have c3r : Rd w2 (if pc = a + k then some ⟨p, 0, none⟩ else some ⟨p, a + k, none⟩) (l.drop (a + k)) := by
        have := (hprow.rd).tail (a + k) pc (by omega) (by omega); rw [putB_drop l a x k has] at this; simpa [Addr.add_lit] using this
      have c3 := fun nq => conv_text (w2.drewN nq) (if pc = a + k then some ⟨p, 0, none⟩ else some ⟨p, a + k, none⟩) (l.length - (a + k)) (pc - (a + k)) (l.drop (a + k)) (by simp) (c3r.drewN nq)
      have c4 := fun nq => conv_text (w2.drewN nq) (if c = a + k then A else A.map (·.add (a + k))) (l.length - (a + k)) (c - (a + k)) (l.drop (a + k)) (by simp) (hr2.tail (a + k) c (by omega) hc)
      go_wp2_with fail
      go_quiet (fail)
      have hB3 := below_drewN hB2 nq
      clear c1 c2 c3 c4 c3r
      generalize (if pc = a + k then some (⟨p, 0, none⟩ : Addr) else some ⟨p, a + k, none⟩) = Ax
      generalize (if c = a + k then A else A.map (fun x => x.add (a + k))) = Ay
      cases hnm : isName s with
      | false =>
        go_wp2_with fail
        refine (putName_no s _ hs hnm).mono ?_
        rintro e w9 ⟨rfl, hb9⟩
        go_wp2_with fail
        go_ret
        exact ⟨rfl, hB3.trans (hb9.mono hB3.size)⟩
      | true =>
        have hgn := Hidden.mk (nameB_back s hnm)
        go_wp2_with fail
        refine (putName_ok s _ hnm).mono ?_
        rintro e w9 ⟨g, rfl, hg9, hrow9, hb9⟩
        have hB9 : Below w.heap.size w w9 := hB3.trans (hb9.mono hB3.size)
        go_wp2_with fail
        refine (getName_any _ 8 (nameB s) _ (nameB_len s hnm) (by omega) hrow9.rd).mono ?_
        rintro e w10 ⟨rfl, hb10⟩
        have hB10 : Below w.heap.size w w10 := hB9.trans (hb10.mono hB9.size)
        obtain ⟨hg1, hg2⟩ := hgn.out
        rw [if_pos hg1, hg2]
        clear hg1 hg2 hnm
        go_wp2_with fail
        go_ret
        exact ⟨rfl, hB10⟩
  · refine (put_e1 _ _ _ at_ n size _ hx).mono ?_
    rintro e w2 ⟨rfl, rfl⟩
    cases hnm : isName s with
    | false =>
      go_wp2_with fail
      refine (putName_no s _ hs hnm).mono ?_
      rintro e w9 ⟨rfl, hb9⟩
      go_wp2_with fail
      go_ret
      exact ⟨rfl, hB1.trans (hb9.mono hB1.size)⟩
    | true =>
      have hgn := Hidden.mk (nameB_back s hnm)
      go_wp2_with fail
      refine (putName_ok s _ hnm).mono ?_
      rintro e w9 ⟨g, rfl, hg9, hrow9, hb9⟩
      have hB9 : Below w.heap.size w w9 := hB1.trans (hb9.mono hB1.size)
      go_wp2_with fail
      refine (getName_any _ 8 (nameB s) _ (nameB_len s hnm) (by omega) hrow9.rd).mono ?_
      rintro e w10 ⟨rfl, hb10⟩
      have hB10 : Below w.heap.size w w10 := hB9.trans (hb10.mono hB9.size)
      obtain ⟨hg1, hg2⟩ := hgn.out
      rw [if_pos hg1, hg2]
      clear hg1 hg2 hnm
      go_wp2_with fail
      go_ret
      exact ⟨rfl, hB10⟩
end Go.Proofs.Ytpffnfggekomhaa
