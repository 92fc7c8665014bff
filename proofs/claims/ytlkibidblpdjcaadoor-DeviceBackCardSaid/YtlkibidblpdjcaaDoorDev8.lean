/- A device under whatever writes: the plain words, and Write of whatever page. -/
import Derived.Test.YtlkibidblpdjcaaDoorDev7
import Derived.Test.YtlkibidblpdjcaaDoorOpen2
namespace Go.Proofs.YtlkibidblpdjcaaDoor
open Go.RowKit Go.Maps Go.ChangeMaps

/-- what a write makes of a device whose power stays -/
def wr1 (D : Dv) (num : Int) (b : Bytes) : Dv := if 0 ≤ num ∧ num < D.S.length ∧ b.length = 32 then stepD (putD D num.toNat b) else D
def wrs (D : Dv) : List (Int × Bytes) → Dv
  | [] => D
  | x :: r => wrs (wr1 D x.1 x.2) r
/-- the power is there, and stays -/
def Up (D : Dv) : Prop := D.left = -1 ∧ D.down = false
theorem wr1_up {D : Dv} (h : Up D) (num : Int) (b : Bytes) : Up (wr1 D num b) ∧ (wr1 D num b).S = D.S := by
  unfold wr1
  split
  · refine ⟨⟨?_, ?_⟩, rfl⟩
    · show max (-1) (D.left - 1) = -1
      rw [h.1]; decide
    · show (D.left == 0) = false
      rw [h.1]; decide
  · exact ⟨h, rfl⟩
theorem wrs_up : ∀ (L : List (Int × Bytes)) {D : Dv}, Up D → Up (wrs D L) ∧ (wrs D L).S = D.S
  | [], _, h => ⟨h, rfl⟩
  | x :: r, D, h => by
    have h1 := wr1_up h x.1 x.2
    have h2 := wrs_up r h1.1
    exact ⟨h2.1, h2.2.trans h1.2⟩
theorem wrs_snoc : ∀ (L : List (Int × Bytes)) (D : Dv) (x : Int × Bytes), wrs D (L ++ [x]) = wr1 (wrs D L) x.1 x.2
  | [], _, _ => rfl
  | y :: r, D, x => wrs_snoc r (wr1 D y.1 y.2) x
theorem up_flush {D : Dv} (h : Up D) : Up (flushD (stepD D)) ∧ (flushD (stepD D)).O = [] ∧ (flushD (stepD D)).S.length = D.S.length := by
  refine ⟨⟨?_, ?_⟩, rfl, by simp [flushD, stepD]⟩
  · show max (-1) (D.left - 1) = -1
    rw [h.1]; decide
  · show (D.left == 0) = false
    rw [h.1]; decide
section
variable {w0 w : World} {F : Nat → Prop} {d : Nat} {D : Dv}
theorem DevB.base {w1 : World} (h : DevB w1 w F d D) (hb : Below w0.heap.size w0 w1) : DevB w0 w F d D :=
  ⟨h.dev, fun k hk => Nat.le_trans hb.size (h.new k hk), hb.trans (h.bel.mono hb.size)⟩
theorem DevB.write_any (h : DevB w0 w F d D) (hu : Up D) (num : Int) (A : Option Addr) (c : Nat) (b : Bytes) (hrd : Rd w A b) (hAF : b.length = 32 → ∀ ad, A = some ad → ¬ F ad.block) :
    Calls Tryd.prog 11 #[.pointer (some ⟨d, 0, none⟩), .int .i64 num, .slice A b.length c] w fun e w' => ∃ err F', e = .returned err ∧ DevB w0 w' F' d (wr1 D num b) ∧ Keep F w w' ∧ ∀ k, F' k → F k ∨ w.heap.size ≤ k := by
  by_cases hr : num < 0 ∨ (D.S.length : Int) ≤ num
  · refine (h.write_e1 num A b.length c hr).mono ?_
    rintro e w' ⟨rfl, rfl⟩
    exact ⟨_, F, rfl, by unfold wr1; rw [if_neg (by omega)]; exact h, Keep.refl _ _, fun k hk => .inl hk⟩
  · obtain ⟨i, rfl⟩ : ∃ i : Nat, num = i := ⟨num.toNat, by omega⟩
    have hi : i < D.S.length := by omega
    by_cases hb : b.length = 32
    · rw [hb]
      refine (h.write i A c b hi hu.2 hb hrd (hAF hb)).mono ?_
      · rintro e w' ⟨rfl, F', hd, hk, hF⟩
        refine ⟨_, F', rfl, ?_, hk, hF⟩
        unfold wr1
        rw [if_pos ⟨by omega, by omega, hb⟩, Int.toNat_natCast]
        exact hd
    · refine (h.write_e3 i A b.length c hi hb).mono ?_
      rintro e w' ⟨rfl, rfl⟩
      exact ⟨_, F, rfl, by unfold wr1; rw [if_neg (fun hx => hb hx.2.2)]; exact h, Keep.refl _ _, fun k hk => .inl hk⟩
end
/-- where a sector stands among those that are pending -/
def atOf (O : List Nat) (i : Nat) : Nat → Int
  | 0 => -1
  | j + 1 => if O.getD j 0 = i then (j : Int) else atOf O i j
theorem atOf_lt (O : List Nat) (i : Nat) : ∀ j, -1 ≤ atOf O i j ∧ atOf O i j < j
  | 0 => by simp [atOf]
  | j + 1 => by
    have := atOf_lt O i j
    unfold atOf
    split <;> omega
theorem atOf_none (O : List Nat) (i : Nat) (h : i ∉ O) : ∀ j, j ≤ O.length → atOf O i j = -1
  | 0, _ => rfl
  | j + 1, hj => by
    unfold atOf
    have hjl : j < O.length := by omega
    rw [if_neg (fun e => h (by rw [← e]; simp [hjl])), atOf_none O i h j (by omega)]
theorem atOf_some (O : List Nat) (hn : O.Nodup) (a : Nat) (ha : a < O.length) : ∀ j, a < j → j ≤ O.length → atOf O O[a] j = a
  | 0, h, _ => by omega
  | j + 1, h, hj => by
    unfold atOf
    have hjl : j < O.length := by omega
    have hg : O.getD j 0 = O[j] := by simp [hjl]
    by_cases hja : j = a
    · subst hja; rw [if_pos hg]
    · rw [if_neg, atOf_some O hn a ha j (by omega) (by omega)]
      rw [hg]
      intro e
      rcases Nat.lt_or_gt_of_ne hja with h1 | h1
      · exact (List.pairwise_iff_getElem.1 hn) j a hjl ha h1 e
      · exact (List.pairwise_iff_getElem.1 hn) a j ha hjl h1 e.symm
theorem crashS_after (D : Dv) (keep : List Bool) (torn : Int) (c : Nat) (hn : D.O.Nodup) (a : Nat) (ha : a < D.O.length) (hin : D.O[a] < D.S.length) : ∀ k, a < k → k ≤ D.O.length → (crashS D keep torn c k)[D.O[a]]? = some (crash1 D keep torn c a)
  | 0, h, _ => by omega
  | k + 1, h, hk => by
    have hkl : k < D.O.length := by omega
    have hg : D.O.getD k 0 = D.O[k] := by simp [hkl]
    rw [crashS, hg]
    by_cases hka : k = a
    · subst hka
      rw [List.getElem?_set_self (by rw [crashS_len]; exact hin)]
    · rw [List.getElem?_set_ne, crashS_after D keep torn c hn a ha hin k (by omega) (by omega)]
      intro e
      rcases Nat.lt_or_gt_of_ne hka with h1 | h1
      · exact (List.pairwise_iff_getElem.1 hn) k a hkl ha h1 e
      · exact (List.pairwise_iff_getElem.1 hn) a k ha hkl h1 e.symm
/-- what is read behind a crash -/
theorem crash_read (D : Dv) (keep : List Bool) (torn : Int) (c i : Nat) (hn : D.O.Nodup) (hO : ∀ i ∈ D.O, i < D.S.length) :
    (i ∉ D.O → readD (crashD D keep torn c) i = D.S.getD i []) ∧ ∀ a, a < D.O.length → D.O[a]? = some i → readD (crashD D keep torn c) i = crash1 D keep torn c a := by
  have hr : readD (crashD D keep torn c) i = (crashS D keep torn c D.O.length).getD i [] := by unfold readD; rw [if_neg (by simp [crashD])]; rfl
  rw [hr]
  refine ⟨fun hi => ?_, fun a ha hai => ?_⟩
  · rw [List.getD_eq_getElem?_getD, crashS_old D keep torn c i D.O.length (fun j hj e => hi (by rw [← e]; simp [hj])), ← List.getD_eq_getElem?_getD]
  · obtain ⟨_, hai⟩ := List.getElem?_eq_some_iff.1 hai
    subst hai
    rw [List.getD_eq_getElem?_getD, crashS_after D keep torn c hn a ha (hO _ (List.getElem_mem ha)) D.O.length ha (Nat.le_refl _)]
    rfl
end Go.Proofs.YtlkibidblpdjcaaDoor
