/- CheckSame, the plain law: an image in which one byte behind the head is another one. No walk here. -/
import Derived.Test.YtmahnlkbbpbeoaaSame3
namespace Go.Proofs.Ytmahnlkbbpbeoaa
open Go.RowKit

theorem kindH_congr (n : Nat) (R R' : Nat → Bytes) (k : Nat) (h : ∀ j, j ≤ k → R j = R' j) : kindH n R k = kindH n R' k := by
  have h2 : (List.range k).any (fun j => wholeE n (R j) && overE (R k) (R j)) = (List.range k).any (fun j => wholeE n (R' j) && overE (R' k) (R' j)) := by
    rw [Bool.eq_iff_iff, List.any_eq_true, List.any_eq_true]
    constructor
    · rintro ⟨j, hj, hx⟩
      have := List.mem_range.1 hj
      exact ⟨j, hj, by rw [← h j (by omega), ← h k (Nat.le_refl _)]; exact hx⟩
    · rintro ⟨j, hj, hx⟩
      have := List.mem_range.1 hj
      exact ⟨j, hj, by rw [h j (by omega), h k (Nat.le_refl _)]; exact hx⟩
  unfold kindH
  rw [h2, h k (Nat.le_refl _)]
theorem kindR_congr (leads : UInt8 → Bool) (R R' : Nat → Bytes) (k : Nat) (h : ∀ j, j ≤ k → R j = R' j) : kindR leads R k = kindR leads R' k := by
  have h2 : (List.range k).any (fun j => okR leads (R j) && (nmR (R k) == nmR (R j))) = (List.range k).any (fun j => okR leads (R' j) && (nmR (R' k) == nmR (R' j))) := by
    rw [Bool.eq_iff_iff, List.any_eq_true, List.any_eq_true]
    constructor
    · rintro ⟨j, hj, hx⟩
      have := List.mem_range.1 hj
      exact ⟨j, hj, by rw [← h j (by omega), ← h k (Nat.le_refl _)]; exact hx⟩
    · rintro ⟨j, hj, hx⟩
      have := List.mem_range.1 hj
      exact ⟨j, hj, by rw [h j (by omega), h k (Nat.le_refl _)]; exact hx⟩
  unfold kindR
  rw [h2, h k (Nat.le_refl _)]
theorem faultsH_congr (n : Nat) (R R' : Nat → Bytes) : ∀ m, (∀ j, j < m → R j = R' j) → faultsH n R m = faultsH n R' m
  | 0, _ => rfl
  | m + 1, h => by rw [faultsH_succ, faultsH_succ, faultsH_congr n R R' m (fun j hj => h j (by omega)), kindH_congr n R R' m (fun j hj => h j (by omega))]
theorem faultsR_congr (leads : UInt8 → Bool) (R R' : Nat → Bytes) : ∀ m, (∀ j, j < m → R j = R' j) → faultsR leads R m = faultsR leads R' m
  | 0, _ => rfl
  | m + 1, h => by rw [faultsR_succ, faultsR_succ, faultsR_congr leads R R' m (fun j hj => h j (by omega)), kindR_congr leads R R' m (fun j hj => h j (by omega))]
theorem leadsE_congr (n : Nat) (R R' : Nat → Bytes) (h : ∀ j, j < 40 → R j = R' j) : leadsE n R = leadsE n R' := by
  funext x
  unfold leadsE
  rw [Bool.eq_iff_iff, List.any_eq_true, List.any_eq_true]
  constructor
  · rintro ⟨j, hj, hx⟩
    have := List.mem_range.1 hj
    exact ⟨j, hj, by rw [← kindH_congr n R R' j (fun i hi => h i (by omega))]; exact hx⟩
  · rintro ⟨j, hj, hx⟩
    have := List.mem_range.1 hj
    exact ⟨j, hj, by rw [kindH_congr n R R' j (fun i hi => h i (by omega))]; exact hx⟩
/-- the head alone says what is wrong -/
theorem head_rawE {l l' : Bytes} (h : l.take 288 = l'.take 288) (k : Nat) (hk : k < 40) : rawE l k = rawE l' k := by
  have e : ∀ x : Bytes, rawE x k = ((x.take 288).drop (5 * k)).take 5 := fun x => by
    unfold rawE; rw [List.drop_take, List.take_take]; congr 1; omega
  rw [e l, e l', h]
theorem head_rawR {l l' : Bytes} (h : l.take 288 = l'.take 288) (k : Nat) (hk : k < 8) : rawR l k = rawR l' k := by
  have e : ∀ x : Bytes, rawR x k = ((x.take 288).drop (200 + 11 * k)).take 11 := fun x => by
    unfold rawR; rw [List.drop_take, List.take_take]; congr 1; omega
  rw [e l, e l', h]
theorem head_check {l l' : Bytes} (h : l.take 288 = l'.take 288) (hl : l.length = l'.length) : checkL l = checkL l' := by
  unfold checkL
  rw [hl, faultsH_congr _ (rawE l) (rawE l') 40 (fun j hj => head_rawE h j hj), leadsE_congr _ (rawE l) (rawE l') (fun j hj => head_rawE h j hj), faultsR_congr _ (rawR l) (rawR l') 8 (fun j hj => head_rawR h j hj)]
theorem rootsF_congr (S S' : Nat → Bytes) : ∀ m, (∀ j, j < m → S j = S' j) → rootsF S m = rootsF S' m
  | 0, _ => rfl
  | m + 1, h => by rw [rootsF_succ, rootsF_succ, rootsF_congr S S' m (fun j hj => h j (by omega)), h m (by omega)]
theorem head_roots {l l' : Bytes} (h : l.take 288 = l'.take 288) : rootsL l = rootsL l' := rootsF_congr _ _ 8 (fun j hj => head_rawR h j hj)
/-- is a place within an entry's bytes? -/
def inE (k : Nat) (x : Int × Bytes) : Bool := decide (rAt x.2 ≤ k) && decide (k < rAt x.2 + rLen x.2)
theorem set_cut (l : Bytes) (k a s : Nat) (x : UInt8) : ((l.set k x).drop a).take s = if a ≤ k then ((l.drop a).take s).set (k - a) x else (l.drop a).take s := by
  rw [List.drop_set]
  by_cases h : k < a
  · rw [if_pos h, if_neg (by omega)]
  · rw [if_neg h, if_pos (by omega), List.take_set]
theorem obj_set (m : Bytes) (k j : Nat) (to : UInt8) (hk : k < m.length) (h288 : 288 ≤ k) (hj : j < 40) (hne : m.getD k 0 ≠ to) (hin : hasE (rawE m j) = true → rAt (rawE m j) + rLen (rawE m j) ≤ m.length) :
    (objL m j == objL (m.set k to) j) = !(hasE (rawE m j) && inE k (0, rawE m j)) := by
  have hh : m.take 288 = (m.set k to).take 288 := by rw [List.take_set, List.set_eq_of_length_le (by rw [List.length_take]; omega)]
  have he := head_rawE hh j hj
  unfold objL
  rw [← he]
  cases hE : hasE (rawE m j) with
  | false => simp
  | true =>
    have hin := hin hE
    generalize rawE m j = r at *
    simp only [if_true, Bool.true_and, objB, inE]
    rw [set_cut]
    by_cases h1 : rAt r ≤ k
    · rw [if_pos h1]
      by_cases h2 : k < rAt r + rLen r
      · simp only [h1, h2, decide_true, Bool.and_self, Bool.not_true]
        rw [beq_eq_false_iff_ne]
        intro e
        have e := (List.cons.inj e).2
        have : ((m.drop (rAt r)).take (rLen r))[k - rAt r]? = (((m.drop (rAt r)).take (rLen r)).set (k - rAt r) to)[k - rAt r]? := by rw [← e]
        rw [List.getElem?_set_self (by simp; omega), List.getElem?_take, if_pos (by omega), List.getElem?_drop, show rAt r + (k - rAt r) = k by omega] at this
        apply hne
        rw [List.getD_eq_getElem?_getD, this]; rfl
      · rw [List.set_eq_of_length_le (by simp; omega)]
        simp [h2]
    · rw [if_neg h1]
      simp [h1]
theorem same_set (m : Bytes) (k : Nat) (to : UInt8) (hk : k < m.length) (h288 : 288 ≤ k) (hne : m.getD k 0 ≠ to) (h0 : checkL m = []) :
    sameB m (m.set k to) = !((entriesL m).any (inE k)) ∧ checkL (m.set k to) = [] := by
  have hh : m.take 288 = (m.set k to).take 288 := by rw [List.take_set, List.set_eq_of_length_le (by rw [List.length_take]; omega)]
  refine ⟨?_, by rw [← head_check hh (by simp)]; exact h0⟩
  unfold sameB
  rw [← head_roots hh, leadsB_refl, Bool.and_true]
  unfold objsB entriesL entsL
  rw [List.any_map, List.any_filter]
  have hob : ∀ j, j < 40 → (objL m j == objL (m.set k to) j) = !(hasE (rawE m j) && inE k (0, rawE m j)) := fun j hj =>
    obj_set m k j to hk h288 hj hne (fun hE => by have := strayE_false (right_stray h0 j hj hE); omega)
  rw [Bool.eq_iff_iff, List.all_eq_true, Bool.not_eq_true', List.any_eq_false]
  constructor
  · intro hx j hj
    have h1 := hx j hj
    rw [hob j (List.mem_range.1 hj)] at h1
    have h2 : (hasE (rawE m j) && inE k (0, rawE m j)) = false := by
      cases hq : (hasE (rawE m j) && inE k (0, rawE m j)) with
      | false => rfl
      | true => rw [hq] at h1; cases h1
    rw [Bool.not_eq_true]
    exact h2
  · intro hx j hj
    have h1 := hx j hj
    rw [hob j (List.mem_range.1 hj)]
    rw [Bool.not_eq_true] at h1
    have h2 : (hasE (rawE m j) && inE k (0, rawE m j)) = false := h1
    rw [h2]; rfl
end Go.Proofs.Ytmahnlkbbpbeoaa
