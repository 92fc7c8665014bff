/- Plain words for what is wrong with an image, and what mending makes of it. No walk here. -/
import Derived.Test.YtibogmoemohngaaImg3
import Derived.Test.YtibogmoemohngaaDiffQ
namespace Go.Proofs.Ytibogmoemohngaa

/-- the five bytes of the handle k + 1 -/
def rawE (l : Bytes) (k : Nat) : Bytes := (l.drop (5 * k)).take 5
/-- the eleven bytes of a root -/
def rawR (l : Bytes) (i : Nat) : Bytes := (l.drop (200 + 11 * i)).take 11
def rHd (r : Bytes) : UInt8 := r.headD 0
def rAt (r : Bytes) : Nat := ofB ((r.drop 1).take 2)
def rLen (r : Bytes) : Nat := ofB ((r.drop 3).take 2)
def rTag (r : Bytes) : Int := ((rHd r).toNat : Int) - 1
def hasE (r : Bytes) : Bool := rHd r != 0
def strayE (n : Nat) (r : Bytes) : Bool := !(tagB (rTag r) && lenB (rLen r) && withinB n (rAt r) (rLen r))
def zeroE (r : Bytes) : Bool := !r.any nonZero
def overE (r s : Bytes) : Bool := decide (rAt r < rAt s + rLen s) && decide (rAt s < rAt r + rLen r)
def wholeE (n : Nat) (r : Bytes) : Bool := hasE r && !strayE n r

/-- a fault -/
structure Flt where
  what : Nat
  which : Nat
/-- what a handle is: 0: none; 1, 2, 3: a fault; 6: right -/
def kindH (n : Nat) (R : Nat → Bytes) (k : Nat) : Nat :=
  if hasE (R k) = true then (if strayE n (R k) = true then 1 else if (List.range k).any (fun j => wholeE n (R j) && overE (R k) (R j)) = true then 2 else 6)
  else (if zeroE (R k) = true then 0 else 3)
def fltOf (kind which : Nat) : List Flt := if kind = 0 ∨ kind = 6 then [] else [⟨kind, which⟩]
def faultsH (n : Nat) (R : Nat → Bytes) (m : Nat) : List Flt := (List.range m).flatMap fun k => fltOf (kindH n R k) (k + 1)
def leadsE (n : Nat) (R : Nat → Bytes) (x : UInt8) : Bool := (List.range 40).any fun k => kindH n R k == 6 && x.toNat == k + 1
def nmR (r : Bytes) : Bytes := nameAt (r.take 8)
def badR (leads : UInt8 → Bool) (r : Bytes) : Bool := !gotName (r.take 8) || r.getD 8 0 != 0 || r.getD 9 0 != 0 || !leads (r.getD 10 0)
def okR (leads : UInt8 → Bool) (r : Bytes) : Bool := !zeroE r && !badR leads r
/-- what a root is: 0: none; 4, 5: a fault; 6: right -/
def kindR (leads : UInt8 → Bool) (S : Nat → Bytes) (i : Nat) : Nat :=
  if zeroE (S i) = true then 0 else if badR leads (S i) = true then 4 else if (List.range i).any (fun j => okR leads (S j) && (nmR (S i) == nmR (S j))) = true then 5 else 6
def faultsR (leads : UInt8 → Bool) (S : Nat → Bytes) (m : Nat) : List Flt := (List.range m).flatMap fun i => fltOf (kindR leads S i) i
/-- what is wrong with an image -/
def checkL (l : Bytes) : List Flt := faultsH l.length (rawE l) 40 ++ faultsR (leadsE l.length (rawE l)) (rawR l) 8

theorem faultsH_succ (n : Nat) (R : Nat → Bytes) (m : Nat) : faultsH n R (m + 1) = faultsH n R m ++ fltOf (kindH n R m) (m + 1) := by
  simp [faultsH, List.range_succ]
theorem faultsR_succ (leads : UInt8 → Bool) (S : Nat → Bytes) (m : Nat) : faultsR leads S (m + 1) = faultsR leads S m ++ fltOf (kindR leads S m) m := by
  simp [faultsR, List.range_succ]
theorem fltOf_len (a b : Nat) : (fltOf a b).length ≤ 1 := by unfold fltOf; split <;> simp
theorem faultsH_len (n : Nat) (R : Nat → Bytes) (m : Nat) : (faultsH n R m).length ≤ m := by
  induction m with
  | zero => simp [faultsH]
  | succ m ih => rw [faultsH_succ, List.length_append]; have := fltOf_len (kindH n R m) (m + 1); omega
theorem faultsR_len (leads : UInt8 → Bool) (S : Nat → Bytes) (m : Nat) : (faultsR leads S m).length ≤ m := by
  induction m with
  | zero => simp [faultsR]
  | succ m ih => rw [faultsR_succ, List.length_append]; have := fltOf_len (kindR leads S m) m; omega
theorem kindH_cases (n : Nat) (R : Nat → Bytes) (k : Nat) : kindH n R k = 0 ∨ kindH n R k = 1 ∨ kindH n R k = 2 ∨ kindH n R k = 3 ∨ kindH n R k = 6 := by
  unfold kindH; repeat' split
  all_goals simp
theorem kindR_cases (leads : UInt8 → Bool) (S : Nat → Bytes) (k : Nat) : kindR leads S k = 0 ∨ kindR leads S k = 4 ∨ kindR leads S k = 5 ∨ kindR leads S k = 6 := by
  unfold kindR; repeat' split
  all_goals simp
theorem mem_fltOf {a b : Nat} {f : Flt} : f ∈ fltOf a b ↔ ¬ (a = 0 ∨ a = 6) ∧ f = ⟨a, b⟩ := by
  unfold fltOf; split <;> simp_all
theorem mem_checkL {l : Bytes} {f : Flt} : f ∈ checkL l ↔ (∃ k, k < 40 ∧ ¬ (kindH l.length (rawE l) k = 0 ∨ kindH l.length (rawE l) k = 6) ∧ f = ⟨kindH l.length (rawE l) k, k + 1⟩) ∨
    (∃ i, i < 8 ∧ ¬ (kindR (leadsE l.length (rawE l)) (rawR l) i = 0 ∨ kindR (leadsE l.length (rawE l)) (rawR l) i = 6) ∧ f = ⟨kindR (leadsE l.length (rawE l)) (rawR l) i, i⟩) := by
  simp only [checkL, List.mem_append, faultsH, faultsR, List.mem_flatMap, List.mem_range, mem_fltOf]

/-- the same handles, once what is wrong is 0 -/
theorem zeros_has : hasE (List.replicate 5 0) = false := by decide
theorem zeros_zero (n : Nat) : zeroE (List.replicate n 0) = true := by
  simp [zeroE, nonZero]
theorem kindH_after (n : Nat) (R R' : Nat → Bytes) (h : ∀ k, k < 40 → R' k = if kindH n R k = 0 ∨ kindH n R k = 6 then R k else List.replicate 5 0) (k : Nat) (hk : k < 40) :
    kindH n R' k = if kindH n R k = 6 then 6 else 0 := by
  have hz : kindH n R k ≠ 0 → kindH n R k ≠ 6 → kindH n R' k = 0 := fun h0 h6 => by
    have := h k hk
    rw [if_neg (by omega)] at this
    unfold kindH
    rw [this, zeros_has, zeros_zero]; simp
  rcases kindH_cases n R k with h0 | h0 | h0 | h0 | h0
  · rw [if_neg (by omega)]
    have hR := h k hk
    rw [if_pos (by omega)] at hR
    unfold kindH at h0 ⊢
    rw [hR]
    split at h0
    · repeat' split at h0
      all_goals simp at h0
    · rename_i hh
      rw [if_neg hh]
      split at h0
      · rename_i hz; rw [if_pos hz]
      · simp at h0
  · rw [if_neg (by omega)]; exact hz (by omega) (by omega)
  · rw [if_neg (by omega)]; exact hz (by omega) (by omega)
  · rw [if_neg (by omega)]; exact hz (by omega) (by omega)
  · rw [if_pos h0]
    have hR := h k hk
    rw [if_pos (by omega)] at hR
    unfold kindH at h0 ⊢
    rw [hR]
    split at h0
    · rename_i hh
      rw [if_pos hh]
      split at h0
      · simp at h0
      · rename_i hs
        rw [if_neg hs]
        split at h0
        · simp at h0
        · rename_i ha
          rw [if_neg]
          intro hx
          apply ha
          rw [List.any_eq_true] at hx ⊢
          obtain ⟨j, hj, hw⟩ := hx
          refine ⟨j, hj, ?_⟩
          have hj' : j < k := List.mem_range.1 hj
          have hRj := h j (by omega)
          split at hRj
          · rw [← hRj]; exact hw
          · rw [hRj] at hw; simp only [wholeE, zeros_has, Bool.false_and, Bool.false_eq_true] at hw
    · split at h0 <;> simp at h0
theorem leadsE_after (n : Nat) (R R' : Nat → Bytes) (h : ∀ k, k < 40 → kindH n R' k = if kindH n R k = 6 then 6 else 0) : leadsE n R' = leadsE n R := by
  funext x
  have : ∀ k ∈ List.range 40, (kindH n R' k == 6 && x.toNat == k + 1) = (kindH n R k == 6 && x.toNat == k + 1) := fun k hk => by
    rw [h k (List.mem_range.1 hk)]
    split
    · rename_i h6; rw [h6]
    · rename_i h6; simp [h6]
  unfold leadsE
  rw [Bool.eq_iff_iff, List.any_eq_true, List.any_eq_true]
  constructor
  · rintro ⟨k, hk, h⟩; exact ⟨k, hk, (this k hk) ▸ h⟩
  · rintro ⟨k, hk, h⟩; exact ⟨k, hk, (this k hk).symm ▸ h⟩
theorem kindR_after (leads : UInt8 → Bool) (S S' : Nat → Bytes) (h : ∀ i, i < 8 → S' i = if kindR leads S i = 0 ∨ kindR leads S i = 6 then S i else List.replicate 11 0) (i : Nat) (hi : i < 8) :
    kindR leads S' i = if kindR leads S i = 6 then 6 else 0 := by
  have hz : kindR leads S i ≠ 0 → kindR leads S i ≠ 6 → kindR leads S' i = 0 := fun h0 h6 => by
    have := h i hi
    rw [if_neg (by omega)] at this
    unfold kindR
    rw [this, zeros_zero]; simp
  rcases kindR_cases leads S i with h0 | h0 | h0 | h0
  · rw [if_neg (by omega)]
    have hS := h i hi
    rw [if_pos (by omega)] at hS
    unfold kindR at h0 ⊢
    rw [hS]
    split at h0
    · rename_i hh; rw [if_pos hh]
    · repeat' split at h0
      all_goals simp at h0
  · rw [if_neg (by omega)]; exact hz (by omega) (by omega)
  · rw [if_neg (by omega)]; exact hz (by omega) (by omega)
  · rw [if_pos h0]
    have hS := h i hi
    rw [if_pos (by omega)] at hS
    unfold kindR at h0 ⊢
    rw [hS]
    split at h0
    · simp at h0
    · rename_i hh
      rw [if_neg hh]
      split at h0
      · simp at h0
      · rename_i hb
        rw [if_neg hb]
        split at h0
        · simp at h0
        · rename_i ha
          rw [if_neg]
          intro hx
          apply ha
          rw [List.any_eq_true] at hx ⊢
          obtain ⟨j, hj, hw⟩ := hx
          refine ⟨j, hj, ?_⟩
          have hj' : j < i := List.mem_range.1 hj
          have hSj := h j (by omega)
          split at hSj
          · rw [← hSj]; exact hw
          · rw [hSj] at hw; simp only [okR, zeros_zero, Bool.not_true, Bool.false_and, Bool.false_eq_true] at hw

/-- where a fault's bytes lie -/
def fltO (f : Flt) : Nat := if f.what = 4 ∨ f.what = 5 then 200 + 11 * f.which else 5 * (f.which - 1)
def fltN (f : Flt) : Nat := if f.what = 4 ∨ f.what = 5 then 11 else 5
def clearF (l : Bytes) (f : Flt) : Bytes := splice l (fltO f) (List.replicate (fltN f) 0)
def clearAll (l : Bytes) (fs : List Flt) : Bytes := fs.foldl clearF l
def FltIn (n : Nat) (f : Flt) : Prop := fltO f + fltN f ≤ n
theorem splice_at (l x : Bytes) (o p : Nat) (h : o + x.length ≤ l.length) : (splice l o x)[p]? = if o ≤ p ∧ p < o + x.length then x[p - o]? else l[p]? := by
  split
  · rename_i hp
    have := splice_get l x o (p - o) h (by omega)
    rw [show o + (p - o) = p from by omega] at this
    exact this
  · exact (splice_same l x o p h (by omega)).symm
theorem clearF_len (l : Bytes) (f : Flt) (h : FltIn l.length f) : (clearF l f).length = l.length := by
  unfold clearF; exact length_splice _ _ _ (by rw [List.length_replicate]; exact h)
theorem clearAll_len (fs : List Flt) : ∀ l : Bytes, (∀ f ∈ fs, FltIn l.length f) → (clearAll l fs).length = l.length := by
  induction fs with
  | nil => intro l _; rfl
  | cons f fs ih =>
    intro l h
    have h1 := clearF_len l f (h f (by simp))
    show (clearAll (clearF l f) fs).length = _
    rw [ih _ (fun g hg => by rw [h1]; exact h g (by simp [hg])), h1]
def Cleared (fs : List Flt) (p : Nat) : Prop := ∃ f ∈ fs, fltO f ≤ p ∧ p < fltO f + fltN f
theorem clearAll_out (fs : List Flt) (p : Nat) (hp : ¬ Cleared fs p) : ∀ l : Bytes, (∀ f ∈ fs, FltIn l.length f) → (clearAll l fs)[p]? = l[p]? := by
  induction fs with
  | nil => intro l _; rfl
  | cons f fs ih =>
    intro l h
    have h1 := clearF_len l f (h f (by simp))
    show (clearAll (clearF l f) fs)[p]? = _
    rw [ih (fun ⟨g, hg, hh⟩ => hp ⟨g, by simp [hg], hh⟩) _ (fun g hg => by rw [h1]; exact h g (by simp [hg]))]
    unfold clearF
    rw [splice_at _ _ _ _ (by rw [List.length_replicate]; exact h f (by simp)), if_neg]
    rw [List.length_replicate]
    exact fun hh => hp ⟨f, by simp, hh⟩
theorem clearAll_zero (fs : List Flt) (p : Nat) : ∀ l : Bytes, (∀ f ∈ fs, FltIn l.length f) → l[p]? = some 0 → (clearAll l fs)[p]? = some 0 := by
  induction fs with
  | nil => intro l _ h; exact h
  | cons f fs ih =>
    intro l h hz
    have h1 := clearF_len l f (h f (by simp))
    show (clearAll (clearF l f) fs)[p]? = _
    refine ih _ (fun g hg => by rw [h1]; exact h g (by simp [hg])) ?_
    unfold clearF
    rw [splice_at _ _ _ _ (by rw [List.length_replicate]; exact h f (by simp))]
    split
    · rename_i hh; rw [List.length_replicate] at hh; rw [List.getElem?_replicate, if_pos (by omega)]
    · exact hz
theorem clearAll_in (fs : List Flt) (p : Nat) (hp : Cleared fs p) : ∀ l : Bytes, (∀ f ∈ fs, FltIn l.length f) → (clearAll l fs)[p]? = some 0 := by
  induction fs with
  | nil => obtain ⟨f, hf, _⟩ := hp; simp at hf
  | cons f fs ih =>
    intro l h
    have h1 := clearF_len l f (h f (by simp))
    have h2 : ∀ g ∈ fs, FltIn (clearF l f).length g := fun g hg => by rw [h1]; exact h g (by simp [hg])
    show (clearAll (clearF l f) fs)[p]? = _
    by_cases hc : Cleared fs p
    · exact ih hc _ h2
    · refine clearAll_zero fs p _ h2 ?_
      obtain ⟨g, hg, hh⟩ := hp
      rcases List.mem_cons.1 hg with rfl | hg
      · unfold clearF
        rw [splice_at _ _ _ _ (by rw [List.length_replicate]; exact h g (by simp)), if_pos (by rw [List.length_replicate]; exact hh), List.getElem?_replicate, if_pos (by omega)]
      · exact absurd ⟨g, hg, hh⟩ hc
/-- an image without what is wrong -/
def mendL (l : Bytes) : Bytes := clearAll l (checkL l)
theorem flt_in {l : Bytes} (hl : 288 ≤ l.length) {f : Flt} (hf : f ∈ checkL l) : FltIn l.length f := by
  unfold FltIn fltO fltN
  rcases mem_checkL.1 hf with ⟨k, hk, hn, rfl⟩ | ⟨i, hi, hn, rfl⟩
  · have := kindH_cases l.length (rawE l) k
    rw [if_neg (by simp only; omega), if_neg (by simp only; omega)]
    simp only; omega
  · have := kindR_cases (leadsE l.length (rawE l)) (rawR l) i
    rw [if_pos (by simp only; omega), if_pos (by simp only; omega)]
    simp only; omega
theorem mendL_len {l : Bytes} (hl : 288 ≤ l.length) : (mendL l).length = l.length := clearAll_len _ l (fun _ hf => flt_in hl hf)
theorem cleared_h {l : Bytes} {k q : Nat} (hk : k < 40) (hq : q < 5) : Cleared (checkL l) (5 * k + q) ↔ ¬ (kindH l.length (rawE l) k = 0 ∨ kindH l.length (rawE l) k = 6) := by
  constructor
  · rintro ⟨f, hf, h1, h2⟩
    unfold fltO fltN at *
    rcases mem_checkL.1 hf with ⟨k', hk', hn, rfl⟩ | ⟨i, hi, hn, rfl⟩
    · have := kindH_cases l.length (rawE l) k'
      rw [if_neg (by simp only; omega)] at h1 h2
      rw [if_neg (by simp only; omega)] at h2
      simp only at h1 h2
      obtain rfl : k' = k := by omega
      exact hn
    · have := kindR_cases (leadsE l.length (rawE l)) (rawR l) i
      rw [if_pos (by simp only; omega)] at h1 h2
      simp only at h1; omega
  · intro hn
    refine ⟨_, mem_checkL.2 (.inl ⟨k, hk, hn, rfl⟩), ?_⟩
    have := kindH_cases l.length (rawE l) k
    unfold fltO fltN
    rw [if_neg (by simp only; omega), if_neg (by simp only; omega)]
    simp only; omega
theorem cleared_r {l : Bytes} {i q : Nat} (hi : i < 8) (hq : q < 11) : Cleared (checkL l) (200 + 11 * i + q) ↔ ¬ (kindR (leadsE l.length (rawE l)) (rawR l) i = 0 ∨ kindR (leadsE l.length (rawE l)) (rawR l) i = 6) := by
  constructor
  · rintro ⟨f, hf, h1, h2⟩
    unfold fltO fltN at *
    rcases mem_checkL.1 hf with ⟨k', hk', hn, rfl⟩ | ⟨i', hi', hn, rfl⟩
    · have := kindH_cases l.length (rawE l) k'
      rw [if_neg (by simp only; omega)] at h1 h2
      rw [if_neg (by simp only; omega)] at h2
      simp only at h1 h2
      omega
    · have := kindR_cases (leadsE l.length (rawE l)) (rawR l) i'
      rw [if_pos (by simp only; omega)] at h1 h2
      rw [if_pos (by simp only; omega)] at h2
      simp only at h1 h2
      obtain rfl : i' = i := by omega
      exact hn
  · intro hn
    refine ⟨_, mem_checkL.2 (.inr ⟨i, hi, hn, rfl⟩), ?_⟩
    have := kindR_cases (leadsE l.length (rawE l)) (rawR l) i
    unfold fltO fltN
    rw [if_pos (by simp only; omega), if_pos (by simp only; omega)]
    simp only; omega
theorem mend_rawE {l : Bytes} (hl : 288 ≤ l.length) (k : Nat) (hk : k < 40) : rawE (mendL l) k = if kindH l.length (rawE l) k = 0 ∨ kindH l.length (rawE l) k = 6 then rawE l k else List.replicate 5 0 := by
  have hin : ∀ f ∈ checkL l, FltIn l.length f := fun _ hf => flt_in hl hf
  apply List.ext_getElem?
  intro q
  unfold rawE
  rw [List.getElem?_take, List.getElem?_drop]
  by_cases hq : q < 5
  · rw [if_pos hq]
    by_cases hc : kindH l.length (rawE l) k = 0 ∨ kindH l.length (rawE l) k = 6
    · have := clearAll_out (checkL l) (5 * k + q) (fun h => (cleared_h hk hq).1 h hc) l hin
      show (clearAll l (checkL l))[5 * k + q]? = _
      unfold rawE at *
      rw [this, if_pos hc, List.getElem?_take, if_pos hq, List.getElem?_drop]
    · have := clearAll_in (checkL l) (5 * k + q) ((cleared_h hk hq).2 hc) l hin
      show (clearAll l (checkL l))[5 * k + q]? = _
      unfold rawE at *
      rw [this, if_neg hc, List.getElem?_replicate, if_pos hq]
  · rw [if_neg hq]
    split
    · rw [List.getElem?_take, if_neg hq]
    · rw [List.getElem?_replicate, if_neg hq]
theorem mend_rawR {l : Bytes} (hl : 288 ≤ l.length) (i : Nat) (hi : i < 8) : rawR (mendL l) i = if kindR (leadsE l.length (rawE l)) (rawR l) i = 0 ∨ kindR (leadsE l.length (rawE l)) (rawR l) i = 6 then rawR l i else List.replicate 11 0 := by
  have hin : ∀ f ∈ checkL l, FltIn l.length f := fun _ hf => flt_in hl hf
  apply List.ext_getElem?
  intro q
  have hL : (rawR (mendL l) i)[q]? = if q < 11 then (clearAll l (checkL l))[200 + 11 * i + q]? else none := by
    unfold rawR mendL; rw [List.getElem?_take, List.getElem?_drop]
  have hR : (rawR l i)[q]? = if q < 11 then l[200 + 11 * i + q]? else none := by
    unfold rawR; rw [List.getElem?_take, List.getElem?_drop]
  rw [hL]
  by_cases hq : q < 11
  · rw [if_pos hq]
    by_cases hc : kindR (leadsE l.length (rawE l)) (rawR l) i = 0 ∨ kindR (leadsE l.length (rawE l)) (rawR l) i = 6
    · rw [clearAll_out (checkL l) (200 + 11 * i + q) (fun h => (cleared_r hi hq).1 h hc) l hin, if_pos hc, hR, if_pos hq]
    · rw [clearAll_in (checkL l) (200 + 11 * i + q) ((cleared_r hi hq).2 hc) l hin, if_neg hc, List.getElem?_replicate, if_pos hq]
  · rw [if_neg hq]
    split
    · rw [hR, if_neg hq]
    · rw [List.getElem?_replicate, if_neg hq]
theorem mend_kindH {l : Bytes} (hl : 288 ≤ l.length) (k : Nat) (hk : k < 40) : kindH (mendL l).length (rawE (mendL l)) k = if kindH l.length (rawE l) k = 6 then 6 else 0 := by
  rw [mendL_len hl]; exact kindH_after _ _ _ (fun k hk => mend_rawE hl k hk) k hk
theorem mend_leads {l : Bytes} (hl : 288 ≤ l.length) : leadsE (mendL l).length (rawE (mendL l)) = leadsE l.length (rawE l) := by
  rw [mendL_len hl]
  exact leadsE_after _ _ _ (fun k hk => by have := mend_kindH hl k hk; rwa [mendL_len hl] at this)
theorem mend_clean {l : Bytes} (hl : 288 ≤ l.length) : checkL (mendL l) = [] := by
  rw [List.eq_nil_iff_forall_not_mem]
  intro f hf
  rcases mem_checkL.1 hf with ⟨k, hk, hn, rfl⟩ | ⟨i, hi, hn, rfl⟩
  · apply hn
    rw [mend_kindH hl k hk]
    split <;> simp
  · apply hn
    rw [mend_leads hl, kindR_after _ _ _ (fun i hi => mend_rawR hl i hi) i hi]
    split <;> simp
theorem mend_id {l : Bytes} (h : checkL l = []) : mendL l = l := by unfold mendL; rw [h]; rfl
theorem mend_eq {l : Bytes} (hl : 288 ≤ l.length) : checkL l = [] ↔ mendL l = l :=
  ⟨mend_id, fun h => by have := mend_clean hl; rwa [h] at this⟩
theorem mend_rest {l : Bytes} (hl : 288 ≤ l.length) : (mendL l).drop 288 = l.drop 288 := by
  apply List.ext_getElem?
  intro p
  rw [List.getElem?_drop, List.getElem?_drop]
  refine clearAll_out _ _ ?_ l (fun _ hf => flt_in hl hf)
  rintro ⟨f, hf, h1, h2⟩
  unfold fltO at h1 h2
  unfold fltN at h2
  rcases mem_checkL.1 hf with ⟨k, hk, hn, rfl⟩ | ⟨i, hi, hn, rfl⟩
  · have := kindH_cases l.length (rawE l) k
    rw [if_neg (by simp only; omega), if_neg (by simp only; omega)] at h2
    simp only at h2; omega
  · have := kindR_cases (leadsE l.length (rawE l)) (rawR l) i
    rw [if_pos (by simp only; omega), if_pos (by simp only; omega)] at h2
    simp only at h2; omega
end Go.Proofs.Ytibogmoemohngaa
