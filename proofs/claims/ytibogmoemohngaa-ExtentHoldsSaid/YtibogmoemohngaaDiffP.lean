/- Plain facts on changes of bytes. No program in sight. -/
import Derived.Test.YtibogmoemohngaaBase
namespace Go.Proofs.Ytibogmoemohngaa

/-- a change: where, what stood there, what stands there then -/
structure Chg where
  at_ : Int
  old : Bytes
  new : Bytes

/-- how far two lists differ, from the first place on -/
def diffRun : Bytes → Bytes → Nat
  | x :: a, y :: b => if x = y then 0 else diffRun a b + 1
  | _, _ => 0
theorem diffRun_le (a b : Bytes) : diffRun a b ≤ a.length ∧ diffRun a b ≤ b.length := by
  induction a generalizing b with
  | nil => simp [diffRun]
  | cons x a ih =>
    cases b with
    | nil => simp [diffRun]
    | cons y b =>
      simp only [diffRun]
      have := ih b
      split <;> simp <;> omega
theorem diffRun_at (k : Nat) : ∀ (a b : Bytes), (∀ j, j < k → a[j]? ≠ b[j]?) → k ≤ a.length → k ≤ b.length → (k = a.length ∨ k = b.length ∨ a[k]? = b[k]?) → diffRun a b = k := by
  induction k with
  | zero =>
    intro a b _ _ _ h
    cases a with
    | nil => simp [diffRun]
    | cons x a =>
      cases b with
      | nil => simp [diffRun]
      | cons y b => simp at h; simp [diffRun, h]
  | succ k ih =>
    intro a b hne ha hb h
    cases a with
    | nil => simp at ha
    | cons x a =>
      cases b with
      | nil => simp at hb
      | cons y b =>
        have h0 := hne 0 (by omega)
        simp at h0
        have := ih a b (fun j hj => by have := hne (j + 1) (by omega); simpa using this) (by simpa using ha) (by simpa using hb) (by simpa using h)
        simp [diffRun, h0, this]
theorem diffRun_ne (a b : Bytes) (j : Nat) (h : j < diffRun a b) : a[j]? ≠ b[j]? := by
  induction a generalizing b j with
  | nil => simp [diffRun] at h
  | cons x a ih =>
    cases b with
    | nil => simp [diffRun] at h
    | cons y b =>
      simp only [diffRun] at h
      split at h
      · omega
      · rename_i hne
        cases j with
        | zero => simpa using hne
        | succ j => simpa using ih b j (by omega)
theorem diffRun_stop (a b : Bytes) (hl : a.length = b.length) (h : diffRun a b < a.length) : a[diffRun a b]? = b[diffRun a b]? := by
  induction a generalizing b with
  | nil => simp at h
  | cons x a ih =>
    cases b with
    | nil => simp at hl
    | cons y b =>
      simp only [diffRun] at h ⊢
      split
      · rename_i he; simp [he]
      · rename_i hne
        rw [if_neg hne] at h
        simpa using ih b (by simpa using hl) (by simpa using h)

/-- the run that begins at i -/
def runAt (a b : Bytes) (i : Nat) : Nat := diffRun (a.drop i) (b.drop i)
/-- the changes from i on; f: fuel -/
def diffF (a b : Bytes) : Nat → Nat → List Chg
  | 0, _ => []
  | f + 1, i =>
    if i < a.length then
      (if 0 < runAt a b i then [⟨i, (a.drop i).take (runAt a b i), (b.drop i).take (runAt a b i)⟩] else []) ++ diffF a b f (i + runAt a b i + 1)
    else []
theorem diffF_fuel (a b : Bytes) (f : Nat) : ∀ g i, a.length - i ≤ f → a.length - i ≤ g → diffF a b f i = diffF a b g i := by
  induction f with
  | zero =>
    intro g i hf hg
    cases g with
    | zero => rfl
    | succ g => simp only [diffF]; rw [if_neg (by omega)]
  | succ f ih =>
    intro g i hf hg
    cases g with
    | zero => simp only [diffF]; rw [if_neg (by omega)]
    | succ g =>
      simp only [diffF]
      split
      · rw [ih g _ (by omega) (by omega)]
      · rfl
/-- all changes -/
def diffL (a b : Bytes) : List Chg := diffF a b a.length 0
theorem diffF_step (a b : Bytes) (i : Nat) (h : i < a.length) : diffF a b (a.length - i) i =
    (if 0 < runAt a b i then [⟨i, (a.drop i).take (runAt a b i), (b.drop i).take (runAt a b i)⟩] else []) ++ diffF a b (a.length - (i + runAt a b i + 1)) (i + runAt a b i + 1) := by
  obtain ⟨f, hf⟩ : ∃ f, a.length - i = f + 1 := ⟨a.length - i - 1, by omega⟩
  rw [hf, diffF, if_pos h, diffF_fuel a b f (a.length - (i + runAt a b i + 1)) _ (by omega) (by omega)]
theorem runAt_le (a b : Bytes) (i : Nat) (hl : a.length = b.length) (hi : i ≤ a.length) : i + runAt a b i ≤ a.length := by
  have := (diffRun_le (a.drop i) (b.drop i)).1
  simp at this
  unfold runAt; omega
theorem runAt_ne (a b : Bytes) (i j : Nat) (h1 : i ≤ j) (h2 : j < i + runAt a b i) : a[j]? ≠ b[j]? := by
  have := diffRun_ne (a.drop i) (b.drop i) (j - i) (by unfold runAt at h2; omega)
  rw [List.getElem?_drop, List.getElem?_drop, show i + (j - i) = j from by omega] at this
  exact this
theorem runAt_stop (a b : Bytes) (i : Nat) (hl : a.length = b.length) (h : i + runAt a b i < a.length) : a[i + runAt a b i]? = b[i + runAt a b i]? := by
  have := diffRun_stop (a.drop i) (b.drop i) (by simp [hl]) (by unfold runAt at h; simp; omega)
  rw [List.getElem?_drop, List.getElem?_drop] at this
  exact this
/-- a walk that came to k has found the run -/
theorem runAt_at (a b : Bytes) (i k : Nat) (hl : a.length = b.length) (hik : i ≤ k) (hk : k ≤ a.length) (hne : ∀ j, i ≤ j → j < k → a[j]? ≠ b[j]?) (hstop : k = a.length ∨ a[k]? = b[k]?) : runAt a b i = k - i := by
  unfold runAt
  refine diffRun_at (k - i) _ _ (fun j hj => ?_) (by simp; omega) (by simp; omega) ?_
  · rw [List.getElem?_drop, List.getElem?_drop]; exact hne (i + j) (by omega) (by omega)
  · rcases hstop with h | h
    · left; simp; omega
    · right; right
      rw [List.getElem?_drop, List.getElem?_drop, show i + (k - i) = k from by omega]; exact h
end Go.Proofs.Ytibogmoemohngaa
