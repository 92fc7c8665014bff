/- Plain words: what two images have alike. No walk here. -/
import Derived.Test.YtmahnlkbbpbeoaaChk7
import Derived.Test.YtmahnlkbbpbeoaaMapI
namespace Go.Proofs.Ytmahnlkbbpbeoaa
open Go.RowKit Go.Maps Go.ChangeMaps

/-- an object's tag and bytes; nothing: there is none -/
def objL (l : Bytes) (k : Nat) : Bytes := if hasE (rawE l k) = true then objB l (rawE l k) else []
/-- where a name leads, of a list -/
def leadN (L : List (Bytes × Nat)) (s : Bytes) : Option Nat := L.foldl (fun o x => if s = x.1 then some x.2 else o) none
def leadC (L : List (Bytes × Nat)) : Nat := (L.foldl (fun (p : List (Bytes × Nat) × Nat) x => (p.1 ++ [x], if (leadN p.1 x.1).isSome then p.2 else p.2 + 1)) ([], 0)).2
theorem leadN_snoc (L : List (Bytes × Nat)) (x : Bytes × Nat) (s : Bytes) : leadN (L ++ [x]) s = if s = x.1 then some x.2 else leadN L s := by
  unfold leadN; rw [List.foldl_append]; rfl
theorem leadC_fst (L : List (Bytes × Nat)) : ∀ (P : List (Bytes × Nat)) (n : Nat), (L.foldl (fun (p : List (Bytes × Nat) × Nat) x => (p.1 ++ [x], if (leadN p.1 x.1).isSome then p.2 else p.2 + 1)) (P, n)).1 = P ++ L := by
  induction L with
  | nil => intro P n; simp
  | cons x L ih => intro P n; rw [List.foldl_cons, ih]; simp
theorem leadC_snoc (L : List (Bytes × Nat)) (x : Bytes × Nat) : leadC (L ++ [x]) = if (leadN L x.1).isSome then leadC L else leadC L + 1 := by
  unfold leadC
  rw [List.foldl_append, List.foldl_cons, List.foldl_nil, leadC_fst]
  simp only [List.nil_append]
theorem snoc_ind {α : Type} {p : List α → Prop} (h0 : p []) (h1 : ∀ L x, p L → p (L ++ [x])) (L : List α) : p L := by
  rw [← List.reverse_reverse L]
  induction L.reverse with
  | nil => exact h0
  | cons x L ih => rw [List.reverse_cons]; exact h1 _ _ ih
theorem leadC_le (L : List (Bytes × Nat)) : leadC L ≤ L.length := by
  induction L using snoc_ind with
  | h0 => exact Nat.le_refl _
  | h1 L x ih => rw [leadC_snoc, List.length_append]; split <;> simp <;> omega
theorem leadN_mem {L : List (Bytes × Nat)} {s : Bytes} {h : Nat} (hs : leadN L s = some h) : (s, h) ∈ L := by
  induction L using snoc_ind with
  | h0 => cases hs
  | h1 L x ih =>
    rw [leadN_snoc] at hs
    split at hs
    · rename_i e
      obtain rfl := Option.some.inj hs
      subst e
      simp
    · exact List.mem_append_left _ (ih hs)
theorem leadN_has {L : List (Bytes × Nat)} {x : Bytes × Nat} (hx : x ∈ L) : (leadN L x.1).isSome = true := by
  induction L using snoc_ind with
  | h0 => cases hx
  | h1 L y ih =>
    rw [leadN_snoc]
    split
    · rfl
    · rename_i e
      rcases List.mem_append.1 hx with h | h
      · exact ih h
      · rw [List.mem_singleton.1 h] at e; exact absurd rfl e
/-- the values as the map holds them -/
def leadF (L : List (Bytes × Nat)) (s : Bytes) : Option Value := (leadN L s).map fun h => .int .i64 h
theorem leadF_snoc (L : List (Bytes × Nat)) (x : Bytes × Nat) : leadF (L ++ [x]) = upd (leadF L) x.1 (.int .i64 x.2) := by
  funext s
  unfold leadF upd
  rw [leadN_snoc]
  split <;> rfl
theorem leadF_isSome (L : List (Bytes × Nat)) (s : Bytes) : (leadF L s).isSome = (leadN L s).isSome := by
  unfold leadF; cases leadN L s <;> rfl
/-- do the names of two lists lead alike? -/
def leadsB (x y : List (Bytes × Nat)) : Bool := (x.all fun p => (leadN y p.1).getD 0 == (leadN x p.1).getD 0) && leadC x == leadC y
def objsB (a b : Bytes) : Bool := (List.range 40).all fun k => objL a k == objL b k
/-- have two images the same? -/
def sameB (a b : Bytes) : Bool := objsB a b && leadsB (rootsL a) (rootsL b)
theorem objsB_false {a b : Bytes} {k : Nat} (hk : k < 40) (h : objL a k ≠ objL b k) : sameB a b = false := by
  unfold sameB objsB
  rw [Bool.and_eq_false_iff]
  left
  rw [List.all_eq_false]
  exact ⟨k, List.mem_range.2 hk, by simpa using h⟩
theorem objsB_true {a b : Bytes} (h : ∀ k, k < 40 → objL a k = objL b k) : objsB a b = true := by
  unfold objsB
  rw [List.all_eq_true]
  intro k hk
  simpa using h k (List.mem_range.1 hk)
theorem leadsB_refl (x : List (Bytes × Nat)) : leadsB x x = true := by
  unfold leadsB; simp
theorem sameB_refl (a : Bytes) : sameB a a = true := by
  unfold sameB
  rw [objsB_true fun _ _ => rfl, leadsB_refl]; rfl
end Go.Proofs.Ytmahnlkbbpbeoaa
