/- Extents, the plain law: what is free between extents that are right. No walk here. -/
import Derived.Test.YtibogmoemohngaaExt4
namespace Go.Proofs.Ytibogmoemohngaa
open Go.RowKit

/-- behind each other, from a to n -/
def Tidy : Int → List Ext → Int → Prop
  | a, [], n => a ≤ n
  | a, e :: r, n => a ≤ e.1 ∧ 1 ≤ e.2 ∧ Tidy (e.1 + e.2) r n
theorem hitX_symm (e o : Ext) : hitX e o = hitX o e := by unfold hitX; rw [Bool.and_comm]
theorem chkX_pair {n : Int} {l : List Ext} (h : chkX n l = 0) : l.Pairwise (fun a b => hitX a b = false) := by
  obtain ⟨_, _, _, _, h5⟩ := chkX_ok h
  rw [List.pairwise_iff_getElem]
  intro i j hi hj hij
  have h2 := (h5 j hj).2
  rw [List.any_eq_false] at h2
  have hm : l[i] ∈ l.take j := by
    rw [List.mem_take_iff_getElem]
    exact ⟨i, by omega, rfl⟩
  have := h2 _ hm
  rw [hitX_symm]
  simpa using this
theorem loopX_of (n : Int) (l : List Ext) : ∀ k, k ≤ l.length → (∀ j (hj : j < l.length), j < k → badX n l[j] = false ∧ (l.take j).any (hitX l[j]) = false) → loopX n l k = 0
  | 0, _, _ => rfl
  | k + 1, hk, h => by
    have h0 := loopX_of n l k (by omega) (fun j hj hjk => h j hj (by omega))
    obtain ⟨h1, h2⟩ := h k (by omega) (by omega)
    rw [loopX, if_pos h0]
    have hg : l.getD k (0, 0) = l[k] := by simp [show k < l.length by omega]
    rw [hg]
    unfold faultX
    rw [h1, h2]; rfl
theorem chkX_of {n : Int} {l : List Ext} (h0 : 0 ≤ n) (h1 : n ≤ 6400) (h2 : l.length ≤ 200) (hb : ∀ e ∈ l, badX n e = false) (hp : l.Pairwise (fun a b => hitX a b = false)) : chkX n l = 0 := by
  unfold chkX
  rw [if_neg (by omega), if_neg (by omega)]
  refine loopX_of n l _ (Nat.le_refl _) fun j hj _ => ⟨hb _ (List.getElem_mem hj), ?_⟩
  rw [List.any_eq_false]
  intro x hx
  rw [List.mem_take_iff_getElem] at hx
  obtain ⟨i, hi, rfl⟩ := hx
  rw [List.pairwise_iff_getElem] at hp
  have := hp i j (by omega) hj (by omega)
  rw [hitX_symm]
  simpa using this
theorem badX_of {n : Int} {e : Ext} (h : 1 ≤ e.2 ∧ 0 ≤ e.1 ∧ e.1 + e.2 ≤ n) : badX n e = false := by
  unfold badX
  simp only [Bool.or_eq_false_iff, decide_eq_false_iff_not]
  omega
theorem hitX_false {e o : Ext} : hitX e o = false ↔ (o.1 + o.2 ≤ e.1 ∨ e.1 + e.2 ≤ o.1) := by
  unfold hitX
  simp only [Bool.and_eq_false_iff, decide_eq_false_iff_not]
  omega
theorem tidy_mk (n : Int) : ∀ (S : List Ext) (a : Int), (∀ e ∈ S, a ≤ e.1 ∧ 1 ≤ e.2 ∧ e.1 + e.2 ≤ n) → S.Pairwise (fun x y => x.1 + x.2 ≤ y.1) → a ≤ n → Tidy a S n
  | [], _, _, _, h => h
  | e :: r, a, hb, hp, _ => by
    obtain ⟨h1, h2, h3⟩ := hb e (List.mem_cons_self ..)
    rw [List.pairwise_cons] at hp
    exact ⟨h1, h2, tidy_mk n r _ (fun x hx => by have := hb x (List.mem_cons_of_mem _ hx); have := hp.1 x hx; omega) hp.2 (by omega)⟩
theorem tidy_of {n : Int} {l : List Ext} (h : chkX n l = 0) : Tidy 0 (sortE l) n := by
  obtain ⟨h0, h1, h2, _, h5⟩ := chkX_ok h
  have hbad : ∀ e ∈ sortE l, badX n e = false := fun e he => by
    obtain ⟨j, hj, rfl⟩ := List.getElem_of_mem ((sortE_perm l).mem_iff.1 he)
    exact (h5 j hj).1
  refine tidy_mk n _ 0 (fun e he => by have := badX_false (hbad e he); omega) ?_ h0
  have hp : (sortE l).Pairwise (fun a b => hitX a b = false) := ((sortE_perm l).pairwise_iff (fun {x y} h => by rw [hitX_symm]; exact h)).2 (chkX_pair h)
  rw [List.pairwise_iff_getElem] at hp ⊢
  have hs := sortE_sorted l
  rw [List.pairwise_iff_getElem] at hs
  intro i j hi hj hij
  have a1 := hitX_false.1 (hp i j hi hj hij)
  have a2 := hs i j hi hj hij
  have a3 := badX_false (hbad _ (List.getElem_mem hi))
  have a4 := badX_false (hbad _ (List.getElem_mem hj))
  omega
theorem tidy_le : ∀ {S : List Ext} {a n : Int}, Tidy a S n → a ≤ n
  | [], _, _, h => h
  | e :: r, a, n, ⟨h1, h2, h3⟩ => by have := tidy_le h3; omega
theorem tidy_mem : ∀ {S : List Ext} {a n : Int}, Tidy a S n → ∀ e ∈ S, a ≤ e.1 ∧ 1 ≤ e.2 ∧ e.1 + e.2 ≤ n
  | e :: r, a, n, ⟨h1, h2, h3⟩, x, hx => by
    rcases List.mem_cons.1 hx with rfl | hx
    · exact ⟨h1, h2, tidy_le h3⟩
    · have := tidy_mem h3 x hx; omega
theorem tidy_strict : ∀ {S : List Ext} {a n : Int}, Tidy a S n → S.Pairwise (fun x y => x.1 < y.1)
  | [], _, _, _ => List.Pairwise.nil
  | e :: r, a, n, ⟨h1, h2, h3⟩ => List.Pairwise.cons (fun x hx => by have := tidy_mem h3 x hx; omega) (tidy_strict h3)
/-- holes of a tidy list, with its end -/
def runsX (a : Int) (S : List Ext) (n : Int) : List Ext := holesGo a (S ++ [(n, 0)])
theorem runsX_nil (a n : Int) : runsX a [] n = if a < n then [(a, n - a)] else [] := by
  unfold runsX
  simp [holesGo]
theorem runsX_cons (a : Int) (e : Ext) (r : List Ext) (n : Int) : runsX a (e :: r) n = (if a < e.1 then [(a, e.1 - a)] else []) ++ runsX (e.1 + e.2) r n := rfl
theorem runs_mem : ∀ {S : List Ext} {a n : Int}, Tidy a S n → ∀ h ∈ runsX a S n, a ≤ h.1 ∧ 1 ≤ h.2 ∧ h.1 + h.2 ≤ n ∧ ∀ e ∈ S, h.1 + h.2 ≤ e.1 ∨ e.1 + e.2 ≤ h.1
  | [], a, n, ht, h, hh => by
    rw [runsX_nil] at hh
    split at hh
    · rw [List.mem_singleton.1 hh]
      dsimp only
      exact ⟨by omega, by omega, by omega, fun e he => by cases he⟩
    · cases hh
  | e :: r, a, n, ⟨h1, h2, h3⟩, h, hh => by
    rw [runsX_cons] at hh
    rcases List.mem_append.1 hh with hh | hh
    · split at hh
      · rw [List.mem_singleton.1 hh]
        have := tidy_le h3
        dsimp only
        refine ⟨by omega, by omega, by omega, fun x hx => .inl ?_⟩
        rcases List.mem_cons.1 hx with rfl | hx
        · omega
        · have := tidy_mem h3 x hx; omega
      · cases hh
    · obtain ⟨i1, i2, i3, i4⟩ := runs_mem h3 h hh
      refine ⟨by omega, i2, i3, fun x hx => ?_⟩
      rcases List.mem_cons.1 hx with rfl | hx
      · right; omega
      · exact i4 x hx
theorem runs_pair : ∀ {S : List Ext} {a n : Int}, Tidy a S n → (runsX a S n).Pairwise (fun x y => x.1 + x.2 ≤ y.1)
  | [], a, n, _ => by
    rw [runsX_nil]; split <;> simp
  | e :: r, a, n, ⟨h1, h2, h3⟩ => by
    rw [runsX_cons]
    have ih := runs_pair h3
    split
    · refine List.Pairwise.cons (fun x hx => ?_) ih
      have := runs_mem h3 x hx
      dsimp only
      omega
    · exact ih
theorem foldl_sum (l : List Ext) : ∀ s : Int, l.foldl (fun s e => s + e.2) s = s + l.foldl (fun s e => s + e.2) 0 := by
  induction l with
  | nil => intro s; simp
  | cons x l ih => intro s; rw [List.foldl_cons, ih, List.foldl_cons, ih (0 + x.2)]; omega
theorem sumX_cons (e : Ext) (l : List Ext) : sumX (e :: l) = e.2 + sumX l := by
  unfold sumX; rw [List.foldl_cons, foldl_sum]; omega
theorem sumX_append (l m : List Ext) : sumX (l ++ m) = sumX l + sumX m := by
  induction l with
  | nil => simp [sumX]
  | cons x l ih => rw [List.cons_append, sumX_cons, sumX_cons, ih]; omega
theorem sumX_perm {l m : List Ext} (h : l.Perm m) : sumX l = sumX m := by
  induction h with
  | nil => rfl
  | cons x _ ih => rw [sumX_cons, sumX_cons, ih]
  | swap x y l => rw [sumX_cons, sumX_cons, sumX_cons, sumX_cons]; omega
  | trans _ _ h1 h2 => rw [h1, h2]
theorem runs_sum : ∀ {S : List Ext} {a n : Int}, Tidy a S n → sumX S + sumX (runsX a S n) = n - a
  | [], a, n, h => by
    have : a ≤ n := h
    rw [runsX_nil]; split
    · rw [sumX_cons]; simp [sumX]
    · simp [sumX]; omega
  | e :: r, a, n, ⟨h1, h2, h3⟩ => by
    rw [runsX_cons, sumX_cons, sumX_append]
    have ih := runs_sum h3
    split
    · rw [sumX_cons]
      have : sumX [] = 0 := rfl
      dsimp only
      omega
    · have : sumX [] = 0 := rfl
      omega
/-- one more, where it fits -/
theorem runs_insert : ∀ {S : List Ext} {a n at_ L size : Int}, Tidy a S n → (at_, L) ∈ runsX a S n → 1 ≤ size → size ≤ L →
    ∃ S', S'.Perm ((at_, size) :: S) ∧ Tidy a S' n ∧ (runsX a S' n).length ≤ (runsX a S n).length ∧ ∀ h ∈ runsX a S' n, ∃ h' ∈ runsX a S n, h.2 ≤ h'.2
  | [], a, n, at_, L, size, ht, hm, h1, h2 => by
    rw [runsX_nil] at hm
    split at hm
    · rename_i hlt
      have he := List.mem_singleton.1 hm
      injection he with e1 e2
      subst e1 e2
      refine ⟨[(at_, size)], List.Perm.refl _, ⟨Int.le_refl _, h1, (by omega : at_ + size ≤ n)⟩, ?_, ?_⟩
      · rw [runsX_cons, runsX_nil, runsX_nil, if_neg (by dsimp only; omega), if_pos hlt]
        dsimp only
        split <;> simp
      · intro h hh
        rw [runsX_cons, runsX_nil, if_neg (by dsimp only; omega)] at hh
        dsimp only at hh
        split at hh
        · have hm' : h = (at_ + size, n - (at_ + size)) := by simpa using hh
          rw [hm', runsX_nil, if_pos hlt]
          exact ⟨_, List.mem_singleton.2 rfl, by dsimp only; omega⟩
        · simp at hh
    · cases hm
  | e :: r, a, n, at_, L, size, ⟨t1, t2, t3⟩, hm, h1, h2 => by
    rw [runsX_cons] at hm
    rcases List.mem_append.1 hm with hm | hm
    · split at hm
      · rename_i hlt
        have he := List.mem_singleton.1 hm
        injection he with e1 e2
        subst e1 e2
        refine ⟨(at_, size) :: e :: r, List.Perm.refl _, ⟨Int.le_refl _, h1, (by dsimp only; omega), t2, t3⟩, ?_, ?_⟩
        · rw [runsX_cons, runsX_cons, runsX_cons, if_neg (by dsimp only; omega), if_pos hlt]
          dsimp only
          split <;> simp
        · intro h hh
          rw [runsX_cons, runsX_cons, if_neg (by dsimp only; omega)] at hh
          dsimp only at hh
          rw [runsX_cons, if_pos hlt]
          rw [List.nil_append] at hh
          rcases List.mem_append.1 hh with hh | hh
          · split at hh
            · rw [List.mem_singleton.1 hh]
              exact ⟨_, List.mem_cons_self .., by dsimp only; omega⟩
            · cases hh
          · exact ⟨h, List.mem_cons_of_mem _ hh, Int.le_refl _⟩
      · cases hm
    · obtain ⟨S', p1, p2, p3, p4⟩ := runs_insert t3 hm h1 h2
      refine ⟨e :: S', (List.Perm.cons e p1).trans (List.Perm.swap _ _ _), ⟨t1, t2, p2⟩, ?_, ?_⟩
      · rw [runsX_cons, runsX_cons, List.length_append, List.length_append]; omega
      · intro h hh
        rw [runsX_cons] at hh ⊢
        rcases List.mem_append.1 hh with hh | hh
        · exact ⟨h, List.mem_append_left _ hh, Int.le_refl _⟩
        · obtain ⟨h', m1, m2⟩ := p4 h hh
          exact ⟨h', List.mem_append_right _ m1, m2⟩
theorem sortE_unique {l S : List Ext} {a n : Int} (hp : S.Perm l) (ht : Tidy a S n) : sortE l = S := by
  have h1 : (sortE l).Perm S := (sortE_perm l).trans hp.symm
  have hs := tidy_strict ht
  refine List.Perm.eq_of_pairwise (le := fun x y : Ext => x.1 ≤ y.1) (fun x y hx hy h h' => ?_) (sortE_sorted l) (hs.imp fun h => Int.le_of_lt h) h1
  have hx' : x ∈ S := h1.mem_iff.1 hx
  obtain ⟨i, hi, rfl⟩ := List.getElem_of_mem hx'
  obtain ⟨j, hj, rfl⟩ := List.getElem_of_mem hy
  rw [List.pairwise_iff_getElem] at hs
  rcases Nat.lt_trichotomy i j with hij | rfl | hij
  · have := hs i j hi hj hij; omega
  · rfl
  · have := hs j i hj hi hij; omega
theorem bestX_snoc (size : Int) (H : List Ext) (x : Ext) : bestX size (H ++ [x]) = if size ≤ x.2 ∧ ((bestX size H).2 = 0 ∨ x.2 < (bestX size H).2) then x else bestX size H := by
  unfold bestX; rw [List.foldl_append]; rfl
theorem snocE {p : List Ext → Prop} (h0 : p []) (h1 : ∀ L x, p L → p (L ++ [x])) (L : List Ext) : p L := by
  rw [← List.reverse_reverse L]
  induction L.reverse with
  | nil => exact h0
  | cons x L ih => rw [List.reverse_cons]; exact h1 _ _ ih
theorem best_inv (size : Int) (h1 : 1 ≤ size) (H : List Ext) : (bestX size H = (0, 0) ∧ ∀ h ∈ H, h.2 < size) ∨ (bestX size H ∈ H ∧ size ≤ (bestX size H).2 ∧ ∀ h ∈ H, size ≤ h.2 → (bestX size H).2 ≤ h.2) := by
  induction H using snocE with
  | h0 => exact .inl ⟨rfl, fun h hh => by cases hh⟩
  | h1 L x ih =>
    rw [bestX_snoc]
    rcases ih with ⟨e, hall⟩ | ⟨hm, hs, hall⟩
    · rw [e]
      by_cases hx : size ≤ x.2
      · rw [if_pos ⟨hx, .inl rfl⟩]
        refine .inr ⟨by simp, hx, fun h hh hsz => ?_⟩
        rcases List.mem_append.1 hh with hh | hh
        · have := hall h hh; omega
        · rw [List.mem_singleton.1 hh]; exact Int.le_refl _
      · rw [if_neg (fun h => hx h.1)]
        refine .inl ⟨rfl, fun h hh => ?_⟩
        rcases List.mem_append.1 hh with hh | hh
        · exact hall h hh
        · rw [List.mem_singleton.1 hh]; omega
    · by_cases hx : size ≤ x.2 ∧ ((bestX size L).2 = 0 ∨ x.2 < (bestX size L).2)
      · rw [if_pos hx]
        refine .inr ⟨by simp, hx.1, fun h hh hsz => ?_⟩
        rcases List.mem_append.1 hh with hh | hh
        · have := hall h hh hsz; omega
        · rw [List.mem_singleton.1 hh]; exact Int.le_refl _
      · rw [if_neg hx]
        refine .inr ⟨List.mem_append_left _ hm, hs, fun h hh hsz => ?_⟩
        rcases List.mem_append.1 hh with hh | hh
        · exact hall h hh hsz
        · rw [List.mem_singleton.1 hh] at hsz ⊢; omega
section
variable {n : Int} {l : List Ext}
theorem holes_runs (n : Int) (l : List Ext) : holesX n l = runsX 0 (sortE l) n := rfl
theorem holes_mem (h : chkX n l = 0) : ∀ x ∈ holesX n l, 0 ≤ x.1 ∧ 1 ≤ x.2 ∧ x.1 + x.2 ≤ n ∧ ∀ e ∈ l, x.1 + x.2 ≤ e.1 ∨ e.1 + e.2 ≤ x.1 := fun x hx => by
  obtain ⟨i1, i2, i3, i4⟩ := runs_mem (tidy_of h) x hx
  exact ⟨i1, i2, i3, fun e he => i4 e ((sortE_perm l).mem_iff.2 he)⟩
theorem holds_sum (h : chkX n l = 0) : sumX l + sumX (holesX n l) = n := by
  have h1 := runs_sum (tidy_of h)
  rw [sumX_perm (sortE_perm l)] at h1
  rw [holes_runs]; omega
theorem holds_bad (h : chkX n l = 0) : ∀ e ∈ l, badX n e = false := fun e he => by
  obtain ⟨_, _, _, _, h5⟩ := chkX_ok h
  obtain ⟨j, hj, rfl⟩ := List.getElem_of_mem he
  exact (h5 j hj).1
theorem holds_chk (h : chkX n l = 0) (hl : (l ++ holesX n l).length ≤ 200) : chkX n (l ++ holesX n l) = 0 := by
  obtain ⟨h0, h1, _, _, _⟩ := chkX_ok h
  have hm := holes_mem h
  refine chkX_of h0 h1 hl (fun e he => ?_) ?_
  · rcases List.mem_append.1 he with he | he
    · exact holds_bad h e he
    · have := hm e he; exact badX_of (by omega)
  · rw [List.pairwise_append]
    refine ⟨chkX_pair h, (runs_pair (tidy_of h)).imp fun hxy => hitX_false.2 (.inr hxy), fun e he x hx => ?_⟩
    have := (hm x hx).2.2.2 e he
    exact hitX_false.2 (by omega)
theorem more_chk (h : chkX n l = 0) {at_ L size : Int} (hm : (at_, L) ∈ holesX n l) (h1 : 1 ≤ size) (h2 : size ≤ L) (hl : l.length + 1 ≤ 200) : chkX n (l ++ [(at_, size)]) = 0 ∧ chkX n ((at_, size) :: l) = 0 := by
  obtain ⟨o0, o1, _, _, _⟩ := chkX_ok h
  obtain ⟨m1, m2, m3, m4⟩ := holes_mem h _ hm
  dsimp only at m1 m2 m3 m4
  have hb : ∀ e ∈ (at_, size) :: l, badX n e = false := fun e he => by
    rcases List.mem_cons.1 he with rfl | he
    · exact badX_of (by dsimp only; omega)
    · exact holds_bad h e he
  have hx : ∀ e ∈ l, hitX (at_, size) e = false := fun e he => hitX_false.2 (by have := m4 e he; dsimp only; omega)
  constructor
  · refine chkX_of o0 o1 (by simp; omega) (fun e he => hb e (by simp at he ⊢; rcases he with h | h; exact .inr h; exact .inl h)) ?_
    rw [List.pairwise_append]
    refine ⟨chkX_pair h, by simp, fun e he x hx' => ?_⟩
    rw [List.mem_singleton.1 hx', hitX_symm]
    exact hx e he
  · refine chkX_of o0 o1 (by simp; omega) hb ?_
    exact List.Pairwise.cons hx (chkX_pair h)
theorem fit_none (h : chkX n l = 0) {size : Int} (hf : fitE n l size ≠ 0) : ∀ x ∈ holesX n l, 1 ≤ size → x.2 < size := fun x hx hs => by
  obtain ⟨o0, o1, _, _, _⟩ := chkX_ok h
  have hm := holes_mem h x hx
  unfold fitE at hf
  rw [if_pos h] at hf
  by_cases h1 : size < 1 ∨ 6400 < size
  · omega
  · rw [if_neg h1] at hf
    rcases best_inv size hs (holesX n l) with ⟨e, hall⟩ | ⟨_, h2, _⟩
    · exact hall x hx
    · rw [if_neg (by omega)] at hf; exact absurd rfl hf
theorem fit_some (h : chkX n l = 0) {size : Int} (hf : fitE n l size = 0) : ∃ L, (fitA n l size, L) ∈ holesX n l ∧ 1 ≤ size ∧ size ≤ L ∧ (∀ x ∈ holesX n l, size ≤ x.2 → L ≤ x.2) ∧ (∀ x ∈ holesX n l, x.1 = fitA n l size → x.2 = L) := by
  have hA : fitA n l size = (bestX size (holesX n l)).1 := by unfold fitA; rw [if_pos hf]
  unfold fitE at hf
  rw [if_pos h] at hf
  by_cases h1 : size < 1 ∨ 6400 < size
  · rw [if_pos h1] at hf; cases hf
  · rw [if_neg h1] at hf
    have hs : 1 ≤ size := by omega
    rcases best_inv size hs (holesX n l) with ⟨e, _⟩ | ⟨hm, h2, h3⟩
    · rw [e] at hf; cases hf
    · refine ⟨(bestX size (holesX n l)).2, by rw [hA]; exact hm, hs, h2, h3, fun x hx hxa => ?_⟩
      rw [hA] at hxa
      have hp := runs_pair (tidy_of h)
      rw [← holes_runs, List.pairwise_iff_getElem] at hp
      obtain ⟨i, hi, rfl⟩ := List.getElem_of_mem hx
      obtain ⟨j, hj, hjb⟩ := List.getElem_of_mem hm
      rw [← hjb] at hxa ⊢
      have pi := holes_mem h _ (List.getElem_mem hi)
      have pj := holes_mem h _ (List.getElem_mem hj)
      rcases Nat.lt_trichotomy i j with hij | rfl | hij
      · have := hp i j hi hj hij; omega
      · rfl
      · have := hp j i hj hi hij; omega
theorem mostX_snoc (H : List Ext) (x : Ext) : mostX (H ++ [x]) = max (mostX H) x.2 := by
  unfold mostX; rw [List.foldl_append]; rfl
theorem mostX_mem (H : List Ext) : 0 ≤ mostX H ∧ (∀ x ∈ H, x.2 ≤ mostX H) ∧ ∀ M, 0 ≤ M → (∀ x ∈ H, x.2 ≤ M) → mostX H ≤ M := by
  induction H using snocE with
  | h0 => exact ⟨Int.le_refl _, fun x hx => (by cases hx), fun M hM _ => hM⟩
  | h1 L x ih =>
    obtain ⟨i0, i1, i2⟩ := ih
    rw [mostX_snoc]
    refine ⟨by omega, fun y hy => ?_, fun M hM hall => ?_⟩
    · rcases List.mem_append.1 hy with hy | hy
      · have := i1 y hy; omega
      · rw [List.mem_singleton.1 hy]; omega
    · have := i2 M hM (fun y hy => hall y (List.mem_append_left _ hy))
      have := hall x (by simp)
      omega
theorem sum_mem {H : List Ext} (hp : ∀ x ∈ H, 0 ≤ x.2) : 0 ≤ sumX H ∧ ∀ x ∈ H, x.2 ≤ sumX H := by
  induction H with
  | nil => exact ⟨Int.le_refl _, fun x hx => by cases hx⟩
  | cons y r ih =>
    obtain ⟨i0, i1⟩ := ih (fun x hx => hp x (List.mem_cons_of_mem _ hx))
    have := hp y (List.mem_cons_self ..)
    rw [sumX_cons]
    refine ⟨by omega, fun x hx => ?_⟩
    rcases List.mem_cons.1 hx with rfl | hx
    · omega
    · have := i1 x hx; omega
/-- what is most is free -/
theorem most_free (h : chkX n l = 0) : mostX (holesX n l) ≤ n - sumX l := by
  have hs := holds_sum h
  have hm := sum_mem (H := holesX n l) (fun x hx => by have := holes_mem h x hx; omega)
  exact (mostX_mem _).2.2 _ (by omega) (fun x hx => by have := hm.2 x hx; omega)
theorem fit_most (h : chkX n l = 0) {size : Int} (hf : fitE n l size ≠ 0) : size < 1 ∨ mostX (holesX n l) < size := by
  by_cases h1 : size < 1
  · exact .inl h1
  · right
    have := (mostX_mem (holesX n l)).2.2 (size - 1) (by omega) (fun x hx => by have := fit_none h hf x hx (by omega); omega)
    omega
theorem more_stat (h : chkX n l = 0) {at_ L size : Int} (hm : (at_, L) ∈ holesX n l) (h1 : 1 ≤ size) (h2 : size ≤ L) :
    mostX (holesX n ((at_, size) :: l)) ≤ mostX (holesX n l) ∧ (holesX n ((at_, size) :: l)).length ≤ (holesX n l).length ∧ sumX ((at_, size) :: l) = size + sumX l := by
  obtain ⟨S', p1, p2, p3, p4⟩ := runs_insert (tidy_of h) hm h1 h2
  have hu : sortE ((at_, size) :: l) = S' := sortE_unique (p1.trans (List.Perm.cons _ (sortE_perm l))) p2
  rw [holes_runs n (_ :: l), hu]
  refine ⟨(mostX_mem _).2.2 _ (mostX_mem _).1 (fun x hx => ?_), p3, sumX_cons _ _⟩
  obtain ⟨x', m1, m2⟩ := p4 x hx
  have := (mostX_mem (holesX n l)).2.1 x' m1
  omega
end
end Go.Proofs.Ytibogmoemohngaa
