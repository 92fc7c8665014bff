/- Contracts and plain laws, put together: MoveP, LayE, Move1, Move2, Move3, UndoBackP, Open8, Reach1, ReachP, SweepP, StoreP, LayM, Keys2, LayDf, Undo1, Store1, EqB, LayR, SortI, SortJ, Reach2, Reach3, Store2, Store3, ReachQ, RefWP, LayN, Keys3, Reach4, Play1. -/
import Derived.Test.YtbnobjlphmkgeaaGreatDoorTopPagesFrameM4
import Derived.Shelf.SlGeneric
import Derived.Shelf.SlSortCmp.WholeK
import Derived.Ground.SlsfProg
import Derived.Test.YtbnobjlphmkgeaaGreatDoorTopPagesFrameM1
import Derived.Deep.DeepCutAuto
import Derived.Deep.CutBlock
import Derived.Deep.LoopGhost
import Derived.Test.YtbnobjlphmkgeaaGreatDoorTopPagesFrameM2
import Derived.Test.YtbnobjlphmkgeaaGreatDoorTopPagesFrameM3
import Derived.Lib.SlicesCompact
import Derived.Shelf.SlMaps.DeleteFunc
import Derived.Ground.SlmdProg
import Derived.Deep.RegionHeld3
import Derived.StillTailTactics
import Derived.BigQuiet
import Derived.Shelf.Slices.CompactI
import Derived.Shelf.Slices.Reverse
/- Objects moved closer together, plainly. No walk here. -/
namespace Go.Proofs.YtbnobjlphmkgeaaGreatDoor
open Go.RowKit Go.Sort Go.Shelf Go.Lib

abbrev Ent := Int × Bytes
def cmpM (x y : Ent) : Int := Lib.compareInt (rAt x.2 : Int) (rAt y.2 : Int)
theorem ltM (x y : Ent) : ltOf cmpM x y = decide (rAt x.2 < rAt y.2) := by
  unfold ltOf cmpM Lib.compareInt
  by_cases h1 : (rAt x.2 : Int) < rAt y.2
  · have : rAt x.2 < rAt y.2 := by omega
    simp [h1, this]
  · have h3 : ¬ rAt x.2 < rAt y.2 := by omega
    by_cases h2 : (rAt y.2 : Int) < rAt x.2 <;> simp [h1, h2, h3]
theorem swoM : SWO (ltOf cmpM) where
  irrefl x := by rw [ltM]; simp
  trans x y z h1 h2 := by rw [ltM] at *; simp at *; omega
  ntrans x y z h1 h2 := by rw [ltM] at *; simp at *; omega
/-- entries by where they begin -/
def sortM (l : Bytes) : List Ent := pdqL cmpM (entriesL l)
theorem sortM_perm (l : Bytes) : (sortM l).Perm (entriesL l) := (pdqL_perm cmpM swoM _).1
theorem sortM_sorted (l : Bytes) : (sortM l).Pairwise (fun a b => rAt a.2 ≤ rAt b.2) := (pdqL_perm cmpM swoM _).2.imp fun {a b} h => by
  rw [ltM] at h; simp at h; omega
/-- behind each other, from a to n -/
def TidyM : Nat → List Ent → Nat → Prop
  | a, [], n => a ≤ n
  | a, e :: r, n => a ≤ rAt e.2 ∧ 1 ≤ rLen e.2 ∧ TidyM (rAt e.2 + rLen e.2) r n
theorem tidyM_le : ∀ {S : List Ent} {a n : Nat}, TidyM a S n → a ≤ n
  | [], _, _, h => h
  | e :: r, _, _, ⟨h1, h2, h3⟩ => by have := tidyM_le h3; omega
theorem tidyM_mem : ∀ {S : List Ent} {a n : Nat}, TidyM a S n → ∀ e ∈ S, a ≤ rAt e.2 ∧ 1 ≤ rLen e.2 ∧ rAt e.2 + rLen e.2 ≤ n
  | [], _, _, _, e, he => by cases he
  | x :: r, _, _, ⟨h1, h2, h3⟩, e, he => by
    rcases List.mem_cons.1 he with rfl | he
    · have := tidyM_le h3; omega
    · have := tidyM_mem h3 e he; omega
theorem tidyM_mono : ∀ {S : List Ent} {a b n : Nat}, TidyM a S n → b ≤ a → TidyM b S n
  | [], _, _, _, h, hb => Nat.le_trans hb h
  | _ :: _, _, _, _, ⟨h1, h2, h3⟩, hb => ⟨by omega, h2, h3⟩
theorem tidyM_strict : ∀ {S : List Ent} {a n : Nat}, TidyM a S n → S.Pairwise (fun x y => rAt x.2 < rAt y.2)
  | [], _, _, _ => List.Pairwise.nil
  | e :: r, a, n, ⟨h1, h2, h3⟩ => List.Pairwise.cons (fun x hx => by have := tidyM_mem h3 x hx; omega) (tidyM_strict h3)
theorem tidyM_mk (n : Nat) : ∀ (S : List Ent) (a : Nat), (∀ e ∈ S, a ≤ rAt e.2 ∧ 1 ≤ rLen e.2 ∧ rAt e.2 + rLen e.2 ≤ n) → S.Pairwise (fun x y => rAt x.2 + rLen x.2 ≤ rAt y.2) → a ≤ n → TidyM a S n
  | [], _, _, _, h => h
  | e :: r, a, hb, hp, _ => by
    obtain ⟨h1, h2, h3⟩ := hb e (List.mem_cons_self ..)
    rw [List.pairwise_cons] at hp
    exact ⟨h1, h2, tidyM_mk n r _ (fun x hx => by have := hb x (List.mem_cons_of_mem _ hx); have := hp.1 x hx; omega) hp.2 (by omega)⟩
theorem entL_mem {l : Bytes} {e : Ent} : e ∈ entriesL l ↔ ∃ k : Nat, k < 40 ∧ hasE (rawE l k) = true ∧ e = ((k : Int) + 1, rawE l k) := by
  unfold entriesL entsL
  simp only [List.mem_map, List.mem_filter, List.mem_range]
  constructor
  · rintro ⟨k, ⟨h1, h2⟩, rfl⟩; exact ⟨k, h1, h2, rfl⟩
  · rintro ⟨k, h1, h2, rfl⟩; exact ⟨k, ⟨h1, h2⟩, rfl⟩
theorem entL_nodup (l : Bytes) : (entriesL l).Pairwise (fun a b => a.1 ≠ b.1) := by
  unfold entriesL entsL
  rw [List.pairwise_map]
  exact (List.pairwise_lt_range.filter _).imp fun {a b} h => by dsimp only; omega
theorem sortM_nodup (l : Bytes) : (sortM l).Pairwise (fun a b => a.1 ≠ b.1) := ((sortM_perm l).pairwise_iff (R := fun a b : Ent => a.1 ≠ b.1) (fun h => h.symm)).2 (entL_nodup l)
theorem tidy_sortM {l : Bytes} (hg : Good l) : TidyM 288 (sortM l) l.length := by
  have hb := hg.bd
  refine tidyM_mk _ _ _ (fun e he => ?_) ?_ hb.1
  · obtain ⟨k, hk, hh, rfl⟩ := entL_mem.1 ((sortM_perm l).mem_iff.1 he)
    have := strayE_false (hg.s.fit k hk hh)
    dsimp only; omega
  · rw [List.pairwise_iff_getElem]
    intro i j hi hj hij
    have hs := List.pairwise_iff_getElem.1 (sortM_sorted l) i j hi hj hij
    have hn := List.pairwise_iff_getElem.1 (sortM_nodup l) i j hi hj hij
    obtain ⟨k, hk, hh, e1⟩ := entL_mem.1 ((sortM_perm l).mem_iff.1 (List.getElem_mem hi))
    obtain ⟨q, hq, hh2, e2⟩ := entL_mem.1 ((sortM_perm l).mem_iff.1 (List.getElem_mem hj))
    rw [e1, e2] at hs hn ⊢
    dsimp only at hs hn ⊢
    have ha := hg.apart (j := q) (k := k) hq hk (by omega) hh2 hh
    have h1 := strayE_false (hg.s.fit k hk hh)
    have h2 := strayE_false (hg.s.fit q hq hh2)
    unfold overE at ha
    simp only [Bool.and_eq_false_iff, decide_eq_false_iff_not] at ha
    omega
theorem sortM_unique {l : Bytes} {S : List Ent} {a n : Nat} (hp : S.Perm (entriesL l)) (ht : TidyM a S n) : sortM l = S := by
  have h1 : (sortM l).Perm S := (sortM_perm l).trans hp.symm
  have hs := tidyM_strict ht
  refine List.Perm.eq_of_pairwise (le := fun x y : Ent => rAt x.2 ≤ rAt y.2) (fun x y hx hy h h' => ?_) (sortM_sorted l) (hs.imp fun h => Nat.le_of_lt h) h1
  have hx' : x ∈ S := h1.mem_iff.1 hx
  obtain ⟨i, hi, rfl⟩ := List.getElem_of_mem hx'
  obtain ⟨j, hj, rfl⟩ := List.getElem_of_mem hy
  rw [List.pairwise_iff_getElem] at hs
  rcases Nat.lt_trichotomy i j with hij | rfl | hij
  · have := hs i j hi hj hij; omega
  · rfl
  · have := hs j i hj hi hij; omega
/-- the first that has a gap ahead of it, and where it goes -/
def gapM : Nat → List Ent → Option (Ent × Nat)
  | _, [] => none
  | a, e :: r => if a < rAt e.2 then some (e, a) else gapM (rAt e.2 + rLen e.2) r
/-- how many stand behind the first gap -/
def packM : Nat → List Ent → Nat
  | _, [] => 0
  | a, e :: r => if a < rAt e.2 then r.length + 1 else packM (rAt e.2 + rLen e.2) r
theorem packM_le : ∀ (S : List Ent) (a : Nat), packM a S ≤ S.length
  | [], _ => Nat.le_refl _
  | e :: r, a => by
    unfold packM; split
    · simp
    · have := packM_le r (rAt e.2 + rLen e.2); simp; omega
def swapE (e : Ent) (r' : Bytes) (x : Ent) : Ent := if x.1 = e.1 then (e.1, r') else x
theorem swap_none {e : Ent} {r' : Bytes} : ∀ {S : List Ent}, (∀ x ∈ S, x.1 ≠ e.1) → S.map (swapE e r') = S
  | [], _ => rfl
  | x :: r, h => by
    rw [List.map_cons, swap_none (fun y hy => h y (List.mem_cons_of_mem _ hy))]
    unfold swapE
    rw [if_neg (h x (List.mem_cons_self ..))]
theorem gap_swap {n : Nat} {e : Ent} {at_ : Nat} {r' : Bytes} (h1 : rAt r' = at_) (h2 : rLen r' = rLen e.2) : ∀ {S : List Ent} {a : Nat}, TidyM a S n → S.Pairwise (fun x y => x.1 ≠ y.1) → gapM a S = some (e, at_) →
    TidyM a (S.map (swapE e r')) n ∧ packM a (S.map (swapE e r')) < packM a S ∧ a ≤ at_ ∧ at_ < rAt e.2 ∧ e ∈ S ∧ ∀ x ∈ S, x.1 ≠ e.1 → at_ + rLen e.2 ≤ rAt x.2 ∨ rAt x.2 + rLen x.2 ≤ at_
  | [], _, _, _, h => by cases h
  | x :: r, a, ⟨t1, t2, t3⟩, hp, h => by
    rw [List.pairwise_cons] at hp
    unfold gapM at h
    by_cases hc : a < rAt x.2
    · rw [if_pos hc] at h
      have h' := Option.some.inj h
      injection h' with h3 h4
      subst h3 h4
      have hr : r.map (swapE x r') = r := swap_none (fun y hy => (hp.1 y hy).symm)
      rw [List.map_cons, hr]
      have hx : swapE x r' x = (x.1, r') := by unfold swapE; rw [if_pos rfl]
      rw [hx]
      have hm : TidyM (rAt r' + rLen r') r n := tidyM_mono t3 (by omega)
      refine ⟨⟨by dsimp only; omega, by dsimp only; omega, hm⟩, ?_, Nat.le_refl _, hc, List.mem_cons_self .., fun y hy hne => ?_⟩
      · unfold packM
        rw [if_pos hc, if_neg (by dsimp only; omega)]
        have := packM_le r (rAt r' + rLen r')
        dsimp only; omega
      · rcases List.mem_cons.1 hy with rfl | hy
        · exact absurd rfl hne
        · have := tidyM_mem t3 y hy; left; omega
    · rw [if_neg hc] at h
      obtain ⟨g1, g2, g3, g4, g5, g6⟩ := gap_swap h1 h2 t3 hp.2 h
      have hne : x.1 ≠ e.1 := hp.1 e g5
      have hx : swapE e r' x = x := by unfold swapE; rw [if_neg hne]
      rw [List.map_cons, hx]
      refine ⟨⟨t1, t2, g1⟩, ?_, by omega, g4, List.mem_cons_of_mem _ g5, fun y hy hne' => ?_⟩
      · unfold packM
        rw [if_neg hc, if_neg hc]; exact g2
      · rcases List.mem_cons.1 hy with rfl | hy
        · right; omega
        · exact g6 y hy hne'
/-- what Move makes of an image: the object of the handle k + 1 at another place -/
def moveL (l : Bytes) (k a : Nat) : Bytes := splice (splice l (5 * k) (entB a (rLen (rawE l k)) (rTag (rawE l k)).toNat)) a ((l.drop (rAt (rawE l k))).take (rLen (rawE l k)))
structure MoveIs (l l' : Bytes) (k a : Nat) : Prop where
  k40 : k < 40
  has : hasE (rawE l k) = true
  a0 : 288 ≤ a
  a1 : a < rAt (rawE l k)
  len : l'.length = l.length
  ents : ∀ j, j < 40 → rawE l' j = if j = k then entB a (rLen (rawE l k)) (rTag (rawE l k)).toNat else rawE l j
  rots : ∀ i, i < 8 → rawR l' i = rawR l i
  apart : ∀ j, j < 40 → j ≠ k → hasE (rawE l j) = true → a + rLen (rawE l k) ≤ rAt (rawE l j) ∨ rAt (rawE l j) + rLen (rawE l j) ≤ a
  body : (l'.drop a).take (rLen (rawE l k)) = (l.drop (rAt (rawE l k))).take (rLen (rawE l k))
  rest : ∀ b m, 288 ≤ b → b + m ≤ a ∨ a + rLen (rawE l k) ≤ b → (l'.drop b).take m = (l.drop b).take m
theorem move_is {l : Bytes} (hg : Good l) {k a : Nat} (hk : k < 40) (hh : hasE (rawE l k) = true) (ha : 288 ≤ a) (ha1 : a < rAt (rawE l k)) (hap : ∀ j, j < 40 → j ≠ k → hasE (rawE l j) = true → a + rLen (rawE l k) ≤ rAt (rawE l j) ∨ rAt (rawE l j) + rLen (rawE l j) ≤ a) : MoveIs l (moveL l k a) k a := by
  have hb := hg.bd
  have hs := strayE_false (hg.s.fit k hk hh)
  have hbl : ((l.drop (rAt (rawE l k))).take (rLen (rawE l k))).length = rLen (rawE l k) := by simp; omega
  have hl1 : (splice l (5 * k) (entB a (rLen (rawE l k)) (rTag (rawE l k)).toNat)).length = l.length := splice_len _ _ _ (by rw [entB_len]; omega)
  have hfit : a + ((l.drop (rAt (rawE l k))).take (rLen (rawE l k))).length ≤ (splice l (5 * k) (entB a (rLen (rawE l k)) (rTag (rawE l k)).toNat)).length := by rw [hbl, hl1]; omega
  refine ⟨hk, hh, ha, ha1, by unfold moveL; rw [splice_len _ _ _ hfit, hl1], fun j hj => ?_, fun i hi => ?_, hap, ?_, fun b m hb0 hbm => ?_⟩
  · unfold moveL
    rw [rawE_tail _ _ _ _ ha hfit hj]
    exact rawE_splice l _ k j (entB_len _ _ _) hk hj (by omega)
  · unfold moveL
    rw [rawR_tail _ _ _ _ ha hfit hi]
    exact rawR_head l _ _ _ (by rw [entB_len]; omega) (by omega)
  · unfold moveL
    rw [cut_splice_in _ _ _ _ _ hfit (Nat.le_refl _) (by rw [hbl]; exact Nat.le_refl _), Nat.sub_self, List.drop_zero, List.take_of_length_le (by rw [hbl]; exact Nat.le_refl _)]
  · unfold moveL
    rw [cut_splice _ _ _ _ _ hfit (by rw [hbl]; exact hbm), cut_splice _ _ _ _ _ (by rw [entB_len]; omega) (by rw [entB_len]; omega)]
section
variable {l l' : Bytes} {k a : Nat}
theorem MoveIs.ent (h : MoveIs l l' k a) (hg : Good l) : hasE (rawE l' k) = true ∧ rAt (rawE l' k) = a ∧ rLen (rawE l' k) = rLen (rawE l k) ∧ rTag (rawE l' k) = rTag (rawE l k) := by
  have hs := strayE_false (hg.s.fit k h.k40 h.has)
  have hb := hg.bd
  have ha := h.a1
  obtain ⟨e1, e2, e3, e4⟩ := entB_rd a (rLen (rawE l k)) (rTag (rawE l k)).toNat (by omega) (by omega) (by omega)
  rw [h.ents k h.k40, if_pos rfl]
  exact ⟨e1, e2, e3, by omega⟩
theorem MoveIs.good (h : MoveIs l l' k a) (hg : Good l) : Good l' := by
  have hs := strayE_false (hg.s.fit k h.k40 h.has)
  have hb := hg.bd
  have ha := h.a1
  have ha0 := h.a0
  obtain ⟨e1, e2, e3, e4⟩ := entB_rd a (rLen (rawE l k)) (rTag (rawE l k)).toNat (by omega) (by omega) (by omega)
  refine good_iff.2 ⟨by rw [h.len]; exact hg.len, ?_⟩
  rw [h.len]
  have h1 : GoodS l.length (rawE l') (rawR l) := by
    refine hg.s.putE k h.k40 _ h.ents e1 ?_ (fun j hj hne hh => ?_)
    · unfold strayE
      rw [e2, e3, e4, tagB_true.2 ⟨by omega, by omega⟩, lenB_true.2 ⟨by omega, by omega⟩, withinB_true.2 ⟨by omega, by omega, by omega⟩]
      rfl
    · have := h.apart j hj hne hh
      unfold overE
      rw [e2, e3]
      simp only [Bool.and_eq_false_iff, decide_eq_false_iff_not]
      omega
  exact h1.putR 0 (rawR l 0) (fun j hj => by rw [h.rots j hj]; split <;> simp_all) (by
    cases hz : zeroE (rawR l 0) with
    | true => exact .inl rfl
    | false => exact .inr ⟨h1.root 0 (by omega) hz, fun j hj hne hz' => (h1.name j hj 0 (by omega) hz' hz).symm⟩)
/-- no object is another one -/
theorem MoveIs.keep (h : MoveIs l l' k a) (hg : Good l) {j : Nat} (hj : j < 40) : objT l' j = objT l j ∧ objS l' j = objS l j := by
  by_cases e : j = k
  · subst e
    obtain ⟨e1, e2, e3, e4⟩ := h.ent hg
    unfold objT objS
    rw [e1, h.has, e2, e3, e4]
    simp only [if_true]
    exact ⟨trivial, h.body⟩
  · refine obj_congr (by rw [h.ents j hj, if_neg e]) fun hh => ?_
    have := strayE_false (hg.s.fit j hj hh)
    have := h.apart j hj e hh
    exact h.rest _ _ (by omega) (by omega)
theorem MoveIs.roots (h : MoveIs l l' k a) : rootsL l' = rootsL l := by
  unfold rootsL rootsF
  rw [List.filter_congr (fun i hi => by rw [h.rots i (List.mem_range.1 hi)])]
  exact List.map_congr_left fun i hi => by rw [h.rots i (List.mem_range.1 (List.mem_filter.1 hi).1)]
theorem MoveIs.entries (h : MoveIs l l' k a) (hg : Good l) : entriesL l' = (entriesL l).map (swapE ((k : Int) + 1, rawE l k) (rawE l' k)) := by
  have he := h.ent hg
  unfold entriesL entsL
  rw [List.map_map, List.filter_congr (q := fun j => hasE (rawE l j)) (fun j hj => by
    have hj := List.mem_range.1 hj
    by_cases e : j = k
    · rw [e, he.1, h.has]
    · rw [h.ents j hj, if_neg e])]
  refine List.map_congr_left fun j hj => ?_
  have hj := List.mem_range.1 (List.mem_filter.1 hj).1
  simp only [Function.comp_apply, swapE]
  by_cases e : j = k
  · subst e; rw [if_pos rfl]
  · rw [if_neg (by omega), h.ents j hj, if_neg e]
theorem MoveIs.taken (h : MoveIs l l' k a) (hg : Good l) : (takenL l').length = (takenL l).length ∧ sumX (takenL l') = sumX (takenL l) := by
  have he := h.ent hg
  have hE := h.entries hg
  constructor
  · unfold takenL; rw [List.length_map, List.length_map, hE, List.length_map]
  · have key : ∀ L : List Ent, (∀ e ∈ L, e.1 = (k : Int) + 1 → rLen e.2 = rLen (rawE l k)) → sumX ((L.map (swapE ((k : Int) + 1, rawE l k) (rawE l' k))).map takeX) = sumX (L.map takeX) := by
      intro L
      induction L with
      | nil => intro _; rfl
      | cons x r ih =>
        intro hL
        rw [List.map_cons, List.map_cons, List.map_cons, sumX_cons, sumX_cons, ih (fun e he => hL e (List.mem_cons_of_mem _ he))]
        congr 1
        unfold swapE takeX
        by_cases e : x.1 = (k : Int) + 1
        · rw [if_pos e]
          have := hL x (List.mem_cons_self ..) e
          dsimp only; omega
        · rw [if_neg e]
    unfold takenL
    rw [hE]
    exact key _ fun e he1 he2 => by
      obtain ⟨j, hj, hh, rfl⟩ := entL_mem.1 he1
      dsimp only at he2 ⊢
      rw [show j = k by omega]
end
/-- a step, if there is one -/
theorem step_is {l : Bytes} (hg : Good l) {e : Ent} {a : Nat} (h : gapM 288 (sortM l) = some (e, a)) : ∃ k : Nat, e = ((k : Int) + 1, rawE l k) ∧ MoveIs l (moveL l k a) k a ∧ packM 288 (sortM (moveL l k a)) < packM 288 (sortM l) := by
  have ht := tidy_sortM hg
  have hn := sortM_nodup l
  have hmem : e ∈ sortM l ∧ 288 ≤ a ∧ a < rAt e.2 ∧ ∀ x ∈ sortM l, x.1 ≠ e.1 → a + rLen e.2 ≤ rAt x.2 ∨ rAt x.2 + rLen x.2 ≤ a := by
    have aux : ∀ {S : List Ent} {b n : Nat}, TidyM b S n → S.Pairwise (fun x y => x.1 ≠ y.1) → gapM b S = some (e, a) → e ∈ S ∧ b ≤ a ∧ a < rAt e.2 ∧ ∀ x ∈ S, x.1 ≠ e.1 → a + rLen e.2 ≤ rAt x.2 ∨ rAt x.2 + rLen x.2 ≤ a := by
      intro S
      induction S with
      | nil => intro b n _ _ h; cases h
      | cons x r ih =>
        intro b n ⟨t1, t2, t3⟩ hp h
        rw [List.pairwise_cons] at hp
        unfold gapM at h
        by_cases hc : b < rAt x.2
        · rw [if_pos hc] at h
          have h' := Option.some.inj h
          injection h' with h3 h4
          subst h3 h4
          refine ⟨List.mem_cons_self .., Nat.le_refl _, hc, fun y hy hne => ?_⟩
          rcases List.mem_cons.1 hy with rfl | hy
          · exact absurd rfl hne
          · have := tidyM_mem t3 y hy; left; omega
        · rw [if_neg hc] at h
          obtain ⟨g1, g2, g3, g4⟩ := ih t3 hp.2 h
          refine ⟨List.mem_cons_of_mem _ g1, by omega, g3, fun y hy hne => ?_⟩
          rcases List.mem_cons.1 hy with rfl | hy
          · right; omega
          · exact g4 y hy hne
    exact aux ht hn h
  obtain ⟨m1, m2, m3, m4⟩ := hmem
  obtain ⟨k, hk, hh, rfl⟩ := entL_mem.1 ((sortM_perm l).mem_iff.1 m1)
  dsimp only at m3 m4
  have hM := move_is hg hk hh m2 m3 (fun j hj hne hj2 => by
    have := m4 ((j : Int) + 1, rawE l j) ((sortM_perm l).mem_iff.2 (entL_mem.2 ⟨j, hj, hj2, rfl⟩)) (by dsimp only; omega)
    exact this)
  refine ⟨k, rfl, hM, ?_⟩
  obtain ⟨e1, e2, e3, e4⟩ := hM.ent hg
  obtain ⟨g1, g2, -⟩ := gap_swap (r' := rawE (moveL l k a) k) e2 e3 ht hn h
  have hp : ((sortM l).map (swapE ((k : Int) + 1, rawE l k) (rawE (moveL l k a) k))).Perm (entriesL (moveL l k a)) := by
    rw [hM.entries hg]; exact (sortM_perm l).map _
  rw [sortM_unique hp g1]
  exact g2
end Go.Proofs.YtbnobjlphmkgeaaGreatDoor
/- Laid: library functions whose contracts are proved over whatever program: the table of numbers, and a field a function or a type. -/
namespace Go.Proofs.YtbnobjlphmkgeaaGreatDoor
open Go.Shelf
def layE_ren : Go.Shelf.Ren := ⟨fun | 6 => 88 | 15 => 156 | 14 => 155 | 28 => 204 | 29 => 205 | 20 => 196 | 21 => 197 | 22 => 198 | 23 => 199 | 24 => 200 | 25 => 201 | 26 => 202 | 27 => 203 | 46 => 221 | 47 => 222 | 48 => 223 | 49 => 224 | 50 => 225 | 57 => 238 | n => n, fun | 22 => 141 | 24 => 66 | 25 => 148 | 3 => 3 | 39 => 213 | 0 => 0 | 53 => 272 | 55 => 274 | 4 => 4 | 46 => 266 | 45 => 265 | 50 => 217 | 5 => 5 | 9 => 9 | 66 => 296 | 70 => 300 | 76 => 310 | 77 => 58 | n => n, fun | n => n⟩
theorem layE : Go.Proofs.SlLaysF0.n6 Tryz.prog layE_ren := {
  mixed := by kernel_rfl
  f6 := ⟨Tryz.f88.name, by decide, Tryz.func88.trans (congrArg some (by kernel_rfl))⟩
  f14 := ⟨Tryz.f155.name, by decide, Tryz.func155.trans (congrArg some (by kernel_rfl))⟩
  f15 := Tryz.func156.trans (congrArg some (by kernel_rfl))
  f20 := ⟨Tryz.f196.name, by decide, Tryz.func196.trans (congrArg some (by kernel_rfl))⟩
  f21 := ⟨Tryz.f197.name, by decide, Tryz.func197.trans (congrArg some (by kernel_rfl))⟩
  f22 := ⟨Tryz.f198.name, by decide, Tryz.func198.trans (congrArg some (by kernel_rfl))⟩
  f23 := ⟨Tryz.f199.name, by decide, Tryz.func199.trans (congrArg some (by kernel_rfl))⟩
  f24 := ⟨Tryz.f200.name, by decide, Tryz.func200.trans (congrArg some (by kernel_rfl))⟩
  f25 := ⟨Tryz.f201.name, by decide, Tryz.func201.trans (congrArg some (by kernel_rfl))⟩
  f26 := ⟨Tryz.f202.name, by decide, Tryz.func202.trans (congrArg some (by kernel_rfl))⟩
  f27 := ⟨Tryz.f203.name, by decide, Tryz.func203.trans (congrArg some (by kernel_rfl))⟩
  f28 := Tryz.func204.trans (congrArg some (by kernel_rfl))
  f29 := Tryz.func205.trans (congrArg some (by kernel_rfl))
  f46 := ⟨Tryz.f221.name, by decide, Tryz.func221.trans (congrArg some (by kernel_rfl))⟩
  f47 := Tryz.func222.trans (congrArg some (by kernel_rfl))
  f48 := Tryz.func223.trans (congrArg some (by kernel_rfl))
  f49 := ⟨Tryz.f224.name, by decide, Tryz.func224.trans (congrArg some (by kernel_rfl))⟩
  f50 := ⟨Tryz.f225.name, by decide, Tryz.func225.trans (congrArg some (by kernel_rfl))⟩
  f57 := ⟨Tryz.f238.name, by decide, Tryz.func238.trans (congrArg some (by kernel_rfl))⟩
  t0 := Tryz.underlying0
  a0 := Tryz.isAgg0
  z0 := Tryz.sizeOf0
  v0 := Tryz.zeroValue0
  t3 := Tryz.underlying3
  a3 := Tryz.isAgg3
  z3 := Tryz.sizeOf3
  v3 := Tryz.zeroValue3
  t4 := Tryz.underlying4
  a4 := Tryz.isAgg4
  z4 := Tryz.sizeOf4
  v4 := Tryz.zeroValue4
  t5 := Tryz.underlying5
  a5 := Tryz.isAgg5
  z5 := Tryz.sizeOf5
  v5 := Tryz.zeroValue5
  t9 := Tryz.underlying9
  a9 := Tryz.isAgg9
  z9 := Tryz.sizeOf9
  v9 := Tryz.zeroValue9
  t22 := Tryz.underlying141
  a22 := Tryz.isAgg141
  z22 := Tryz.sizeOf141
  v22 := Tryz.zeroValue141
  t25 := Tryz.underlying148
  a25 := Tryz.isAgg148
  z25 := Tryz.sizeOf148
  v25 := Tryz.zeroValue148
  t39 := Tryz.underlying213
  a39 := Tryz.isAgg213
  z39 := Tryz.sizeOf213
  v39 := Tryz.zeroValue213
  t45 := Tryz.underlying265
  a45 := Tryz.isAgg265
  z45 := Tryz.sizeOf265
  v45 := Tryz.zeroValue265
  t46 := Tryz.underlying266
  a46 := Tryz.isAgg266
  z46 := Tryz.sizeOf266
  v46 := Tryz.zeroValue266
  t50 := Tryz.underlying217
  a50 := Tryz.isAgg217
  z50 := Tryz.sizeOf217
  v50 := Tryz.zeroValue217
  t53 := Tryz.underlying272
  a53 := Tryz.isAgg272
  z53 := Tryz.sizeOf272
  v53 := Tryz.zeroValue272
  t55 := Tryz.underlying274
  a55 := Tryz.isAgg274
  z55 := Tryz.sizeOf274
  v55 := Tryz.zeroValue274
  t66 := Tryz.underlying296
  a66 := Tryz.isAgg296
  z66 := Tryz.sizeOf296
  v66 := Tryz.zeroValue296
  t70 := Tryz.underlying300
  a70 := Tryz.isAgg300
  z70 := Tryz.sizeOf300
  v70 := Tryz.zeroValue300
  t76 := Tryz.underlying310
  a76 := Tryz.isAgg310
  z76 := Tryz.sizeOf310
  v76 := Tryz.zeroValue310
  t77 := Tryz.underlying58
  a77 := Tryz.isAgg58
  z77 := Tryz.sizeOf58
  v77 := Tryz.zeroValue58 }
end Go.Proofs.YtbnobjlphmkgeaaGreatDoor
/- The contracts of heap.Move and of package move's Step. -/
namespace Go.Proofs.YtbnobjlphmkgeaaGreatDoor
open Go.RowKit Go.Sort Go.Shelf Go.Lib

theorem HpM.rowB {w0 w w' : World} {F F' : Nat → Prop} {h : Nat} {l' : Bytes} (hm : HpM w0 w w' F F' h l') {g cap : Nat} {b : Bytes} (hr : Row w 5 g cap b) (hn : ¬ F g) : Row w' 5 g cap b ∧ ¬ F' g :=
  ⟨hr.block (hm.kp.block _ hr.lt hn), fun hk => by rcases hm.nw _ hk with h | h; exact hn h; have := hr.lt; omega⟩
/-- the closure of Step -/
theorem closeM (x y : Ent) (W : World) : Calls Tryz.prog 89 #[.agg #[.int .i64 x.1, .int .i64 (rAt x.2), .int .i64 (rLen x.2), .int .i64 (rTag x.2)], .agg #[.int .i64 y.1, .int .i64 (rAt y.2), .int .i64 (rLen y.2), .int .i64 (rTag y.2)]] W fun e w' => e = .returned (.int .i64 (cmpM x y)) ∧ ∃ q os', w' = grow (W.drewN q) os' := by
  have hcon := fun W' => compare_any (rAt x.2 : Int) (rAt y.2 : Int) W'
  have HC := Hidden.mk hcon
  have HX : Hidden (cmpM x y = Lib.compareInt (rAt x.2 : Int) (rAt y.2 : Int)) := ⟨rfl⟩
  clear hcon
  rw [HX.out]
  generalize Lib.compareInt (rAt x.2 : Int) (rAt y.2 : Int) = r at *
  generalize (rAt x.2 : Int) = xa at *
  generalize (rLen x.2 : Int) = xl at *
  generalize (rTag x.2) = xt at *
  generalize (rAt y.2 : Int) = ya at *
  generalize (rLen y.2 : Int) = yl at *
  generalize (rTag y.2) = yt at *
  go_enter Tryz.func89, Tryz.ntmps89
  go_wp2_with (go_at_call 90; refine (HC.out _).mono ?_; rintro e w' ⟨rfl, rfl⟩)
  go_ret
  exact ⟨rfl, 0, _, by rw [alloc_eq_grow, alloc_eq_grow, grow_grow]; rfl⟩
theorem sortN_any (w : World) (base n : Nat) (v : Value) (L : List Ent) (hn : L.length = n) (hl : n ≤ 1000) (hown : w.ownsRow base 66 4 v n (L.flatMap ecells)) :
    Calls Tryz.prog 88 #[v, .func (.func 89) #[] #[]] w fun e w' => e = .returned (.tuple #[]) ∧ w'.ownsRow base 66 4 v n ((pdqL cmpM L).flatMap ecells) ∧ w.grownBy w' v.ownBlock := by
  rcases hown.2 with ⟨rfl, h0⟩ | ⟨g, cap, cur, rfl, hb, hh, _⟩
  · have hL : L = [] := List.eq_nil_of_length_eq_zero (by omega)
    subst hL h0
    have hs : pdqL cmpM [] = [] := List.Perm.eq_nil (pdqL_perm cmpM swoM []).1
    have hc := AnyF.slices_SortFunc_none layE none 0 (.func (.func 89) #[] #[]) w
    change Calls Tryz.prog 88 _ _ _ at hc
    refine hc.mono ?_
    rintro e w' ⟨rfl, rfl⟩
    exact ⟨rfl, by rw [hs]; exact hown, World.grownBy.refl _ _⟩
  · have eg : ∀ args w, (callFunc 89 args).run Tryz.prog w = .ok (.enter 89 args) w := enters_of Tryz.func89 (by kernel_rfl) rfl
    have hcon := AnyQ.slices_SortFunc_eq layE 4 Tryz.isAgg66 Tryz.sizeOf66 ecells (fun _ => rfl) (fun x v hv => by simp [ecells] at hv; rcases hv with rfl | rfl | rfl | rfl <;> rfl) cmpM swoM 89 #[] g 0 cap L.toArray w eg
      (fun _ _ _ _ x y => closeM x y _) (holdsK_own (k := 4) (enc := ecells) (fun _ => rfl) (by decide) hown) (Array.getElem?_eq_some_iff.1 hh).1 (by simp only [List.size_toArray]; omega)
    change Calls Tryz.prog 88 _ _ _ at hcon
    have hsz : L.toArray.size = n := by simpa using hn
    rw [hsz] at hcon
    refine hcon.mono ?_
    rintro e w' ⟨rfl, m, os, rfl⟩
    have hds : (pdq (ltOf cmpM) L.toArray 0 n (Lib.bitLen n) true true).size = n := by
      have := (pdqL_perm cmpM swoM L).1.length_eq
      unfold pdqL at this
      rw [Array.length_toList, hn] at this
      exact this
    have h2 := own_sortedK (k := 4) (m := m) (os := os) (enc := ecells) (fun _ => rfl) (by decide) hds hown
    refine ⟨rfl, ?_, h2.2⟩
    have he : pdqL cmpM L = (pdq (ltOf cmpM) L.toArray 0 n (Lib.bitLen n) true true).toList := by unfold pdqL; rw [hn]
    rw [he]
    exact h2.1
section
variable {w0 w : World} {F : Nat → Prop} {h : Nat} {l : Bytes}
set_option maxRecDepth 100000 in
theorem hmove_ok (k a : Nat) (hp : Hp w0 w F h l) (hg : Good l) (hk : k < 40) (hh : hasE (rawE l k) = true) (ha : 288 ≤ a) (ha1 : a < rAt (rawE l k)) :
    Calls Tryz.prog 91 #[.pointer (some ⟨h, 0, none⟩), .agg #[.int .i64 ((k : Int) + 1), .int .i64 (rAt (rawE l k)), .int .i64 (rLen (rawE l k)), .int .i64 (rTag (rawE l k))], .int .i64 (a : Int)] w fun e w' => e = .returned .nilIface ∧ ∃ F', HpM w0 w w' F F' h (moveL l k a) := by
  have hb := hg.bd
  have hs := strayE_false (hg.s.fit k hk hh)
  obtain ⟨g, cap, c0, -, hcap, -, hrow, hF⟩ := hp.head
  have hbl : ((l.drop (rAt (rawE l k))).take (rLen (rawE l k))).length = rLen (rawE l k) := by simp; omega
  have hcut := hrow.rd.cut (rAt (rawE l k)) (rLen (rawE l k)) (by omega)
  rw [Option.map_some, Addr.add_lit, Nat.zero_add] at hcut
  have hPT : putEnt l ((k : Int) + 1) (a : Int) (rLen (rawE l k)) (rTag (rawE l k)) = splice l (5 * k) (entB a (rLen (rawE l k)) (rTag (rawE l k)).toNat) := by unfold putEnt; rw [entO_k]; rfl
  have hpl : (putEnt l ((k : Int) + 1) (a : Int) (rLen (rawE l k)) (rTag (rawE l k))).length = l.length := putEnt_len l _ _ _ _ (by omega) (by omega) (by omega)
  have hML : moveL l k a = splice (putEnt l ((k : Int) + 1) (a : Int) (rLen (rawE l k)) (rTag (rawE l k))) a ((l.drop (rAt (rawE l k))).take (rLen (rawE l k))) := by rw [hPT]; rfl
  have HPUT := Hidden.mk (fun (W : World) (hW : Hp w0 W F h l) => hput_ok ((k : Int) + 1) (a : Int) (rLen (rawE l k)) (rTag (rawE l k)) hW (handleB_true.2 (by omega)) (tagB_true.2 (by omega)) (lenB_true.2 (by omega)) (withinB_true.2 (by omega)))
  rw [hML]
  have HPL := Hidden.mk hpl
  have HP := Hidden.mk hp
  have HBD : Hidden (a + rLen (rawE l k) ≤ l.length ∧ rAt (rawE l k) + rLen (rawE l k) ≤ l.length ∧ l.length ≤ 6400 ∧ 1 ≤ rLen (rawE l k)) := ⟨by omega⟩
  generalize putEnt l ((k : Int) + 1) (a : Int) (rLen (rawE l k)) (rTag (rawE l k)) = l1 at *
  generalize rTag (rawE l k) = tg at *
  generalize rLen (rawE l k) = m at *
  generalize rAt (rawE l k) = ea at *
  generalize (l.drop ea).take m = body at *
  generalize (k : Int) + 1 = x at *
  have HBL := Hidden.mk hbl
  have HCUT := Hidden.mk hcut
  have hal := (Below.refl w.heap.size w).alloc (Nat.le_refl _) (.cells #[.int .i64 x, .int .i64 (ea : Int), .int .i64 (m : Int), .int .i64 tg] 66)
  have hf := fourAt_one w x (ea : Int) (m : Int) tg 66
  have hbk := heap_alloc_new w (.cells #[.int .i64 x, .int .i64 (ea : Int), .int .i64 (m : Int), .int .i64 tg] 66)
  have HOF := Hidden.mk (hof_any (h := h) g cap ea m x tg (w.alloc (.cells #[.int .i64 x, .int .i64 (ea : Int), .int .i64 (m : Int), .int .i64 tg] 66)) ⟨_, (hal.cell (p := ⟨h, 0, none⟩) (block_lt_of_cell c0)).trans c0⟩ (by omega) (by omega) (by omega))
  have HAL := Hidden.mk hal
  have HF4 := Hidden.mk hf
  have HBK := Hidden.mk hbk
  obtain ⟨f0, f1, f2, f3⟩ := hf
  have hcw := hrow.le.2
  clear hp hg hb hs hh ha ha1 hrow hbl hcut hPT hpl hML hal hbk c0 hk
  go_enter Tryz.func91, Tryz.ntmps91
  go_wp2_with fail
  generalize w.alloc (.cells #[.int .i64 x, .int .i64 (ea : Int), .int .i64 (m : Int), .int .i64 tg] 66) = w1 at *
  refine HOF.out.mono ?_
  rintro e w2 ⟨rfl, hb2⟩
  have HB2 := Hidden.mk (HAL.out.trans (hb2.mono HAL.out.size))
  have HK2 := Hidden.mk ((hb2.block _ (block_lt_of_cell f0)).trans HBK.out)
  have HCL := Hidden.mk (clone_some ⟨g, ea, none⟩ m (cap - ea) body w2 HBL.out (by have := HBD.out; omega) (HCUT.out.below HB2.out))
  clear hb2 HOF f0 f1 f2 f3 HAL HF4 HBK
  go_wp2_with fail
  refine HCL.out.mono ?_
  rintro e w3 ⟨gB, cB, rfl, hgB, hrowB, hb3⟩
  have HB3 := Hidden.mk (HB2.out.trans (hb3.mono HB2.out.size))
  have hlt2 : w.heap.size < w2.heap.size := (Array.getElem?_eq_some_iff.1 HK2.out).1
  have hk3 := (hb3.block _ hlt2).trans HK2.out
  have hfz : w3.frozen? ⟨w.heap.size, 1, none⟩ = false := frozen_of_row _ _ 1 _ _ hk3
  have f0 : w3.cell? ⟨w.heap.size, 0, none⟩ = some (.int .i64 x) := by simp [World.cell?, hk3]
  have f1 : w3.cell? ⟨w.heap.size, 1, none⟩ = some (.int .i64 (ea : Int)) := by simp [World.cell?, hk3]
  have hk4 := heap_setK (k := 1) hk3 (.int .i64 (a : Int))
  have hrB4 := hrowB.block (Below.heap_setCell w3 ⟨w.heap.size, 1, none⟩ (.int .i64 (a : Int)) _ (show gB ≠ w.heap.size by omega))
  have HB4 := Hidden.mk (HB3.out.setCell (p := ⟨w.heap.size, 1, none⟩) (Nat.le_refl _) (.int .i64 (a : Int)))
  have hn4 : ¬ F gB := fun hk => by have := HP.out.flt _ hk; have := HB2.out.size; omega
  clear hlt2 hb3 HCL HK2 HCUT hgB hrowB
  have HP4 := Hidden.mk (HP.out.below HB4.out)
  have HRB := Hidden.mk hrB4
  have HN4 := Hidden.mk hn4
  clear hrB4 hn4
  go_upto_region 3 with (fail)
  generalize w3.setCell ⟨w.heap.size, 1, none⟩ (.int .i64 (a : Int)) = w4 at *
  have g0 : w4.cell? ⟨w.heap.size, 0, none⟩ = some (.int .i64 x) := by simp [World.cell?, hk4]
  have g1 : w4.cell? ⟨w.heap.size, 1, none⟩ = some (.int .i64 (a : Int)) := by simp [World.cell?, hk4]
  have g2 : w4.cell? ⟨w.heap.size, 2, none⟩ = some (.int .i64 (m : Int)) := by simp [World.cell?, hk4]
  have g3 : w4.cell? ⟨w.heap.size, 3, none⟩ = some (.int .i64 tg) := by simp [World.cell?, hk4]
  have HK4 := Hidden.mk hk4
  clear hk3 hfz f0 f1 hk4
  go_wp2_with fail
  refine (HPUT.out _ HP4.out).mono ?_
  rintro e w5 ⟨rfl, F5, hm5⟩
  have hno : ¬ F w.heap.size := fun hk => by have := HP.out.flt _ hk; omega
  have hk5 := (hm5.kp.block _ (Array.getElem?_eq_some_iff.1 HK4.out).1 hno).trans HK4.out
  have j0 : w5.cell? ⟨w.heap.size, 0, none⟩ = some (.int .i64 x) := by simp [World.cell?, hk5]
  have j1 : w5.cell? ⟨w.heap.size, 1, none⟩ = some (.int .i64 (a : Int)) := by simp [World.cell?, hk5]
  have j2 : w5.cell? ⟨w.heap.size, 2, none⟩ = some (.int .i64 (m : Int)) := by simp [World.cell?, hk5]
  have j3 : w5.cell? ⟨w.heap.size, 3, none⟩ = some (.int .i64 tg) := by simp [World.cell?, hk5]
  have HRB5 := Hidden.mk (hm5.rowB HRB.out HN4.out).1
  obtain ⟨gi, ci, cur5, y0, -, -, hci, -, -, -, -⟩ := hm5.hp.rowW
  rw [HPL.out] at y0 hci
  have HOF := Hidden.mk (hof_any (h := h) gi ci a m x tg w5 ⟨_, y0⟩ (by have := HBD.out; omega) (by have := HBD.out; omega) (by have := HBD.out; omega))
  have HM := Hidden.mk ((HP.out.same HB4.out).trans hm5)
  have HY0 := Hidden.mk y0
  clear g0 g1 g2 g3 hno hk5 hm5 y0 HPUT HK4 HRB HN4 HP4
  go_wp2_with fail
  refine HOF.out.mono ?_
  rintro e w6 ⟨rfl, hb6⟩
  have hm6 := HM.out.trans (HM.out.hp.same hb6)
  obtain ⟨g6, c6, cur6, z0, z1, z2, z3, -, -, -, z4⟩ := hm6.hp.rowW
  have hyz := ((hb6.cell (p := ⟨h, 0, none⟩) (block_lt_of_cell HY0.out)).trans HY0.out).symm.trans z0
  have hyz := Option.some.inj hyz
  injection hyz with q1 q2 q3
  injection q1 with q1
  injection q1 with q1
  subst q1 q3
  rw [HPL.out] at z3
  have hrb6 := HRB5.out.below hb6 HRB5.out.lt
  have hcp := fun ty => run_copy_rd w6 gi a m (ci - a) m cB m (some ⟨gB, 0, none⟩) body cur6 _ z1 HBL.out hrb6.rd (by simp) (by have := HBD.out; omega) ty
  have HFIN : Hidden (HpM w0 w (w6.setRow gi (setB cur6 a ((body.take m).map bv))) F F5 h (splice l1 a body)) := ⟨by
    have hbt : body.take m = body := List.take_of_length_le (by rw [HBL.out]; exact Nat.le_refl _)
    rw [hbt]
    have := z4 a body (by rw [HPL.out, HBL.out]; have := HBD.out; omega)
    exact hm6.trans ⟨this.1, this.2, fun k hk => .inl hk⟩⟩
  clear z0 z1 z2 z3 z4 hm6 hb6 HOF HM HY0 q2 hrb6 HRB5 j0 j1 j2 j3
  go_wp2_with fail
  go_ret
  exact ⟨rfl, F5, by have hF := HFIN.out; rw [List.map_take] at hF; exact hF⟩
end
end Go.Proofs.YtbnobjlphmkgeaaGreatDoor
/- Package move: Step, All, Gain; stat.Heap. -/
namespace Go.Proofs.YtbnobjlphmkgeaaGreatDoor
open Go.RowKit Go.Sort Go.Shelf Go.Lib

/-- is there a step; the image behind it -/
def stepB (l : Bytes) : Bool := (gapM 288 (sortM l)).isSome
def stepL (l : Bytes) : Bytes := match gapM 288 (sortM l) with
  | some (e, a) => moveL l (e.1 - 1).toNat a
  | none => l
theorem stepL_some {l : Bytes} {e : Ent} {a : Nat} (h : gapM 288 (sortM l) = some (e, a)) : stepL l = moveL l (e.1 - 1).toNat a := by unfold stepL; rw [h]
theorem stepL_none {l : Bytes} (h : gapM 288 (sortM l) = none) : stepL l = l := by unfold stepL; rw [h]
theorem gapM_ge : ∀ {S : List Ent} {b n : Nat} {e : Ent} {a : Nat}, TidyM b S n → gapM b S = some (e, a) → b ≤ a ∧ a < rAt e.2 ∧ e ∈ S
  | [], _, _, _, _, _, h => by cases h
  | x :: r, b, n, e, a, ⟨t1, t2, t3⟩, h => by
    unfold gapM at h
    by_cases hc : b < rAt x.2
    · rw [if_pos hc] at h
      have h' := Option.some.inj h
      injection h' with h3 h4
      subst h3 h4
      exact ⟨Nat.le_refl _, hc, List.mem_cons_self ..⟩
    · rw [if_neg hc] at h
      obtain ⟨g1, g2, g3⟩ := gapM_ge t3 h
      exact ⟨by omega, g2, List.mem_cons_of_mem _ g3⟩
section
variable {w0 w : World} {F : Nat → Prop} {h : Nat} {l : Bytes}
set_option maxRecDepth 100000 in
theorem mstep_any (hp : Hp w0 w F h l) (hg : Good l) :
    Calls Tryz.prog 23 #[.pointer (some ⟨h, 0, none⟩)] w fun e w' => e = .returned (.tuple #[.bool (stepB l), .nilIface]) ∧ ∃ F', HpM w0 w w' F F' h (stepL l) := by
  have hl40 : (entriesL l).length ≤ 40 := entsL_len _ _ 40
  have HC := Hidden.mk (hentries_any hp)
  have HP := Hidden.mk hp
  have htd := tidy_sortM hg
  have HSLN : Hidden ((sortM l).length = (entriesL l).length) := ⟨(sortM_perm l).length_eq⟩
  have HSB : Hidden (∀ e ∈ sortM l, rAt e.2 ≤ 6400 ∧ rLen e.2 ≤ 6400) := ⟨fun e he => by have := tidyM_mem htd e he; have := hg.bd; omega⟩
  have HSORT : Hidden (∀ W v, W.ownsRow w.heap.size 66 4 v (entriesL l).length ((entriesL l).flatMap ecells) → Calls Tryz.prog 88 #[v, .func (.func 89) #[] #[]] W fun e w' => e = .returned (.tuple #[]) ∧ w'.ownsRow w.heap.size 66 4 v (entriesL l).length ((sortM l).flatMap ecells) ∧ W.grownBy w' v.ownBlock) := ⟨fun W v hown => sortN_any W w.heap.size _ v (entriesL l) rfl (by omega) hown⟩
  have HMV : Hidden (∀ (W : World) (e : Ent) (a : Nat), Hp w0 W F h l → gapM 288 (sortM l) = some (e, a) → Calls Tryz.prog 91 #[.pointer (some ⟨h, 0, none⟩), .agg #[.int .i64 e.1, .int .i64 (rAt e.2), .int .i64 (rLen e.2), .int .i64 (rTag e.2)], .int .i64 (a : Int)] W fun e w' => e = .returned .nilIface ∧ ∃ F', HpM w0 W w' F F' h (stepL l)) := ⟨fun W e a hW hgap => by
    obtain ⟨g1, g2, g3⟩ := gapM_ge htd hgap
    obtain ⟨k, hk, hh, rfl⟩ := entL_mem.1 ((sortM_perm l).mem_iff.1 g3)
    rw [stepL_some hgap, show ((((k : Int) + 1, rawE l k) : Ent).1 - 1).toNat = k by dsimp only; omega]
    exact hmove_ok k a hW hg hk hh g1 g2⟩
  have HNO : Hidden (gapM 288 (sortM l) = none → stepL l = l) := ⟨stepL_none⟩
  have HB : Hidden (stepB l = (gapM 288 (sortM l)).isSome) := ⟨rfl⟩
  generalize stepL l = l' at *
  generalize stepB l = sb at *
  generalize sortM l = T at *
  generalize entriesL l = E at *
  generalize hm : E.length = m at *
  have HM := Hidden.mk hm
  clear hp hg htd hm
  go_enter Tryz.func23, Tryz.ntmps23
  go_wp2_with fail
  refine HC.out.mono ?_
  rintro e w1 ⟨v1, rfl, hown1, hb1⟩
  have HO1 := Hidden.mk (And.intro hown1 hb1)
  clear hown1 hb1 HC
  go_wp2_with fail
  refine (HSORT.out _ _ HO1.out.1).mono ?_
  rintro e w2 ⟨rfl, hown2, hg2⟩
  have hb2 : Below w.heap.size w w2 := HO1.out.2.grown hg2 HO1.out.2.size (fun q hq => (HO1.out.1.lt q hq).1)
  obtain ⟨A2, c2, rfl, hc2, -⟩ := own_split hown2
  have HRX := Hidden.mk (own_rdX3 (f := ecells) (fun _ => rfl) HSLN.out hown2)
  have HB2 := Hidden.mk hb2
  clear hown2 hb2 hg2 HO1 HSORT
  go_wp2_with fail
  go_loopg [5, 14] m (fun q av i wr => ∃ (k a : Nat), k ≤ m ∧ q = m - k ∧ i = .int .i64 (k : Int) ∧ av = .int .i64 (a : Int) ∧ a ≤ 12800 ∧ Hidden (gapM 288 T = gapM a (T.drop k) ∧ Below w2.heap.size w2 wr))
  case atStart => exact ⟨0, 288, by omega, rfl, rfl, rfl, by omega, ⟨by rw [List.drop_zero], Below.refl _ _⟩⟩
  case round =>
    obtain ⟨k, a, hk, rfl, rfl, rfl, ha, hst⟩ := hrel
    by_cases hlt : k < m
    · have hkT : k < T.length := by rw [HSLN.out]; exact hlt
      obtain ⟨pp, oo, rfl, hcx⟩ := (HRX.out.below hst.out.2) k hkT
      have x0 := hcx 0 _ rfl
      have x1 := hcx 1 _ rfl
      have x2 := hcx 2 _ rfl
      have x3 := hcx 3 _ rfl
      rw [Nat.add_zero] at x0
      have HG : Hidden (gapM 288 T = if a < rAt T[k].2 then some (T[k], a) else gapM (rAt T[k].2 + rLen T[k].2) (T.drop (k + 1))) := ⟨by rw [hst.out.1, List.drop_eq_getElem_cons hkT]; rfl⟩
      have hbd := HSB.out T[k] (List.getElem_mem hkT)
      have HMVK : Hidden (∀ W : World, Hp w0 W F h l → gapM 288 T = some (T[k], a) → Calls Tryz.prog 91 #[.pointer (some ⟨h, 0, none⟩), .agg #[.int .i64 T[k].1, .int .i64 (rAt T[k].2), .int .i64 (rLen T[k].2), .int .i64 (rTag T[k].2)], .int .i64 (a : Int)] W fun e w' => e = .returned .nilIface ∧ ∃ F', HpM w0 W w' F F' h l') := ⟨fun W hW hgap => HMV.out W _ a hW hgap⟩
      generalize T[k] = e at *
      have HSM : Hidden (gapM 288 T = some (e, a) → sb = true) := ⟨fun hh => by rw [HB.out, hh]; rfl⟩
      generalize some (e, a) = se at *
      generalize e.1 = e0 at *
      generalize rAt e.2 = e1 at *
      generalize rLen e.2 = e2 at *
      generalize rTag e.2 = e3 at *
      have i0 : (0 : Int) ≤ k := by omega
      have i1 : (k : Int) < m := by omega
      have s1 : IntKind.i64.wrap ((e1 : Int) + e2) = (e1 : Int) + e2 := IntWalk.i64_in _ (by omega)
      have s3 : IntKind.i64.wrap ((k : Int) + 1) = (k : Int) + 1 := IntWalk.i64_in _ (by omega)
      have hal : Below wr.heap.size wr (wr.alloc (.cells #[.int .i64 e0, .int .i64 e1, .int .i64 e2, .int .i64 e3] 66)) := (Below.refl _ _).alloc (Nat.le_refl _) _
      have HN := Hidden.mk (hst.out.2.trans (hal.mono hst.out.2.size))
      clear hcx hal hst
      by_cases hc : a < e1
      · have d1 : decide ((a : Int) < e1) = true := by simp; omega
        have d1' : decide (a < e1) = true := by simpa using hc
        have hgs : gapM 288 T = se := by rw [HG.out, if_pos hc]
        have hsb := HSM.out hgs
        subst hsb
        have hbw := HB2.out.trans (HN.out.mono HB2.out.size)
        have HCM := Hidden.mk (HMVK.out _ (HP.out.below hbw) hgs)
        have HBW := Hidden.mk (HP.out.same hbw)
        clear hgs hbw HSM HMVK HG hc
        go_wp2_with fail
        refine HCM.out.mono ?_
        rintro e w9 ⟨rfl, F', hm9⟩
        have HF := Hidden.mk (HBW.out.trans hm9)
        clear hm9 HCM
        go_wp2_with fail
        go_ret2
        exact ⟨rfl, F', HF.out⟩
      · have d1 : decide ((a : Int) < e1) = false := by simp; omega
        have d1' : decide (a < e1) = false := by simpa using hc
        have hgs : Hidden (gapM 288 T = gapM (e1 + e2) (T.drop (k + 1))) := ⟨by rw [HG.out, if_neg hc]⟩
        clear HSM HMVK HG hc
        go_wp2_with fail
        go_roundg (m - (k + 1))
        case measure => omega
        case rel => exact ⟨k + 1, e1 + e2, by omega, rfl, by go_num, by go_num, by omega, ⟨hgs.out, HN.out⟩⟩
    · obtain rfl : k = m := by omega
      have hgn : gapM 288 T = none := by rw [hst.out.1, List.drop_eq_nil_of_le (by rw [HSLN.out]; exact Nat.le_refl _)]; rfl
      have hsb : sb = false := by rw [HB.out, hgn]; rfl
      have hll := HNO.out hgn
      subst hsb hll
      have HF := Hidden.mk (HP.out.same (HB2.out.trans (hst.out.2.mono HB2.out.size)))
      clear hst hgn
      go_wp2_with fail
      go_ret2
      exact ⟨rfl, F, HF.out⟩
end
end Go.Proofs.YtbnobjlphmkgeaaGreatDoor
/- Package move: All, Gain; stat.Heap. -/
namespace Go.Proofs.YtbnobjlphmkgeaaGreatDoor
open Go.RowKit

/-- what moving leaves as it was -/
structure MovedR (l l' : Bytes) : Prop where
  good : Good l'
  len : l'.length = l.length
  obj : ∀ j, j < 40 → objT l' j = objT l j ∧ objS l' j = objS l j
  roots : rootsL l' = rootsL l
  rots : ∀ i, i < 8 → rawR l' i = rawR l i
  many : (takenL l').length = (takenL l).length
  sum : sumX (takenL l') = sumX (takenL l)
  has : ∀ j, j < 40 → hasE (rawE l' j) = hasE (rawE l j)
theorem MovedR.refl {l : Bytes} (hg : Good l) : MovedR l l := ⟨hg, rfl, fun _ _ => ⟨rfl, rfl⟩, rfl, fun _ _ => rfl, rfl, rfl, fun _ _ => rfl⟩
theorem MovedR.trans {l l' l'' : Bytes} (a : MovedR l l') (b : MovedR l' l'') : MovedR l l'' :=
  ⟨b.good, b.len.trans a.len, fun j hj => ⟨(b.obj j hj).1.trans (a.obj j hj).1, (b.obj j hj).2.trans (a.obj j hj).2⟩, b.roots.trans a.roots, fun i hi => (b.rots i hi).trans (a.rots i hi), b.many.trans a.many, b.sum.trans a.sum, fun j hj => (b.has j hj).trans (a.has j hj)⟩
theorem MoveIs.moved {l l' : Bytes} {k a : Nat} (h : MoveIs l l' k a) (hg : Good l) : MovedR l l' := by
  obtain ⟨t1, t2⟩ := h.taken hg
  refine ⟨h.good hg, h.len, fun j hj => h.keep hg hj, h.roots, h.rots, t1, t2, fun j hj => ?_⟩
  by_cases e : j = k
  · rw [e, (h.ent hg).1, h.has]
  · rw [h.ents j hj, if_neg e]
theorem step_moved {l : Bytes} (hg : Good l) : MovedR l (stepL l) ∧ (stepB l = true → packM 288 (sortM (stepL l)) < packM 288 (sortM l)) ∧ (stepB l = false → stepL l = l ∧ gapM 288 (sortM l) = none) := by
  cases hgap : gapM 288 (sortM l) with
  | none => exact ⟨by rw [stepL_none hgap]; exact MovedR.refl hg, fun h => (by unfold stepB at h; rw [hgap] at h; cases h), fun _ => ⟨stepL_none hgap, rfl⟩⟩
  | some p =>
    obtain ⟨e, a⟩ := p
    obtain ⟨k, he, hM, hp⟩ := step_is hg hgap
    have hk : (e.1 - 1).toNat = k := by rw [he]; dsimp only; omega
    have hs := stepL_some hgap
    rw [hk] at hs
    exact ⟨by rw [hs]; exact hM.moved hg, fun _ => (by rw [hs]; exact hp), fun h => (by unfold stepB at h; rw [hgap] at h; cases h)⟩
section
variable {w0 w : World} {F : Nat → Prop} {h : Nat} {l : Bytes}
end
end Go.Proofs.YtbnobjlphmkgeaaGreatDoor
/- UndoBack: the plain law: how many bytes differ, and what an op makes of an image. -/
namespace Go.Proofs.YtbnobjlphmkgeaaGreatDoor
open Go.RowKit

/-- an image that came of another by one op -/
structure StepR (l l' : Bytes) : Prop where
  good : Good l'
  len : l'.length = l.length
theorem stepR_alloc {l : Bytes} (hg : Good l) (n t : Int) : StepR l (allocL l n t) := by
  refine ⟨alloc_good hg _ _, ?_⟩
  by_cases h0 : allocE l n t = 0
  · obtain ⟨k, a, n', t', _, _, _, _, h⟩ := alloc_is hg h0
    exact h.len
  · have : allocL l n t = l := by unfold allocL; rw [if_neg h0]
    rw [this]
theorem stepR_free {l : Bytes} (hg : Good l) (x : Int) : StepR l (freeL l x) := by
  refine ⟨free_good hg _, ?_⟩
  by_cases h0 : freeE l x = 0
  · obtain ⟨k, _, h⟩ := free_is hg h0
    exact h.len
  · have : freeL l x = l := by unfold freeL; rw [if_neg h0]
    rw [this]
theorem stepR_write {l : Bytes} (hg : Good l) (x c : Int) (b : Bytes) : StepR l (writeL l x c b) := by
  refine ⟨write_good hg x c b, ?_⟩
  by_cases h : someE l x c b.length = 0
  · obtain ⟨k, o, _, _, hw⟩ := write_is hg h
    exact hw.len
  · have : writeL l x c b = l := by unfold writeL; rw [if_neg h]
    rw [this]
theorem stepR_set {l : Bytes} (hg : Good l) (s : Bytes) (x : Int) : StepR l (setL l s x) := by
  by_cases h : setE l s x = 0
  · have hs := setE_is hg h
    obtain ⟨i, hp⟩ := hs.puts
    exact ⟨hs.good, hp.len hg.bd.1⟩
  · have : setL l s x = l := by unfold setL; rw [if_neg h]
    rw [this]; exact ⟨hg, rfl⟩
theorem stepR_unset {l : Bytes} (hg : Good l) (s : Bytes) : StepR l (unL l s) := by
  refine ⟨unL_good hg, ?_⟩
  unfold unL
  split
  · rename_i h
    obtain ⟨p1, -⟩ := placeF_spec l s 8 (Nat.le_refl _)
    have hb := hg.bd
    rw [splice_len _ _ _ (by
      rw [List.length_replicate]
      rcases p1 with ⟨p1, -⟩ | ⟨i, h1, h2, h3, -⟩
      · exfalso
        unfold unE at h
        split at h
        · omega
        · rw [if_pos (by rw [p1]; decide)] at h; omega
      · rw [h3, Int.toNat_natCast]; omega)]
  · rfl
theorem stepR_moved {l l' : Bytes} (h : MovedR l l') : StepR l l' := ⟨h.good, h.len⟩
theorem StepR.refl {l : Bytes} (hg : Good l) : StepR l l := ⟨hg, rfl⟩
theorem StepR.trans {l l' l'' : Bytes} (a : StepR l l') (b : StepR l' l'') : StepR l l'' := ⟨b.good, b.len.trans a.len⟩
end Go.Proofs.YtbnobjlphmkgeaaGreatDoor
/- What comes in: slices of ops. -/
namespace Go.Proofs.YtbnobjlphmkgeaaGreatDoor
open Go.RowKit Go.ChangeShapes Go.WideShapes Go.ChangeAt

/-- an op: what, handle, at, len, name, body -/
structure OpX where
  what : Int
  handle : Int
  at_ : Int
  len : Int
  name : Bytes
  A : Option Addr
  cap : Nat
  body : Bytes
  deriving Inhabited
def ocells (x : OpX) : List Value := [.int .i64 x.what, .int .i64 x.handle, .int .i64 x.at_, .int .i64 x.len, sv x.name, .slice x.A x.body.length x.cap]
structure OpOk (w : World) (x : OpX) : Prop where
  what : -9223372036854775808 ≤ x.what ∧ x.what ≤ 9223372036854775807
  handle : -9223372036854775808 ≤ x.handle ∧ x.handle ≤ 9223372036854775807
  at_ : -9223372036854775808 ≤ x.at_ ∧ x.at_ ≤ 9223372036854775807
  len : -9223372036854775808 ≤ x.len ∧ x.len ≤ 9223372036854775807
  name : x.name.length ≤ 140737488351232
  cap : x.body.length ≤ x.cap
  le : x.cap ≤ 140737488351232
  rd : Rd w x.A x.body
theorem OpOk.below {w w' : World} {x : OpX} (h : OpOk w x) (hb : Below w.heap.size w w') : OpOk w' x := ⟨h.what, h.handle, h.at_, h.len, h.name, h.cap, h.le, h.rd.below hb⟩
section
variable {H : Type} {enc : TypeId × Value → H} {w : World} {v : Value} {d : DataW H} {ps : List MemPlace} {base : Nat} {r : Reach}
set_option maxRecDepth 20000 in
theorem open_ops (hv : Value.okWide Tryz.prog w r base 23 v) (h : DataW.Trod enc Tryz.prog w 0 (fun _ => true) true 23 v d ps) (hz : (d.weights Tryz.prog 23).all (· ≤ reachBytes) = true) :
    ∃ (A : Option Addr) (c : Nat) (L : List OpX), v = .slice A L.length c ∧ L.length ≤ c ∧ c ≤ 140737488351232 ∧ (∀ x ∈ L, OpOk w x) ∧ RdX ocells 6 w A L := by
  have hb : decide (1 ≤ Tryz.prog.bytesOf 35) = true := by kernel_rfl
  have hC : Tryz.prog.cellsOf 35 = 6 := by kernel_rfl
  refine open_seq (P := Tryz.prog) ocells 6 OpOk Tryz.underlying23 hC (by omega) (of_decide_eq_true hb) (fun n cs x hl ht hz => ?_) hv h hz
  match cs, hl with
  | [c0, c1, c2, c3, c4, c5], _ =>
    obtain ⟨xs, m, _, hx, _, hlen, hg⟩ := DataW.trod_struct Tryz.underlying35 ht
    match xs, hlen with
    | [y0, y1, y2, y3, y4, y5], _ =>
      have k0 : Tryz.prog.cellsOf 3 = 1 := by kernel_rfl
      have k1 : Tryz.prog.cellsOf 9 = 1 := by kernel_rfl
      have k2 : Tryz.prog.cellsOf 22 = 1 := by kernel_rfl
      have t0 : DataW.trod enc Tryz.prog w 0 (fun _ => true) true m 3 [c0] = some y0 := by simpa [k0] using hg 0 _ rfl
      have t1 : DataW.trod enc Tryz.prog w 0 (fun _ => true) true m 3 [c1] = some y1 := by simpa [k0] using hg 1 _ rfl
      have t2 : DataW.trod enc Tryz.prog w 0 (fun _ => true) true m 3 [c2] = some y2 := by simpa [k0] using hg 2 _ rfl
      have t3 : DataW.trod enc Tryz.prog w 0 (fun _ => true) true m 3 [c3] = some y3 := by simpa [k0] using hg 3 _ rfl
      have t4 : DataW.trod enc Tryz.prog w 0 (fun _ => true) true m 9 [c4] = some y4 := by simpa [k1] using hg 4 _ rfl
      have t5 : DataW.trod enc Tryz.prog w 0 (fun _ => true) true m 22 [c5] = some y5 := by simpa [k2] using hg 5 _ rfl
      obtain ⟨a0, ha0, -, wa0⟩ := DataW.trod_int Tryz.underlying3 t0
      obtain ⟨a1, ha1, -, wa1⟩ := DataW.trod_int Tryz.underlying3 t1
      obtain ⟨a2, ha2, -, wa2⟩ := DataW.trod_int Tryz.underlying3 t2
      obtain ⟨a3, ha3, -, wa3⟩ := DataW.trod_int Tryz.underlying3 t3
      obtain ⟨s, ha4, hy4, -⟩ := DataW.trod_string Tryz.underlying9 t4
      simp only [List.cons.injEq, and_true] at ha0 ha1 ha2 ha3 ha4
      subst ha0 ha1 ha2 ha3 ha4 hy4
      rw [hx] at hz
      simp only [DataW.weights, Tryz.underlying35, DataW.weightsEach, List.all_append, Bool.and_eq_true, List.map_cons, List.map_nil] at hz
      obtain ⟨-, -, -, -, z4, z5, -⟩ := hz
      obtain ⟨A, c, l, hb', hc, hm, hr⟩ := open_bytes_in Tryz.underlying22 Tryz.underlying5 (by kernel_rfl) (by kernel_rfl) t5 z5
      have h2 := of_decide_eq_true (List.all_eq_true.1 z4 s.data.toList.length (by simp))
      have h3 : reachBytes = 140737488351232 := by decide
      exact ⟨⟨a0, a1, a2, a3, s.data.toList, A, c, l⟩, by rw [hb']; rfl, wf_i64' wa0, wf_i64' wa1, wf_i64' wa2, wf_i64' wa3, by simp only at *; omega, hc, hm, hr⟩
end
end Go.Proofs.YtbnobjlphmkgeaaGreatDoor
/- Package reach: what an object names. -/
namespace Go.Proofs.YtbnobjlphmkgeaaGreatDoor
open Go.RowKit

theorem indexN_any (A : Option Addr) (n c : Nat) (L : List Nat) (x : Nat) (w : World) (hn : L.length = n) (hl : n ≤ 100000) (hr : RdX ncell 1 w A L) :
    Calls Tryz.prog 248 #[.slice A n c, .int .i64 (x : Int)] w fun e w' => ∃ z : Int, e = .returned (.int .i64 z) ∧ decide (0 ≤ z) = decide (x ∈ L) ∧ w = w' := by
  subst hn
  go_enter Tryz.func248, Tryz.ntmps248
  go_wp2_with fail
  go_loopw [8] (fun i wr => w = wr ∧ ∃ k : Nat, k ≤ L.length ∧ i = .int .i64 k ∧ Hidden (x ∉ L.take k)) (fun i _ => L.length - (intOf i).toNat)
  case atStart => exact ⟨rfl, 0, Nat.zero_le _, rfl, ⟨by simp⟩⟩
  case round =>
    obtain ⟨rfl, k, hk, rfl, hnot⟩ := hrel
    by_cases hlt : k < L.length
    · obtain ⟨b, off, rfl, hcx⟩ := hr k hlt
      have c0 : w.cell? ⟨b, off + k, none⟩ = some (.int .i64 (L[k] : Int)) := by simpa using hcx 0 _ rfl
      have i0 : (0 : Int) ≤ k := by omega
      have i1 : (k : Int) < L.length := by omega
      by_cases he : x = L[k]
      · have hi : Hidden (true = decide (x ∈ L)) := ⟨(decide_eq_true (he ▸ List.getElem_mem hlt)).symm⟩
        have d1 : decide ((x : Int) = (L[k] : Int)) = true := decide_eq_true (by omega)
        have d2 : ((x : Int) == (L[k] : Int)) = true := by simp; omega
        have d3 : decide (x = L[k]) = true := decide_eq_true he
        generalize L[k] = y at *
        clear hcx he
        go_wp2_with fail
        go_ret
        exact ⟨_, rfl, by rw [← hi.out]; simp, rfl⟩
      · have hnk : Hidden (x ∉ L.take (k + 1)) := ⟨fun h => by
          rw [List.take_succ_eq_append_getElem hlt] at h
          rcases List.mem_append.1 h with h | h
          · exact hnot.out h
          · simp only [List.mem_singleton] at h; exact he h⟩
        have d1 : decide ((x : Int) = (L[k] : Int)) = false := decide_eq_false (by omega)
        have d2 : ((x : Int) == (L[k] : Int)) = false := by simp; omega
        have d3 : decide (x = L[k]) = false := decide_eq_false he
        generalize L[k] = y at *
        clear hnot hcx he
        go_wp2_with fail
        go_roundw
        case rel => exact ⟨by trivial, k + 1, by omega, by go_num, hnk⟩
        case measure => simp [intOf]; omega
    · have hi : Hidden (false = decide (x ∈ L)) := ⟨by
        have := hnot.out
        rw [List.take_of_length_le (by omega)] at this
        exact (decide_eq_false this).symm⟩
      go_wp2_with fail
      go_ret
      exact ⟨-1, rfl, by rw [← hi.out]; rfl, rfl⟩
theorem containsN_any (A : Option Addr) (n c : Nat) (L : List Nat) (x : Nat) (w : World) (hn : L.length = n) (hl : n ≤ 100000) (hr : RdX ncell 1 w A L) :
    Calls Tryz.prog 227 #[.slice A n c, .int .i64 (x : Int)] w fun e w' => e = .returned (.bool (decide (x ∈ L))) ∧ w = w' := by
  have HC := Hidden.mk (indexN_any A n c L x w hn hl hr)
  go_enter Tryz.func227, Tryz.ntmps227
  go_wp2_with fail
  refine HC.out.mono ?_
  rintro e w1 ⟨z, rfl, hz, rfl⟩
  have HZ := Hidden.mk hz
  clear hz
  go_wp2_with fail
  go_ret
  exact ⟨congrArg (fun b => Ending.returned (.bool b)) HZ.out, rfl⟩
/-- the objects that some bytes name -/
def refB (l : Bytes) (out : List Nat) (c : UInt8) : List Nat := if hE l (c.toNat : Int) = 0 ∧ c.toNat ∉ out then out ++ [c.toNat] else out
def refsB (l b : Bytes) : List Nat := b.foldl (refB l) []
/-- the objects that an object names -/
def refsL (l : Bytes) (x : Int) : List Nat := refsB l (readL l x 0 (min (gL l x) (gT l x)))
theorem refsB_succ (l b : Bytes) (k : Nat) (hk : k < b.length) : refsB l (b.take (k + 1)) = refB l (refsB l (b.take k)) b[k] := by
  unfold refsB; rw [List.take_succ_eq_append_getElem hk, List.foldl_append]; rfl
theorem refsB_len (l b : Bytes) : ∀ k, k ≤ b.length → (refsB l (b.take k)).length ≤ k
  | 0, _ => by simp [refsB]
  | k + 1, hk => by
    rw [refsB_succ l b k hk]
    have := refsB_len l b k (by omega)
    unfold refB
    split
    · simp; omega
    · omega
theorem refsB_mem (l b : Bytes) : ∀ k, k ≤ b.length → ∀ x ∈ refsB l (b.take k), hE l (x : Int) = 0
  | 0, _, x, h => by simp [refsB] at h
  | k + 1, hk, x, h => by
    rw [refsB_succ l b k hk] at h
    unfold refB at h
    split at h
    · rename_i hc
      rcases List.mem_append.1 h with h | h
      · exact refsB_mem l b k (by omega) x h
      · simp only [List.mem_singleton] at h; subst h; exact hc.1
    · exact refsB_mem l b k (by omega) x h
section
variable {w0 w : World} {F : Nat → Prop} {h : Nat} {l : Bytes}
set_option maxRecDepth 100000 in
theorem refs_any (x : Int) (hp : Hp w0 w F h l) (hg : Good l) :
    Calls Tryz.prog 208 #[.pointer (some ⟨h, 0, none⟩), .int .i64 x] w fun e w' => ∃ v, e = .returned v ∧ w'.ownsRow w.heap.size 3 1 v (refsL l x).length ((refsL l x).flatMap ncell) ∧ Below w.heap.size w w' := by
  obtain ⟨i0', hi0, hz0, hz1, hz2⟩ := info_parts int_infoC
  have HI := Hidden.mk (And.intro hi0 (And.intro hz0 (And.intro hz1 hz2)))
  have HP := Hidden.mk hp
  have HSZ := Hidden.mk (hsize_any x hp)
  have HTG : Hidden (∀ (y : Int) (W : World), Below w.heap.size w W → Calls Tryz.prog 31 #[.pointer (some ⟨h, 0, none⟩), .int .i64 y] W fun e w' => e = .returned (.tuple #[.int .i64 (gT l y), errV (hE l y)]) ∧ Below W.heap.size W w') := ⟨fun y W hW => htag_any y (hp.below hW)⟩
  have hgl : gL l x ≤ 65535 := by
    unfold gL; split
    · have := rLen_le (hR l x); omega
    · omega
  have HRD : Hidden (∀ W, Below w.heap.size w W → Calls Tryz.prog 27 #[.pointer (some ⟨h, 0, none⟩), .int .i64 x, .int .i64 0, .int .i64 (min (gL l x) (gT l x))] W fun e w' => ∃ A' c', e = .returned (.tuple #[.slice A' (readL l x 0 (min (gL l x) (gT l x))).length c', errV (someE l x 0 (min (gL l x) (gT l x)))]) ∧ (readL l x 0 (min (gL l x) (gT l x))).length ≤ c' ∧ Rd w' A' (readL l x 0 (min (gL l x) (gT l x))) ∧ (∀ ad, A' = some ad → W.heap.size ≤ ad.block) ∧ Below W.heap.size W w') := ⟨fun W hW => hread_any x 0 _ (hp.below hW) hg (by omega)⟩
  have hbl : (readL l x 0 (min (gL l x) (gT l x))).length ≤ 65535 := by
    unfold readL; split
    · simp; omega
    · simp
  have HRL : Hidden (refsL l x = refsB l (readL l x 0 (min (gL l x) (gT l x)))) := ⟨rfl⟩
  generalize readL l x 0 (min (gL l x) (gT l x)) = b at *
  generalize refsL l x = R at *
  generalize errV (someE l x 0 (min (gL l x) (gT l x))) = er at *
  have HTX := Hidden.mk (HTG.out x)
  generalize errV (hE l x) = ex at *
  generalize gL l x = n0 at *
  generalize gT l x = t0 at *
  clear hi0 hz0 hz1 hz2 hp hg
  go_enter Tryz.func208, Tryz.ntmps208
  go_wp2_with fail
  refine HSZ.out.mono ?_
  rintro e w1 ⟨rfl, hb1⟩
  have HB1 := Hidden.mk hb1
  clear hb1 HSZ
  go_wp2_with fail
  refine (HTX.out w1 HB1.out).mono ?_
  rintro e w2 ⟨rfl, hb2⟩
  have HB2 := Hidden.mk (HB1.out.trans (hb2.mono HB1.out.size))
  clear hb2 HTX HB1
  go_wp2_with fail
  refine (HRD.out w2 HB2.out).mono ?_
  rintro e w3 ⟨A3, c3, rfl, hc3, hr3, -, hb3⟩
  have HB3 := Hidden.mk (HB2.out.trans (hb3.mono HB2.out.size))
  have HR3 := Hidden.mk hr3
  generalize hm : b.length = m at *
  have HM := Hidden.mk hm
  clear hc3 hr3 hb3 HRD HB2 hm
  go_wp2_with fail
  go_loopg [4, 38] m (fun q v i wr => ∃ k : Nat, k ≤ m ∧ q = m - k ∧ i = .int .i64 (k : Int) ∧ Hidden (Below w3.heap.size w3 wr ∧ wr.ownsRow w3.heap.size 3 1 v (refsB l (b.take k)).length ((refsB l (b.take k)).flatMap ncell)))
  case atStart => exact ⟨0, by omega, rfl, rfl, ⟨Below.refl _ _, World.ownsRow_nil _ _ _ _⟩⟩
  case round =>
    obtain ⟨k, hk, rfl, rfl, hst⟩ := hrel
    by_cases hlt : k < m
    · have hkb : k < b.length := by rw [HM.out]; exact hlt
      have HS := Hidden.mk (refsB_succ l b k hkb)
      have hll := refsB_len l b k (by omega)
      obtain ⟨pb, ob, rfl, x0⟩ := (HR3.out.below hst.out.1) k hkb
      obtain ⟨A4, c4, rfl, hc4, hc4m⟩ := own_split hst.out.2
      have hc255 := u8_lt b[k]
      have HO4 := Hidden.mk hst.out
      have HBW : Hidden (Below w.heap.size w wr) := ⟨HB3.out.trans (hst.out.1.mono HB3.out.size)⟩
      generalize b[k] = cb at *
      generalize refsB l (b.take k) = L at *
      generalize hL2 : refsB l (b.take (k + 1)) = L2 at *
      have HL2 := Hidden.mk hL2
      have i0 : (0 : Int) ≤ k := by omega
      have i1 : (k : Int) < m := by omega
      have s1 : IntKind.i64.wrap (cb.toNat : Int) = (cb.toNat : Int) := IntWalk.i64_in _ (by omega)
      have s3 : IntKind.i64.wrap ((k : Int) + 1) = (k : Int) + 1 := IntWalk.i64_in _ (by omega)
      have HT := Hidden.mk (HTG.out (cb.toNat : Int) wr HBW.out)
      generalize gT l (cb.toNat : Int) = tg at *
      clear hst hL2
      by_cases h0 : hE l (cb.toNat : Int) = 0
      · rw [h0, show errV 0 = Value.nilIface from rfl] at HT
        have HS1 : Hidden (L2 = if cb.toNat ∉ L then L ++ [cb.toNat] else L) := ⟨by rw [HS.out]; unfold refB; simp only [h0, true_and]⟩
        clear h0 HS
        go_wp2_with fail
        refine HT.out.mono ?_
        rintro e w5 ⟨rfl, hb5⟩
        have HO5 : Hidden (Below w3.heap.size w3 w5 ∧ w5.ownsRow w3.heap.size 3 1 (.slice A4 L.length c4) L.length (L.flatMap ncell)) := ⟨HO4.out.1.trans (hb5.mono HO4.out.1.size), own_below HO4.out.2 hb5⟩
        have HCN := Hidden.mk (containsN_any A4 L.length c4 L cb.toNat w5 rfl (by omega) (own_rdX3 (f := ncell) (fun _ => rfl) rfl HO5.out.2))
        clear hb5 HT HO4
        by_cases hin : cb.toNat ∈ L
        · rw [decide_eq_true hin] at HCN
          have HLL : Hidden (L2 = L) := ⟨by rw [HS1.out, if_neg (fun h => h hin)]⟩
          clear hin HS1
          go_wp2_with fail
          refine HCN.out.mono ?_
          rintro e w6 ⟨rfl, rfl⟩
          clear HCN
          go_wp2_with fail
          go_roundg (m - (k + 1))
          case measure => omega
          case rel => exact ⟨k + 1, by omega, rfl, by go_num, ⟨by rw [HL2.out, HLL.out]; exact HO5.out⟩⟩
        · rw [decide_eq_false hin] at HCN
          have HLL : Hidden (L2 = L ++ [cb.toNat]) := ⟨by rw [HS1.out, if_pos hin]⟩
          obtain ⟨hi0, hz0, hz1, hz2⟩ := HI.out
          clear hin HS1
          go_wp2_with fail
          refine HCN.out.mono ?_
          rintro e w6 ⟨rfl, rfl⟩
          clear HCN
          go_wp2_with (at_builtin; refine wpList_append_lies _ rfl (.tmp 58) (.tmp 61) _ rfl w3.heap.size 3 i0' _ 1 8 Tryz.underlying54 hi0 hz0 hz1 hz2 rfl (by decide) (.slice A4 L.length c4) L.length (L.flatMap ncell) rfl (own_below HO5.out.2 ((Below.refl _ _).alloc (Nat.le_refl _) _)) ⟨(w5).heap.size, 0, none⟩ 1 1 [.int .i64 (cb.toNat : Int)] rfl rfl (World.news_of_block (cs := #[.int .i64 (cb.toNat : Int)]) (t := 3) (fr := (0, 0)) (heap_alloc_new (w5) _)) (by simp [Value.oneCell']) (by omega) (by simp only [maxLen]; omega) (by omega) (by have hz_ := HO5.out.1.size; rw [World.size_alloc]; omega) ((w5).heap.size + 1) (by simp) ?_; intro g8 cap8 w8 hown8 hg8 hat8 hlt8)
          have hgW := grown_trans' ((Below.refl w5.heap.size w5).alloc (Nat.le_refl _) _) hg8
          have hB8 : Below w3.heap.size w3 w8 := HO5.out.1.grown hgW HO5.out.1.size (fun q hq => (HO5.out.2.lt q hq).1)
          have HF : Hidden (Below w3.heap.size w3 w8 ∧ w8.ownsRow w3.heap.size 3 1 (.slice (some ⟨g8, 0, none⟩) (L.length + 1) cap8) L2.length (L2.flatMap ncell)) := ⟨hB8, by rw [HLL.out]; simpa [ncell] using hown8⟩
          clear hgW hB8 hown8 hg8 hat8 hlt8 hi0 hz0 hz1 hz2
          go_roundg (m - (k + 1))
          case measure => omega
          case rel => exact ⟨k + 1, by omega, rfl, by go_num, ⟨by rw [HL2.out]; exact HF.out⟩⟩
      · obtain ⟨ec, hec⟩ : ∃ ec, hE l (cb.toNat : Int) = ec + 1 := ⟨hE l (cb.toNat : Int) - 1, by omega⟩
        have HLL : Hidden (L2 = L) := ⟨by rw [HS.out]; unfold refB; rw [if_neg (fun h => h0 h.1)]⟩
        rw [hec, show errV (ec + 1) = .iface 111 (.int .i64 ((ec + 1 : Nat) : Int)) from rfl] at HT
        clear h0 hec HS
        go_wp2_with fail
        refine HT.out.mono ?_
        rintro e w5 ⟨rfl, hb5⟩
        have HO5 : Hidden (Below w3.heap.size w3 w5 ∧ w5.ownsRow w3.heap.size 3 1 (.slice A4 L.length c4) L.length (L.flatMap ncell)) := ⟨HO4.out.1.trans (hb5.mono HO4.out.1.size), own_below HO4.out.2 hb5⟩
        clear hb5 HT HO4
        go_wp2_with fail
        go_roundg (m - (k + 1))
        case measure => omega
        case rel => exact ⟨k + 1, by omega, rfl, by go_num, ⟨by rw [HL2.out, HLL.out]; exact HO5.out⟩⟩
    · have hkm : k = m := by omega
      have hT := hst.out
      rw [hkm, List.take_of_length_le (by rw [HM.out]; exact Nat.le_refl _), ← HRL.out] at hT
      have HF : Hidden (wr.ownsRow w.heap.size 3 1 u4 R.length (R.flatMap ncell) ∧ Below w.heap.size w wr) := ⟨own_base hT.2 HB3.out.size, HB3.out.trans (hT.1.mono HB3.out.size)⟩
      have dk : decide ((k : Int) < m) = false := decide_eq_false (by omega)
      have dk' : decide (k < m) = false := decide_eq_false (by omega)
      clear hT hst hkm
      go_wp2_with fail
      go_ret
      exact ⟨_, rfl, HF.out.1, HF.out.2⟩
end
end Go.Proofs.YtbnobjlphmkgeaaGreatDoor
/- Package reach, plain: who is led to, level by level, and by which way. -/
namespace Go.Proofs.YtbnobjlphmkgeaaGreatDoor
open Go.RowKit

def sortNat (L : List Nat) : List Nat := L.mergeSort (fun x y => decide (x ≤ y))
theorem sortNat_mem {L : List Nat} {x : Nat} : x ∈ sortNat L ↔ x ∈ L := by unfold sortNat; exact List.mem_mergeSort
theorem sortNat_len (L : List Nat) : (sortNat L).length = L.length := by unfold sortNat; exact List.length_mergeSort _
theorem sortNat_up (L : List Nat) : (sortNat L).Pairwise (· ≤ ·) := by
  have := List.pairwise_mergeSort (le := fun x y : Nat => decide (x ≤ y)) (fun a b c h1 h2 => by simp only [decide_eq_true_eq] at *; omega) (fun a b => by simp only [Bool.or_eq_true, decide_eq_true_eq]; omega) L
  exact this.imp fun h => of_decide_eq_true h
/-- what compacting leaves, plain -/
def dedup : List Nat → List Nat
  | [] => []
  | [x] => [x]
  | x :: y :: r => if x = y then dedup (y :: r) else x :: dedup (y :: r)
theorem dedup_mem (x : Nat) : ∀ L, x ∈ dedup L ↔ x ∈ L
  | [] => Iff.rfl
  | [y] => Iff.rfl
  | y :: z :: r => by
    unfold dedup
    split
    · rename_i h
      rw [dedup_mem x (z :: r), h]; simp
    · rw [List.mem_cons, dedup_mem x (z :: r), List.mem_cons (b := y)]
theorem dedup_up : ∀ L : List Nat, L.Pairwise (· ≤ ·) → (dedup L).Pairwise (· < ·)
  | [], _ => List.Pairwise.nil
  | [y], _ => List.pairwise_singleton ..
  | y :: z :: r, h => by
    have h1 := (List.pairwise_cons.1 h)
    unfold dedup
    split
    · exact dedup_up _ h1.2
    · rename_i hn
      refine List.pairwise_cons.2 ⟨fun a ha => ?_, dedup_up _ h1.2⟩
      have ha' := (dedup_mem a _).1 ha
      have h2 := List.pairwise_cons.1 h1.2
      have hyz := h1.1 z (List.mem_cons_self ..)
      rcases List.mem_cons.1 ha' with rfl | hr
      · omega
      · have := h2.1 a hr; omega
theorem mem_compact {L : List Int} {x : Int} : x ∈ Lib.compact L ↔ x ∈ L := by
  unfold Lib.compact Lib.compactUpTo
  rw [List.mem_map]
  constructor
  · rintro ⟨j, hj, rfl⟩
    have hj' := List.mem_range.1 (List.mem_filter.1 hj).1
    rw [getElem!_pos _ j (by simpa using hj')]
    simp
  · intro hx
    have hex : ∃ j : Nat, ∃ h : j < L.length, L[j] = x := by
      obtain ⟨j, hj, he⟩ := List.getElem_of_mem hx
      exact ⟨j, hj, he⟩
    -- the first place where it stands
    have hmin : ∃ j : Nat, (∃ h : j < L.length, L[j] = x) ∧ ∀ i, i < j → ¬ ∃ h : i < L.length, L[i] = x := by
      obtain ⟨j, hj⟩ := hex
      induction j using Nat.strongRecOn with
      | ind j ih =>
        by_cases hb : ∃ i, i < j ∧ ∃ h : i < L.length, L[i] = x
        · obtain ⟨i, hi, hx'⟩ := hb; exact ih i hi hx'
        · exact ⟨j, hj, fun i hi hx' => hb ⟨i, hi, hx'⟩⟩
    obtain ⟨j, ⟨hj, he⟩, hno⟩ := hmin
    refine ⟨j, List.mem_filter.2 ⟨List.mem_range.2 hj, ?_⟩, ?_⟩
    · unfold Lib.keeps
      refine decide_eq_true ?_
      by_cases h0 : j = 0
      · exact .inl h0
      · refine .inr fun h => hno (j - 1) (by omega) ⟨by omega, ?_⟩
        rw [getElem!_pos _ j (by simpa using hj), getElem!_pos _ (j - 1) (by simp; omega)] at h
        simpa [he] using h.symm
    · rw [getElem!_pos _ j (by simpa using hj)]; simpa using he
theorem compact_up (L : List Int) (h : L.Pairwise (· ≤ ·)) : (Lib.compact L).Pairwise (· < ·) := by
  unfold Lib.compact Lib.compactUpTo
  refine List.pairwise_map.2 ?_
  refine List.Pairwise.imp_of_mem ?_ ((List.pairwise_lt_range (n := L.length)).filter _)
  intro i j hi hj hij
  have hi' := List.mem_range.1 (List.mem_filter.1 hi).1
  have hj' := List.mem_range.1 (List.mem_filter.1 hj).1
  have hk := of_decide_eq_true (List.mem_filter.1 hj).2
  have hp := List.pairwise_iff_getElem.1 h
  rw [getElem!_pos _ i (by simpa using hi'), getElem!_pos _ j (by simpa using hj')]
  rcases hk with h0 | hk
  · omega
  · rw [getElem!_pos _ j (by simpa using hj'), getElem!_pos _ (j - 1) (by simp; omega)] at hk
    have h1 : L[j - 1] ≤ L[j] := hp (j - 1) j (by omega) hj' (by omega)
    have h2 : L[i] ≤ L[j - 1] := by
      by_cases e : i = j - 1
      · subst e; exact Int.le_refl _
      · exact hp i (j - 1) hi' (by omega) (by omega)
    simp only [List.getElem_toArray] at hk ⊢
    omega
/-- two lists that rise and have the same members are one -/
theorem up_ext : ∀ {A B : List Nat}, A.Pairwise (· < ·) → B.Pairwise (· < ·) → (∀ x, x ∈ A ↔ x ∈ B) → A = B
  | [], [], _, _, _ => rfl
  | [], b :: B, _, _, h => absurd ((h b).2 (List.mem_cons_self ..)) (by simp)
  | a :: A, [], _, _, h => absurd ((h a).1 (List.mem_cons_self ..)) (by simp)
  | a :: A, b :: B, hA, hB, h => by
    have ha := List.pairwise_cons.1 hA
    have hb := List.pairwise_cons.1 hB
    have e : a = b := by
      have h1 := (h a).1 (List.mem_cons_self ..)
      have h2 := (h b).2 (List.mem_cons_self ..)
      rcases List.mem_cons.1 h1 with h1 | h1
      · exact h1
      · rcases List.mem_cons.1 h2 with h2 | h2
        · exact h2.symm
        · have := hb.1 _ h1; have := ha.1 _ h2; omega
    subst e
    congr 1
    refine up_ext ha.2 hb.2 fun x => ?_
    constructor
    · intro hx
      rcases List.mem_cons.1 ((h x).1 (List.mem_cons_of_mem _ hx)) with e | hx'
      · subst e; have := ha.1 _ hx; omega
      · exact hx'
    · intro hx
      rcases List.mem_cons.1 ((h x).2 (List.mem_cons_of_mem _ hx)) with e | hx'
      · subst e; have := hb.1 _ hx; omega
      · exact hx'
theorem compact_cast (L : List Nat) : Lib.compact ((sortNat L).map fun i : Nat => (i : Int)) = (dedup (sortNat L)).map fun i : Nat => (i : Int) := by
  have hs : ((sortNat L).map fun i : Nat => (i : Int)).Pairwise (· ≤ ·) := List.pairwise_map.2 ((sortNat_up L).imp fun h => by omega)
  have h1 := compact_up _ hs
  have hc : Lib.compact ((sortNat L).map fun i : Nat => (i : Int)) = ((Lib.compact ((sortNat L).map fun i : Nat => (i : Int))).map Int.toNat).map fun i : Nat => (i : Int) := by
    rw [List.map_map]
    conv => lhs; rw [← List.map_id (Lib.compact _)]
    refine List.map_congr_left fun x hx => ?_
    obtain ⟨k, -, rfl⟩ := List.mem_map.1 (mem_compact.1 hx)
    simp
  rw [hc]
  congr 1
  refine up_ext ?_ (dedup_up _ (sortNat_up L)) fun x => ?_
  · refine List.pairwise_map.2 (h1.imp_of_mem fun {a b} ha hb hab => ?_)
    obtain ⟨k, -, rfl⟩ := List.mem_map.1 (mem_compact.1 ha)
    obtain ⟨m, -, rfl⟩ := List.mem_map.1 (mem_compact.1 hb)
    simp only [Int.toNat_natCast]; omega
  · rw [dedup_mem, List.mem_map]
    constructor
    · rintro ⟨y, hy, rfl⟩
      obtain ⟨k, hk, rfl⟩ := List.mem_map.1 (mem_compact.1 hy)
      simpa using hk
    · intro hx
      exact ⟨(x : Int), mem_compact.2 (List.mem_map.2 ⟨x, hx, rfl⟩), by simp⟩

/-- ways: to each object that is led to, the way there -/
abbrev Ways := Nat → Option (List Nat)
/-- who is ahead of the last one; the last one, if nobody is -/
def par (p : List Nat) : Nat := p.dropLast.getLast?.getD (p.getLast?.getD 0)
theorem par_two (q : List Nat) (x y : Nat) : par (q ++ [x, y]) = x := by
  unfold par
  rw [show q ++ [x, y] = (q ++ [x]) ++ [y] by simp, List.dropLast_concat, List.getLast?_concat]; rfl
def wset (W : Ways) (y : Nat) (p : List Nat) : Ways := fun q => if q = y then some p else W q
def wayOf (W : Ways) (x : Nat) : List Nat := (W x).getD []
def stepY (x : Nat) (s : Ways × List Nat) (y : Nat) : Ways × List Nat := if (s.1 y).isSome then s else (wset s.1 y (wayOf s.1 x ++ [y]), s.2 ++ [y])
def stepX (l : Bytes) (s : Ways × List Nat) (x : Nat) : Ways × List Nat := (sortNat (refsL l (x : Int))).foldl (stepY x) s
def lvl (l : Bytes) (s : Ways × List Nat) : Ways × List Nat := s.2.foldl (stepX l) (s.1, [])
def rootsH (l : Bytes) : List Nat := (rootsL l).map (·.2)
def startW (l : Bytes) : Ways := fun q => if q ∈ rootsH l then some [q] else none
def lvlN (l : Bytes) : Nat → Ways × List Nat
  | 0 => (startW l, dedup (sortNat (rootsH l)))
  | k + 1 => lvl l (lvlN l k)
def fromW (l : Bytes) : Ways := (lvlN l 41).1

/-- what holds of ways while they are found: D is who has one -/
structure WOk (l : Bytes) (W : Ways) (D : List Nat) : Prop where
  dn : D.Nodup
  dk : ∀ k, (W k).isSome = true ↔ k ∈ D
  dh : ∀ k ∈ D, hE l (k : Int) = 0
  ways : ∀ y p, W y = some p → ∃ q, p = q ++ [y] ∧ ((q = [] ∧ y ∈ rootsH l) ∨ ∃ x, W x = some q ∧ y ∈ refsL l (x : Int))
  roots : ∀ r ∈ rootsH l, W r = some [r]
theorem hE_nat {l : Bytes} {k : Nat} (h : hE l (k : Int) = 0) : 1 ≤ k ∧ k ≤ 40 := by
  obtain ⟨j, hj, e, -⟩ := hE_zero h
  omega
theorem nodup_le1 {D : List Nat} (hn : D.Nodup) {m : Nat} (h : ∀ k ∈ D, 1 ≤ k ∧ k ≤ m) : D.length ≤ m := by
  have hs : D ⊆ (List.range m).map (· + 1) := fun k hk => by
    have := h k hk
    exact List.mem_map.2 ⟨k - 1, List.mem_range.2 (by omega), by omega⟩
  have := hn.length_le_of_subset hs
  simpa using this
theorem WOk.le {l : Bytes} {W : Ways} {D : List Nat} (h : WOk l W D) : D.length ≤ 40 := nodup_le1 h.dn fun k hk => hE_nat (h.dh k hk)
theorem refsL_mem {l : Bytes} {x _y : Int} {z : Nat} (h : z ∈ refsL l x) : hE l (z : Int) = 0 := by
  unfold refsL at h
  have := refsB_mem l (readL l x 0 (min (gL l x) (gT l x))) _ (Nat.le_refl _) z
  rw [List.take_length] at this
  exact this h
theorem rootsH_mem {l : Bytes} (hg : Good l) {r : Nat} (h : r ∈ rootsH l) : hE l (r : Int) = 0 := by
  unfold rootsH at h
  obtain ⟨x, hx, rfl⟩ := List.mem_map.1 h
  exact (good_roots hg hx).2.2
theorem startW_ok {l : Bytes} (hg : Good l) : WOk l (startW l) (dedup (sortNat (rootsH l))) where
  dn := (dedup_up _ (sortNat_up _)).imp fun h => by omega
  dk k := by
    rw [dedup_mem, sortNat_mem]; unfold startW; split <;> simp_all
  dh k hk := rootsH_mem hg (sortNat_mem.1 ((dedup_mem _ _).1 hk))
  ways y p h := by
    unfold startW at h; split at h
    · rename_i hy; cases h; exact ⟨[], rfl, .inl ⟨rfl, hy⟩⟩
    · cases h
  roots r hr := by unfold startW; rw [if_pos hr]
theorem WOk.set {l : Bytes} {W : Ways} {D : List Nat} (h : WOk l W D) {x y : Nat} (hx : x ∈ D) (hy : y ∉ D) (hr : y ∈ refsL l (x : Int)) : WOk l (wset W y (wayOf W x ++ [y])) (D ++ [y]) := by
  obtain ⟨q, hq⟩ := Option.isSome_iff_exists.1 ((h.dk x).2 hx)
  have hne : ∀ k, k ∈ D → k ≠ y := fun k hk e => hy (e ▸ hk)
  have hold : ∀ k, k ∈ D → wset W y (wayOf W x ++ [y]) k = W k := fun k hk => by unfold wset; rw [if_neg (hne k hk)]
  have hin : ∀ k p, W k = some p → k ∈ D := fun k p hk => (h.dk k).1 (by rw [hk]; rfl)
  refine ⟨?_, fun k => ?_, fun k hk => ?_, fun k p hk => ?_, fun r hr => ?_⟩
  · exact List.nodup_append.2 ⟨h.dn, by simp, fun a ha b hb => by simp only [List.mem_singleton] at hb; subst hb; exact hne a ha⟩
  · by_cases e : k = y
    · subst e; unfold wset; simp
    · unfold wset; rw [if_neg e, h.dk k]; simp [e]
  · rcases List.mem_append.1 hk with hk | hk
    · exact h.dh k hk
    · simp only [List.mem_singleton] at hk; subst hk; exact refsL_mem (_y := 0) hr
  · by_cases e : k = y
    · subst e
      unfold wset at hk; rw [if_pos rfl] at hk
      cases hk
      refine ⟨_, rfl, .inr ⟨x, ?_, hr⟩⟩
      rw [hold x hx, hq]; unfold wayOf; rw [hq]; rfl
    · unfold wset at hk; rw [if_neg e] at hk
      obtain ⟨q', e1, h1⟩ := h.ways k p hk
      refine ⟨q', e1, h1.imp id fun ⟨x', e2, e3⟩ => ⟨x', ?_, e3⟩⟩
      rw [hold x' (hin _ _ e2)]; exact e2
  · rw [hold r ((h.dk r).1 (by rw [h.roots r hr]; rfl))]; exact h.roots r hr
/-- a level that is under way: ways W of D, of which N are new -/
structure LOk (l : Bytes) (s : Ways × List Nat) (D : List Nat) (W0 : Ways) (D0 : List Nat) : Prop where
  ok : WOk l s.1 D
  spl : D = D0 ++ s.2
  old : ∀ k, k ∈ D0 → s.1 k = W0 k
theorem LOk.stepY {l : Bytes} {s : Ways × List Nat} {D D0 : List Nat} {W0 : Ways} (h : LOk l s D W0 D0) {x y : Nat} (hx : x ∈ D0) (hr : y ∈ refsL l (x : Int)) :
    ∃ D', LOk l (stepY x s y) D' W0 D0 ∧ y ∈ D' ∧ (∀ k ∈ D, k ∈ D') ∧ D'.length = (if (s.1 y).isSome then D.length else D.length + 1) := by
  unfold Go.Proofs.YtbnobjlphmkgeaaGreatDoor.stepY
  by_cases hy : (s.1 y).isSome
  · rw [if_pos hy, if_pos hy]
    exact ⟨D, h, (h.ok.dk y).1 hy, fun _ hk => hk, rfl⟩
  · rw [if_neg hy, if_neg hy]
    have hyD : y ∉ D := fun hk => hy ((h.ok.dk y).2 hk)
    have hxD : x ∈ D := by rw [h.spl]; exact List.mem_append_left _ hx
    refine ⟨D ++ [y], ⟨h.ok.set hxD hyD hr, by rw [h.spl, List.append_assoc], fun k hk => ?_⟩, by simp, fun k hk => List.mem_append_left _ hk, by simp⟩
    have hk' : k ≠ y := fun e => hyD (by rw [h.spl, ← e]; exact List.mem_append_left _ hk)
    show wset s.1 y _ k = _
    unfold wset; rw [if_neg hk']; exact h.old k hk
theorem LOk.foldY {l : Bytes} {D0 : List Nat} {W0 : Ways} {x : Nat} (hx : x ∈ D0) : ∀ (L : List Nat) (s : Ways × List Nat) (D : List Nat), LOk l s D W0 D0 → (∀ y ∈ L, y ∈ refsL l (x : Int)) →
    ∃ D', LOk l (L.foldl (Go.Proofs.YtbnobjlphmkgeaaGreatDoor.stepY x) s) D' W0 D0 ∧ (∀ y ∈ L, y ∈ D') ∧ (∀ k ∈ D, k ∈ D')
  | [], s, D, h, _ => ⟨D, h, fun _ hy => by simp at hy, fun _ hk => hk⟩
  | y :: L, s, D, h, hL => by
    obtain ⟨D1, h1, hy1, hd1, -⟩ := h.stepY hx (hL y (List.mem_cons_self ..))
    obtain ⟨D2, h2, hy2, hd2⟩ := LOk.foldY hx L _ D1 h1 (fun z hz => hL z (List.mem_cons_of_mem _ hz))
    refine ⟨D2, h2, fun z hz => ?_, fun k hk => hd2 k (hd1 k hk)⟩
    rcases List.mem_cons.1 hz with rfl | hz
    · exact hd2 _ hy1
    · exact hy2 z hz
theorem LOk.stepX {l : Bytes} {s : Ways × List Nat} {D D0 : List Nat} {W0 : Ways} (h : LOk l s D W0 D0) {x : Nat} (hx : x ∈ D0) :
    ∃ D', LOk l (stepX l s x) D' W0 D0 ∧ (∀ y ∈ refsL l (x : Int), y ∈ D') ∧ (∀ k ∈ D, k ∈ D') := by
  obtain ⟨D', h1, h2, h3⟩ := LOk.foldY hx (sortNat (refsL l (x : Int))) s D h (fun y hy => sortNat_mem.1 hy)
  exact ⟨D', h1, fun y hy => h2 y (sortNat_mem.2 hy), h3⟩
theorem LOk.foldX {l : Bytes} {D0 : List Nat} {W0 : Ways} : ∀ (L : List Nat) (s : Ways × List Nat) (D : List Nat), LOk l s D W0 D0 → (∀ x ∈ L, x ∈ D0) →
    ∃ D', LOk l (L.foldl (Go.Proofs.YtbnobjlphmkgeaaGreatDoor.stepX l) s) D' W0 D0 ∧ (∀ x ∈ L, ∀ y ∈ refsL l (x : Int), y ∈ D') ∧ (∀ k ∈ D, k ∈ D')
  | [], s, D, h, _ => ⟨D, h, fun _ hy => by simp at hy, fun _ hk => hk⟩
  | x :: L, s, D, h, hL => by
    obtain ⟨D1, h1, hy1, hd1⟩ := h.stepX (hL x (List.mem_cons_self ..))
    obtain ⟨D2, h2, hy2, hd2⟩ := LOk.foldX L _ D1 h1 (fun z hz => hL z (List.mem_cons_of_mem _ hz))
    refine ⟨D2, h2, fun z hz => ?_, fun k hk => hd2 k (hd1 k hk)⟩
    rcases List.mem_cons.1 hz with rfl | hz
    · exact fun y hy => hd2 _ (hy1 y hy)
    · exact hy2 z hz
/-- between two levels: D has ways, row are those that have not been asked yet -/
structure LvOk (l : Bytes) (s : Ways × List Nat) (D : List Nat) : Prop where
  ok : WOk l s.1 D
  row : ∀ x ∈ s.2, x ∈ D
  closed : ∀ x ∈ D, x ∉ s.2 → ∀ y ∈ refsL l (x : Int), y ∈ D
theorem LvOk.start {l : Bytes} (hg : Good l) : LvOk l (lvlN l 0) (dedup (sortNat (rootsH l))) := ⟨startW_ok hg, fun _ h => h, fun _ h hn => absurd h hn⟩
theorem LvOk.next {l : Bytes} {s : Ways × List Nat} {D : List Nat} (h : LvOk l s D) : ∃ D', LvOk l (lvl l s) D' ∧ D'.length = D.length + (lvl l s).2.length ∧ (∀ k ∈ D, k ∈ D') := by
  obtain ⟨D', h1, h2, h3⟩ := LOk.foldX (l := l) (D0 := D) (W0 := s.1) s.2 (s.1, []) D ⟨h.ok, by simp, fun _ _ => rfl⟩ h.row
  refine ⟨D', ⟨h1.ok, fun x hx => by rw [h1.spl]; exact List.mem_append_right _ hx, fun x hx hn y hy => ?_⟩, by rw [h1.spl, List.length_append]; rfl, h3⟩
  have hxD : x ∈ D := by
    rw [h1.spl] at hx
    rcases List.mem_append.1 hx with hx | hx
    · exact hx
    · exact absurd hx hn
  by_cases hr : x ∈ s.2
  · exact h2 x hr y hy
  · exact h3 y (h.closed x hxD hr y hy)
theorem LvOk.at_ {l : Bytes} (hg : Good l) : ∀ k, ∃ D, LvOk l (lvlN l k) D ∧ ((lvlN l k).2 = [] ∨ k < D.length)
  | 0 => by
    refine ⟨_, LvOk.start hg, ?_⟩
    by_cases h : (lvlN l 0).2 = []
    · exact .inl h
    · exact .inr (List.length_pos_iff.2 h)
  | k + 1 => by
    obtain ⟨D, h, hd⟩ := LvOk.at_ hg k
    obtain ⟨D', h', hl, -⟩ := h.next
    refine ⟨D', h', ?_⟩
    by_cases hn : (lvlN l (k + 1)).2 = []
    · exact .inl hn
    · right
      have hp : 0 < (lvl l (lvlN l k)).2.length := List.length_pos_iff.2 hn
      rcases hd with hd | hd
      · refine absurd ?_ hn
        show (lvl l (lvlN l k)).2 = []
        have e : lvlN l k = ((lvlN l k).1, []) := by rw [← hd]
        rw [e]; rfl
      · omega
theorem lvlN_end {l : Bytes} (hg : Good l) : (lvlN l 41).2 = [] := by
  obtain ⟨D, h, hd⟩ := LvOk.at_ hg 41
  rcases hd with hd | hd
  · exact hd
  · have := h.ok.le; omega
/-- once a row is empty nothing more comes -/
theorem lvlN_stop {l : Bytes} {k : Nat} (h : (lvlN l k).2 = []) : ∀ m, lvlN l (k + m) = lvlN l k
  | 0 => rfl
  | m + 1 => by
    show lvl l (lvlN l (k + m)) = _
    rw [lvlN_stop h m]
    have e : lvlN l k = ((lvlN l k).1, []) := by rw [← h]
    rw [e]; rfl
theorem fromW_of {l : Bytes} {k : Nat} (hk : k ≤ 41) (h : (lvlN l k).2 = []) : (lvlN l k).1 = fromW l := by
  unfold fromW
  rw [show 41 = k + (41 - k) by omega, lvlN_stop h]
/-- what the whole of it comes to -/
theorem fromW_ok {l : Bytes} (hg : Good l) : ∃ D, WOk l (fromW l) D ∧ ∀ x ∈ D, ∀ y ∈ refsL l (x : Int), y ∈ D := by
  obtain ⟨D, h, -⟩ := LvOk.at_ hg 41
  exact ⟨D, h.ok, fun x hx => h.closed x hx (by rw [lvlN_end hg]; simp)⟩
end Go.Proofs.YtbnobjlphmkgeaaGreatDoor
/- Package reach, plain: the dead, and the image without them. -/
namespace Go.Proofs.YtbnobjlphmkgeaaGreatDoor
open Go.RowKit

/-- the dead among some entries -/
def deadE (l : Bytes) (E : List Ent) : List Nat := (E.filter fun e => (fromW l e.1.toNat).isNone).map fun e => e.1.toNat
def deadL (l : Bytes) : List Nat := deadE l (entriesL l)
theorem filter_take_succ {A B : Type} (p : A → Bool) (f : A → B) (E : List A) (k : Nat) (hk : k < E.length) : ((E.take (k + 1)).filter p).map f = ((E.take k).filter p).map f ++ (if p E[k] = true then [f E[k]] else []) := by
  rw [List.take_succ_eq_append_getElem hk, List.filter_append, List.map_append]
  congr 1
  cases h : p E[k] <;> simp [h]
theorem deadE_succ (l : Bytes) (E : List Ent) (k : Nat) (hk : k < E.length) : deadE l (E.take (k + 1)) = deadE l (E.take k) ++ (if (fromW l E[k].1.toNat).isNone then [E[k].1.toNat] else []) := by
  exact filter_take_succ (fun e : Ent => (fromW l e.1.toNat).isNone) (fun e => e.1.toNat) E k hk
theorem deadE_len (l : Bytes) (E : List Ent) : (deadE l E).length ≤ E.length := by
  unfold deadE; rw [List.length_map]; exact List.length_filter_le ..
theorem deadL_mem {l : Bytes} {x : Nat} : x ∈ deadL l ↔ ∃ k, k < 40 ∧ hasE (rawE l k) = true ∧ fromW l (k + 1) = none ∧ x = k + 1 := by
  unfold deadL deadE
  simp only [List.mem_map, List.mem_filter, entL_mem]
  constructor
  · rintro ⟨e, ⟨⟨k, h1, h2, rfl⟩, h3⟩, rfl⟩
    have e1 : ((k : Int) + 1).toNat = k + 1 := by omega
    rw [e1] at h3 ⊢
    exact ⟨k, h1, h2, by simpa using h3, rfl⟩
  · rintro ⟨k, h1, h2, h3, rfl⟩
    refine ⟨((k : Int) + 1, rawE l k), ⟨⟨k, h1, h2, rfl⟩, ?_⟩, ?_⟩
    · have e1 : ((k : Int) + 1).toNat = k + 1 := by omega
      dsimp only
      rw [e1, h3]; rfl
    · dsimp only; omega
theorem deadL_nodup (l : Bytes) : (deadL l).Nodup := by
  unfold deadL deadE
  refine List.pairwise_map.2 ?_
  refine List.Pairwise.imp_of_mem ?_ ((entL_nodup l).filter _)
  intro a b ha hb hab e
  obtain ⟨k, h1, h2, rfl⟩ := entL_mem.1 (List.mem_filter.1 ha).1
  obtain ⟨m, h3, h4, rfl⟩ := entL_mem.1 (List.mem_filter.1 hb).1
  dsimp only at e hab
  omega
def sweepT (l : Bytes) (D : List Nat) : Bytes := D.foldl (fun l (x : Nat) => freeL l (x : Int)) l
def sweepL (l : Bytes) : Bytes := sweepT l (deadL l)
theorem sweepT_succ (l : Bytes) (D : List Nat) (k : Nat) (hk : k < D.length) : sweepT l (D.take (k + 1)) = freeL (sweepT l (D.take k)) (D[k] : Int) := by
  unfold sweepT; rw [List.take_succ_eq_append_getElem hk, List.foldl_append]; rfl
/-- an image without some of its objects -/
structure SwpR (l l' : Bytes) (gone : List Nat) : Prop where
  good : Good l'
  len : l'.length = l.length
  ents : ∀ j, j < 40 → rawE l' j = if j + 1 ∈ gone then List.replicate 5 0 else rawE l j
  rots : ∀ i, i < 8 → rawR l' i = rawR l i
  rest : ∀ b m, 288 ≤ b → (l'.drop b).take m = (l.drop b).take m
theorem SwpR.refl {l : Bytes} (hg : Good l) : SwpR l l [] := ⟨hg, rfl, fun j _ => by simp, fun _ _ => rfl, fun _ _ _ => rfl⟩
theorem SwpR.roots {l l' : Bytes} {gone : List Nat} (h : SwpR l l' gone) : rootsL l' = rootsL l := by
  unfold rootsL; exact rootsF_congr _ _ 8 fun j hj => h.rots j hj
theorem has_zero5 : hasE (List.replicate 5 0) = false := rfl
theorem SwpR.has {l l' : Bytes} {gone : List Nat} (h : SwpR l l' gone) {j : Nat} (hj : j < 40) : hasE (rawE l' j) = true ↔ hasE (rawE l j) = true ∧ j + 1 ∉ gone := by
  rw [h.ents j hj]
  split
  · rename_i hm; rw [has_zero5]; simp [hm]
  · rename_i hm; simp [hm]
theorem SwpR.obj {l l' : Bytes} {gone : List Nat} (h : SwpR l l' gone) (hg : Good l) {j : Nat} (hj : j < 40) (hm : j + 1 ∉ gone) : objT l' j = objT l j ∧ objS l' j = objS l j := by
  have he : rawE l' j = rawE l j := by rw [h.ents j hj, if_neg hm]
  refine obj_congr he fun hh => ?_
  have hs := strayE_false (hg.s.fit j hj hh)
  exact h.rest _ _ (by omega)
theorem SwpR.free {l l' : Bytes} {gone : List Nat} (h : SwpR l l' gone) {x : Nat} (h0 : freeE l' (x : Int) = 0) : SwpR l (freeL l' (x : Int)) (gone ++ [x]) := by
  obtain ⟨k, hx, hf⟩ := free_is h.good h0
  obtain rfl : x = k + 1 := by omega
  refine ⟨hf.good h.good, hf.len.trans h.len, fun j hj => ?_, fun i hi => (hf.rots i hi).trans (h.rots i hi), fun b m hb => (hf.rest b m hb).trans (h.rest b m hb)⟩
  rw [hf.ents j hj, h.ents j hj]
  by_cases e : j = k
  · subst e; simp
  · rw [if_neg e]
    have : (j + 1 ∈ gone ++ [k + 1]) ↔ j + 1 ∈ gone := by simp; omega
    simp only [this]
theorem free_zero {l : Bytes} {k : Nat} (hk : k < 40) (hh : hasE (rawE l k) = true) (hr : k + 1 ∉ rootsH l) : freeE l ((k : Int) + 1) = 0 := by
  unfold freeE
  rw [if_neg (by rw [(hE_has hk hh).1]; simp), if_neg]
  intro ha
  obtain ⟨r, hr1, hr2⟩ := List.any_eq_true.1 ha
  have e : (r.2 : Int) = (k : Int) + 1 := by simpa using hr2
  refine hr ?_
  unfold rootsH
  exact List.mem_map.2 ⟨r, hr1, by omega⟩
theorem root_way {l : Bytes} (hg : Good l) {r : Nat} (h : r ∈ rootsH l) : fromW l r = some [r] := by
  obtain ⟨D, hD, -⟩ := fromW_ok hg
  exact hD.roots r h
theorem sweep_at {l : Bytes} (hg : Good l) : ∀ i, i ≤ (deadL l).length → SwpR l (sweepT l ((deadL l).take i)) ((deadL l).take i)
  | 0, _ => by simpa [sweepT] using SwpR.refl hg
  | i + 1, hi => by
    have ih := sweep_at hg i (by omega)
    have hlt : i < (deadL l).length := by omega
    rw [sweepT_succ l _ i hlt, List.take_succ_eq_append_getElem hlt]
    refine ih.free ?_
    obtain ⟨k, h1, h2, h3, h4⟩ := deadL_mem.1 (List.getElem_mem hlt)
    rw [h4]
    show freeE _ ((k + 1 : Nat) : Int) = 0
    rw [show ((k + 1 : Nat) : Int) = (k : Int) + 1 by omega]
    refine free_zero h1 ?_ ?_
    · rw [ih.has h1]
      refine ⟨h2, fun hm => ?_⟩
      rw [← h4] at hm
      have hnd := deadL_nodup l
      rw [← List.take_append_drop i (deadL l)] at hnd
      have := (List.nodup_append.1 hnd).2.2 _ hm (deadL l)[i] (by rw [List.drop_eq_getElem_cons hlt]; exact List.mem_cons_self ..)
      exact this rfl
    · intro hr
      unfold rootsH at hr
      rw [ih.roots] at hr
      have := root_way hg hr
      rw [h3] at this; cases this
theorem sweep_free {l : Bytes} (hg : Good l) {i : Nat} (hi : i < (deadL l).length) : freeE (sweepT l ((deadL l).take i)) ((deadL l)[i] : Int) = 0 := by
  have ih := sweep_at hg i (by omega)
  obtain ⟨k, h1, h2, h3, h4⟩ := deadL_mem.1 (List.getElem_mem hi)
  rw [h4, show ((k + 1 : Nat) : Int) = (k : Int) + 1 by omega]
  refine free_zero h1 ?_ ?_
  · rw [ih.has h1]
    refine ⟨h2, fun hm => ?_⟩
    rw [← h4] at hm
    have hnd := deadL_nodup l
    rw [← List.take_append_drop i (deadL l)] at hnd
    have := (List.nodup_append.1 hnd).2.2 _ hm (deadL l)[i] (by rw [List.drop_eq_getElem_cons hi]; exact List.mem_cons_self ..)
    exact this rfl
  · intro hr
    unfold rootsH at hr
    rw [ih.roots] at hr
    have := root_way hg hr
    rw [h3] at this; cases this
theorem sweep_is {l : Bytes} (hg : Good l) : SwpR l (sweepL l) (deadL l) := by
  have := sweep_at hg _ (Nat.le_refl _)
  rw [List.take_length] at this
  exact this
theorem SwpR.hE {l l' : Bytes} {gone : List Nat} (h : SwpR l l' gone) {x : Int} (hx : ∀ g ∈ gone, (g : Int) ≠ x) : hE l' x = hE l x ∧ gT l' x = gT l x ∧ gA l' x = gA l x ∧ gL l' x = gL l x := by
  have hx2 : Go.Proofs.YtbnobjlphmkgeaaGreatDoor.hE l' x = Go.Proofs.YtbnobjlphmkgeaaGreatDoor.hE l x ∧ (Go.Proofs.YtbnobjlphmkgeaaGreatDoor.hE l x = 0 → hR l' x = hR l x) := by
    unfold Go.Proofs.YtbnobjlphmkgeaaGreatDoor.hE hR
    by_cases hb : handleB x = false
    · rw [if_pos hb, if_pos hb]; exact ⟨rfl, fun e => by omega⟩
    · rw [if_neg hb, if_neg hb]
      have hb' := handleB_true.1 (by simpa using hb)
      have he : rawE l' (x - 1).toNat = rawE l (x - 1).toNat := by
        rw [h.ents _ (by omega), if_neg]
        intro hm
        exact hx _ hm (by omega)
      rw [he]; exact ⟨rfl, fun _ => rfl⟩
  obtain ⟨e1, e2⟩ := hx2
  unfold gT gA gL
  rw [e1]
  by_cases h0 : Go.Proofs.YtbnobjlphmkgeaaGreatDoor.hE l x = 0
  · rw [e2 h0]; exact ⟨rfl, rfl, rfl, rfl⟩
  · simp [h0]
end Go.Proofs.YtbnobjlphmkgeaaGreatDoor
/- A store, plainly: which pages differ, what a commit of them makes, what an op of a script makes. No program in sight. -/
namespace Go.Proofs.YtbnobjlphmkgeaaGreatDoor
open Go.RowKit Go.Maps Go.ChangeMaps

/-- pages that differ -/
def difB (N K : Bytes) (k : Nat) : Bool := pgB N k != pgB K k
def dL (N K : Bytes) (n : Nat) : List Nat := (List.range n).filter (difB N K)
def dS (N K : Bytes) (n k : Nat) : Bool := decide (k < n) && difB N K k
theorem dL_succ (N K : Bytes) (k : Nat) : dL N K (k + 1) = dL N K k ++ (if difB N K k = true then [k] else []) := by
  unfold dL
  rw [List.range_succ, List.filter_append]
  congr 1
  by_cases h : difB N K k = true
  · rw [if_pos h, List.filter_cons_of_pos h, List.filter_nil]
  · rw [if_neg h, List.filter_cons_of_neg h, List.filter_nil]
theorem dL_mem {N K : Bytes} {n k : Nat} : k ∈ dL N K n ↔ k < n ∧ difB N K k = true := by
  unfold dL
  rw [List.mem_filter, List.mem_range]
theorem dL_keys (N K : Bytes) (n : Nat) : KeysOf (setF (dS N K n)) (dL N K n) where
  up := List.pairwise_lt_range.filter _
  mem := fun k => by rw [setF_some, dL_mem]; unfold dS; simp
theorem dL_le (N K : Bytes) (n : Nat) : (dL N K n).length ≤ n := by
  unfold dL
  exact Nat.le_trans (List.length_filter_le _ _) (by simp)
theorem dL_none {N K : Bytes} {n : Nat} (hN : N.length = 32 * n) (hK : K.length = 32 * n) (h : dL N K n = []) : N = K := by
  refine eq_of_pages hN hK fun k hk => ?_
  unfold dL difB at h
  rw [List.filter_eq_nil_iff] at h
  have := h k (List.mem_range.2 hk)
  simpa using this
theorem dL_cnt (N K : Bytes) (n : Nat) (hn : n ≤ 200) : (dL N K n).length = cntS (dS N K n) :=
  keysS_cnt (dL_keys N K n) fun k hk => by
    unfold dS at hk
    rw [Bool.and_eq_true, decide_eq_true_eq] at hk
    omega
/-- a commit of what differs -/
def cmS (n st : Nat) (D : Dv) (l K : Bytes) : Dv × Nat := commitP st n (cutL l (dL l K n)) D
theorem cutL_len (l : Bytes) (L : List Nat) : (cutL l L).length = L.length := by unfold cutL; rw [List.length_map]
theorem cmS_ok {nn n st : Nat} {D : Dv} {pg : Nat → Bytes} {l K : Bytes} (h : SfP nn n D st pg) (hst : st < 4294967295) (hn1 : 1 ≤ n) (hn2 : n ≤ 200) (hN : l.length = 32 * n) (hK : K = allB D n) (hc : (dL l K n).length ≤ 23) :
    (cmS n st D l K).2 = 0 ∧ (∃ pg', SfP nn n (cmS n st D l K).1 (if (dL l K n).length ≠ 0 then st + 1 else st) pg') ∧ allB (cmS n st D l K).1 n = l := by
  have hS : ∀ k, dS l K n k = true → k < n := fun k hk => by
    unfold dS at hk
    rw [Bool.and_eq_true, decide_eq_true_eq] at hk
    exact hk.1
  refine commit_view h hst hn1 hN hK (fun k hk hs => ?_) hS (by rw [← dL_cnt _ _ _ hn2]; exact hc) (dL_keys l K n) hn2
  unfold dS difB at hs
  rw [decide_eq_true hk, Bool.true_and, bne_eq_false_iff_eq] at hs
  exact hs
theorem cmS_full {n st : Nat} {D : Dv} {l K : Bytes} (hc : 23 < (dL l K n).length) : cmS n st D l K = (D, 4) := by
  have : chkP n (cutL l (dL l K n)) = 4 := by
    unfold chkP
    rw [cutL_len, if_pos hc]
  unfold cmS commitP
  rw [this, if_pos (by decide)]
/-- what an op says, and makes of an image -/
def hopE (l : Bytes) (o : OpX) : Nat :=
  if o.what = 1 then allocE l o.len o.at_ else if o.what = 2 then freeE l o.handle else if o.what = 3 then someE l o.handle o.at_ o.body.length else if o.what = 4 then setE l o.name o.handle else if o.what = 5 then unE l o.name else if o.what = 8 ∨ o.what = 9 then 0 else 1
def hopL (l : Bytes) (o : OpX) : Bytes :=
  if o.what = 1 then allocL l o.len o.at_ else if o.what = 2 then freeL l o.handle else if o.what = 3 then writeL l o.handle o.at_ o.body else if o.what = 4 then setL l o.name o.handle else if o.what = 5 then unL l o.name else if o.what = 8 then stepL l else if o.what = 9 then sweepL l else l
theorem hop_step {l : Bytes} (hg : Good l) (o : OpX) : StepR l (hopL l o) := by
  unfold hopL
  split
  · exact stepR_alloc hg _ _
  split
  · exact stepR_free hg _
  split
  · exact stepR_write hg _ _ _
  split
  · exact stepR_set hg _ _
  split
  · exact stepR_unset hg _
  split
  · exact stepR_moved (step_moved hg).1
  split
  · exact ⟨(sweep_is hg).good, (sweep_is hg).len⟩
  · exact StepR.refl hg
/-- a store: its device, its stamp, its image, what it kept -/
structure Sto where
  D : Dv
  st : Nat
  l : Bytes
  K : Bytes
def doS (n : Nat) (s : Sto) (o : OpX) : Sto × Nat :=
  if o.what = 6 then
    if (cmS n s.st s.D s.l s.K).2 = 0 then (⟨(cmS n s.st s.D s.l s.K).1, if (dL s.l s.K n).length ≠ 0 then s.st + 1 else s.st, s.l, s.l⟩, 0)
    else (⟨(cmS n s.st s.D s.l s.K).1, s.st, s.l, s.K⟩, (cmS n s.st s.D s.l s.K).2)
  else if o.what = 7 then (⟨s.D, s.st, s.K, s.K⟩, 0) else (⟨s.D, s.st, hopL s.l o, s.K⟩, hopE s.l o)
/-- a store while the power stays -/
structure StOk (nn n : Nat) (s : Sto) : Prop where
  sf : ∃ pg, SfP nn n s.D s.st pg
  kb : s.K = allB s.D n
  gl : Good s.l
  gk : Good s.K
  ll : s.l.length = 32 * n
  lk : s.K.length = 32 * n
  n1 : 1 ≤ n
  n2 : n ≤ 200
theorem StOk.do {nn n : Nat} {s : Sto} (h : StOk nn n s) (hst : s.st < 4294967295) (o : OpX) : StOk nn n (doS n s o).1 ∧ (doS n s o).1.st ≤ s.st + 1 := by
  unfold doS
  obtain ⟨pg, hsf⟩ := h.sf
  by_cases h6 : o.what = 6
  · rw [if_pos h6]
    by_cases hc : (dL s.l s.K n).length ≤ 23
    · obtain ⟨c1, c2, c3⟩ := cmS_ok hsf hst h.n1 h.n2 h.ll h.kb hc
      rw [if_pos c1]
      exact ⟨⟨c2, c3.symm, h.gl, h.gl, h.ll, h.ll, h.n1, h.n2⟩, by dsimp only; split <;> omega⟩
    · have e := cmS_full (n := n) (st := s.st) (D := s.D) (l := s.l) (K := s.K) (by omega)
      rw [e, if_neg (show ¬ (4 : Nat) = 0 by decide)]
      exact ⟨⟨h.sf, h.kb, h.gl, h.gk, h.ll, h.lk, h.n1, h.n2⟩, by dsimp only; omega⟩
  · rw [if_neg h6]
    by_cases h7 : o.what = 7
    · rw [if_pos h7]
      exact ⟨⟨h.sf, h.kb, h.gk, h.gk, h.lk, h.lk, h.n1, h.n2⟩, by dsimp only; omega⟩
    · rw [if_neg h7]
      have hs := hop_step h.gl o
      exact ⟨⟨h.sf, h.kb, hs.good, h.gk, hs.len.trans h.ll, h.lk, h.n1, h.n2⟩, by dsimp only; omega⟩
/-- what a commit says while the power stays -/
theorem StOk.said {nn n : Nat} {s : Sto} (h : StOk nn n s) (hst : s.st < 4294967295) : ((cmS n s.st s.D s.l s.K).2 = 0 ↔ (dL s.l s.K n).length ≤ 23) ∧ ((cmS n s.st s.D s.l s.K).2 = 0 ∨ (cmS n s.st s.D s.l s.K).2 = 4) := by
  obtain ⟨pg, hsf⟩ := h.sf
  by_cases hc : (dL s.l s.K n).length ≤ 23
  · have := (cmS_ok hsf hst h.n1 h.n2 h.ll h.kb hc).1
    exact ⟨⟨fun _ => hc, fun _ => this⟩, .inl this⟩
  · have e := cmS_full (n := n) (st := s.st) (D := s.D) (l := s.l) (K := s.K) (by omega)
    rw [e]
    exact ⟨⟨fun h => absurd h (show ¬ (4 : Nat) = 0 by decide), fun h => absurd h hc⟩, .inr rfl⟩
/-- opened, it is what it kept -/
theorem StOk.opened {nn n : Nat} {s : Sto} (h : StOk nn n s) : (openP s.D).2 = 0 ∧ StOk nn n ⟨(openP s.D).1, s.st, s.K, s.K⟩ ∧ StOk nn n ⟨(openP s.D).1, s.st, s.l, s.K⟩ ∧ (openMk s.D).1 = s.st ∧ (openP s.D).1.down = false ∧ (∀ i, i < n → (readD (openP s.D).1 (48 + i)).length = 32) ∧ n = nP s.D ∧ n = nP (openP s.D).1 := by
  obtain ⟨a, b, c, d, e, f, g⟩ := opened_view h.sf
  obtain ⟨pg, hsf⟩ := h.sf
  obtain ⟨pg', hsf'⟩ := b
  exact ⟨a, ⟨⟨pg', hsf'⟩, by rw [d]; exact h.kb, h.gk, h.gk, h.lk, h.lk, h.n1, h.n2⟩, ⟨⟨pg', hsf'⟩, by rw [d]; exact h.kb, h.gl, h.gk, h.ll, h.lk, h.n1, h.n2⟩, c, f, g, hsf.n0, hsf'.n0⟩
/-- zeros over zeros -/
theorem Stab.again {D : Dv} {j : Nat} {v : Bytes} (h : Stab D j v) (i : Int) (b : Bytes) (hb : i = j → b = v) : Stab (wrD D i b).1 j v := by
  by_cases hij : i = j
  · rcases wrD_cases D i b with ⟨h', _⟩ | ⟨h0, _, _, _, h', _⟩
    · rw [h']; exact h
    · rw [h']
      refine ⟨h.1, ?_⟩
      rw [readD_step, readD_put, if_pos (by omega), hb hij]
  · exact h.wr i b hij
/-- what Create makes -/
structure MdS (nn n : Nat) (D : Dv) : Prop where
  full : Full n D 2 [] (fun _ => List.replicate 32 0)
  wf : WfD D
  up : UpN nn D
theorem MdS.zero {nn n : Nat} {D : Dv} (h : MdS nn n D) (i : Nat) (hi : i < n) : (wrD D (48 + (i : Int)) (List.replicate 32 0)).2 = 0 ∧ MdS nn n (wrD D (48 + (i : Int)) (List.replicate 32 0)).1 := by
  have hle := h.full.hold.lens
  obtain ⟨a, b⟩ := wr_zero h.up (i := 48 + (i : Int)) (b := List.replicate 32 0) (by omega) (by have := h.up.2; omega) (by simp)
  have hS := wrD_len D (48 + (i : Int)) (List.replicate 32 0)
  have hs : ∀ j v, (j < 48 ∨ v = List.replicate 32 0) → Stab D j v → Stab (wrD D (48 + (i : Int)) (List.replicate 32 0)).1 j v := fun j v hv hst => hst.again _ _ (fun e => by
    rcases hv with hv | hv
    · omega
    · exact hv.symm)
  refine ⟨a, ⟨h.full.hold.same (by rw [hS]) fun j v hj hc hst => ?_, fun q hq => hs _ _ (.inr rfl) (h.full.all q hq)⟩, wrD_wf h.wf _ _, b⟩
  rcases hc with hc | ⟨k, hk, _⟩ | ⟨q, hq, _, rfl⟩
  · exact hs _ _ (.inl (by omega)) hst
  · simp at hk
  · refine hs _ _ (.inr ?_) hst
    have := (h.full.all q hq).2
    rw [← this]; exact hst.2.symm
def zsD (nn : Nat) : Nat → Dv
  | 0 => formatD (newD nn)
  | k + 1 => (wrD (zsD nn k) (48 + (k : Int)) (List.replicate 32 0)).1
def madeD (nn : Nat) : Dv := (flD (zsD nn (nP (newD nn)))).1
theorem zs_ok (nn : Nat) (h1 : 49 ≤ nn) (h3 : nn ≤ 300) : ∀ k, k ≤ nP (newD nn) → MdS nn (nP (newD nn)) (zsD nn k)
  | 0, _ => by
    obtain ⟨a, b, c, d, e⟩ := format_full nn h1 h3
    exact ⟨a, c, b, d⟩
  | k + 1, hk => ((zs_ok nn h1 h3 k (by omega)).zero k (by omega)).2
theorem pgB_zero {n k : Nat} (hk : k < n) : pgB (List.replicate (32 * n) 0) k = List.replicate 32 0 := zeros_cut' _ _ _ (by omega)
theorem made_ok (nn : Nat) (h1 : 57 ≤ nn) (h3 : nn ≤ 300) (n : Nat) (hn : n = nP (newD nn)) : (flD (zsD nn n)).2 = 0 ∧ n = min (nn - 48) 200 ∧ n = nP (madeD nn) ∧ (madeD nn).down = false ∧ StOk nn n ⟨madeD nn, 2, List.replicate (32 * n) 0, List.replicate (32 * n) 0⟩ := by
  have hz := zs_ok nn (by omega) h3 (nP (newD nn)) (Nat.le_refl _)
  obtain ⟨-, -, -, -, e⟩ := format_full nn (by omega) h3
  subst hn
  obtain ⟨a, b⟩ := fl_zero hz.up
  have hf : Full (nP (newD nn)) (madeD nn) 2 [] (fun _ => List.replicate 32 0) := hz.full.fl
  have hp : ∀ i, i < nP (newD nn) → readD (madeD nn) (48 + i) = List.replicate 32 0 := fun i hi => (hf.all i hi).2
  have hr : rightB ((List.replicate (32 * nP (newD nn)) (0 : UInt8)).length : Int) = true := by
    rw [List.length_replicate, rightB_true, e]; omega
  have hg := good_zero' (n := 32 * nP (newD nn)) (by rw [List.length_replicate] at hr; exact hr)
  refine ⟨a, e, hf.hold.n0, b.1.2, ⟨_, ⟨⟨_, hf⟩, flD_wf hz.wf, b.1, b.2, hf.hold.n0⟩⟩, ?_, hg, hg, by simp, by simp, by rw [e]; omega, by rw [e]; omega⟩
  have hp2 : ∀ i, i < nP (newD nn) → (readD (madeD nn) (48 + i)).length = 32 := fun i hi => by rw [hp i hi]; simp
  refine eq_of_pages (n := nP (newD nn)) (by simp) (allB_len _ hp2) fun k hk => ?_
  show pgB (List.replicate _ 0) k = pgB (allB (madeD nn) _) k
  rw [allB_page _ k hp2 hk, hp k hk, pgB_zero hk]
end Go.Proofs.YtbnobjlphmkgeaaGreatDoor
/- Laid: maps.Keys at maps from numbers to rows of bytes. -/
namespace Go.Proofs.YtbnobjlphmkgeaaGreatDoor
open Go.Shelf
end Go.Proofs.YtbnobjlphmkgeaaGreatDoor
/- slices.Sorted(maps.Keys(m)) of maps from numbers to rows of bytes. -/
namespace Go.Proofs.YtbnobjlphmkgeaaGreatDoor
open Go.RowKit Go.Maps Go.ChangeMaps Go.Sort Go.Shelf

end Go.Proofs.YtbnobjlphmkgeaaGreatDoor
/- Laid: library functions whose contracts are proved over whatever program: the table of numbers, and a field a function or a type. -/
namespace Go.Proofs.YtbnobjlphmkgeaaGreatDoor
open Go.Shelf
end Go.Proofs.YtbnobjlphmkgeaaGreatDoor
/- Package undo: a heap with its marks. -/
namespace Go.Proofs.YtbnobjlphmkgeaaGreatDoor
open Go.RowKit Go.Maps Go.ChangeMaps Go.Shelf

section
variable {w0 w w' : World} {F F' : Nat → Prop} {h u mb last : Nat} {l : Bytes} {I : Nat → Option Bytes}
set_option maxRecDepth 100000 in
theorem hreset_ok (g c : Nat) (b : Bytes) (hp : Hp w0 w F h l) (hr : rightB b.length = true) (hrd : Rd w (some ⟨g, 0, none⟩) b) :
    Calls Tryz.prog 104 #[.pointer (some ⟨h, 0, none⟩), .slice (some ⟨g, 0, none⟩) b.length c] w fun e w' => e = .returned (.tuple #[]) ∧ ∃ F', HpM w0 w w' F F' h b := by
  have hb := rightB_true.1 hr
  have HC := Hidden.mk (clone_some ⟨g, 0, none⟩ b.length c b w rfl (by omega) hrd)
  have HP := Hidden.mk hp
  have HR := Hidden.mk hr
  clear hp hr hrd
  go_enter Tryz.func104, Tryz.ntmps104
  go_wp2_with fail
  refine HC.out.mono ?_
  rintro e w1 ⟨g', cap', rfl, hg', hrow', hb1⟩
  have hP2 := HP.out.below hb1
  obtain ⟨g2, cap2, y0, yf, -, -, -, -⟩ := hP2.head
  have hs := hP2.set hrow' HR.out (Nat.le_trans HP.out.bel.size hg')
  have HS := Hidden.mk (HpM.mk hs.1 ((Keep.of_below (F := F) hb1).trans hs.2 (fun k hk => .inl hk)) (fun k hk => by
    rcases hk with hk | rfl
    · exact .inl hk
    · exact .inr hg'))
  clear hs hP2 hb1 hrow' HC
  go_wp2_with fail
  go_end0
  exact ⟨rfl, _, HS.out⟩
end
end Go.Proofs.YtbnobjlphmkgeaaGreatDoor
/- A store in memory, and what keeps it; Heap, Stamp, Abort. -/
namespace Go.Proofs.YtbnobjlphmkgeaaGreatDoor
open Go.RowKit Go.Maps Go.ChangeMaps

/-- block s is a store: its pages p (of the device d), its heap h, and what it kept, in the row gk -/
structure StH (w0 w : World) (F GH : Nat → Prop) (s p d h gk ck st n : Nat) (l K : Bytes) : Prop where
  blk : w.heap[s]? = some (.cells #[.pointer (some ⟨p, 0, none⟩), .pointer (some ⟨h, 0, none⟩), .slice (some ⟨gk, 0, none⟩) K.length ck] 162 (0, 0))
  pg : PgH w F p d st n
  hp : Hp w0 w GH h l
  kep : Row w 5 gk ck K
  sf : ¬ F s
  kf : ¬ F gk
  gf : ∀ q, GH q → ¬ F q
  sg : ¬ GH s
  pgg : ¬ GH p
  kg : ¬ GH gk
  s0 : w0.heap.size ≤ s
  p0 : w0.heap.size ≤ p
  k0 : w0.heap.size ≤ gk
section
variable {w0 w w' : World} {F F' GH GH' G : Nat → Prop} {s p d h gk ck st n : Nat} {l l' K : Bytes}
theorem StH.lt (a : StH w0 w F GH s p d h gk ck st n l K) : s < w.heap.size ∧ p < w.heap.size ∧ gk < w.heap.size := ⟨(Array.getElem?_eq_some_iff.1 a.blk).1, a.pg.lt, a.kep.lt⟩
theorem StH.cells (a : StH w0 w F GH s p d h gk ck st n l K) : (w.cell? ⟨s, 0, none⟩ = some (.pointer (some ⟨p, 0, none⟩)) ∧ w.cell? ⟨s, 1, none⟩ = some (.pointer (some ⟨h, 0, none⟩)) ∧ w.cell? ⟨s, 2, none⟩ = some (.slice (some ⟨gk, 0, none⟩) K.length ck)) ∧ ∀ k, w.frozen? ⟨s, k, none⟩ = false := three a.blk
theorem StH.ne (a : StH w0 w F GH s p d h gk ck st n l K) : s ≠ p ∧ s ≠ gk ∧ p ≠ gk := ⟨ne_cells a.blk a.pg.1 (by decide), ne_row a.blk a.kep (by decide), ne_row a.pg.1 a.kep (by decide)⟩
/-- what is written elsewhere does not touch it -/
theorem StH.keep (a : StH w0 w F GH s p d h gk ck st n l K) (hk : Keep G w w') (hG : ∀ q, (GH q ∨ q = s ∨ q = p ∨ q = gk) → ¬ G q) (hn : ∀ q, G q → w0.heap.size ≤ q) (hF : ∀ q, F' q → F q ∨ w.heap.size ≤ q) : StH w0 w' F' GH s p d h gk ck st n l K := by
  obtain ⟨l1, l2, l3⟩ := a.lt
  have hno : ∀ q, q < w.heap.size → ¬ F q → ¬ F' q := fun q hq hf hf' => by rcases hF q hf' with h' | h'; exact hf h'; omega
  exact ⟨(hk.block s l1 (hG s (.inr (.inl rfl)))).trans a.blk, ⟨(hk.block p l2 (hG p (.inr (.inr (.inl rfl))))).trans a.pg.1, hno p l2 a.pg.2⟩, a.hp.keep hk (fun q hq => hG q (.inl hq)) hn, hk.row a.kep (hG gk (.inr (.inr (.inr rfl)))),
    hno s l1 a.sf, hno gk l3 a.kf, fun q hq => hno q (a.hp.flt q hq) (a.gf q hq), a.sg, a.pgg, a.kg, a.s0, a.p0, a.k0⟩
theorem StH.below (a : StH w0 w F GH s p d h gk ck st n l K) (hb : Below w.heap.size w w') : StH w0 w' F GH s p d h gk ck st n l K :=
  a.keep (G := fun _ => False) (Keep.of_below hb) (fun _ _ hf => hf) (fun _ hf => hf.elim) (fun _ hf => .inl hf)
/-- its device is written -/
theorem StH.dev (a : StH w0 w F GH s p d h gk ck st n l K) (hk : Keep F w w') (hn : ∀ q, F q → w0.heap.size ≤ q) (hF : ∀ q, F' q → F q ∨ w.heap.size ≤ q) : StH w0 w' F' GH s p d h gk ck st n l K :=
  a.keep hk (fun q hq hf => by
    rcases hq with hq | rfl | rfl | rfl
    · exact a.gf q hq hf
    · exact a.sf hf
    · exact a.pg.2 hf
    · exact a.kf hf) hn hF
/-- its heap is another -/
theorem StH.heap (a : StH w0 w F GH s p d h gk ck st n l K) (hm : HpM w0 w w' GH GH' h l') (hl : ∀ q, F q → q < w.heap.size) : StH w0 w' F GH' s p d h gk ck st n l' K := by
  obtain ⟨l1, l2, l3⟩ := a.lt
  have hno : ∀ q, q < w.heap.size → ¬ GH q → ¬ GH' q := fun q hq hf hf' => by rcases hm.nw q hf' with h' | h'; exact hf h'; omega
  exact ⟨(hm.kp.block s l1 a.sg).trans a.blk, ⟨(hm.kp.block p l2 a.pgg).trans a.pg.1, a.pg.2⟩, hm.hp, hm.kp.row a.kep a.kg, a.sf, a.kf, fun q hq hf => by
    rcases hm.nw q hq with h' | h'
    · exact a.gf q h' hf
    · have := hl q hf; omega, hno s l1 a.sg, hno p l2 a.pgg, hno gk l3 a.kg, a.s0, a.p0, a.k0⟩
theorem stheap_any (a : StH w0 w F GH s p d h gk ck st n l K) :
    Calls Tryz.prog 41 #[.pointer (some ⟨s, 0, none⟩)] w fun e w' => e = .returned (.pointer (some ⟨h, 0, none⟩)) ∧ w = w' := by
  obtain ⟨⟨c0, c1, c2⟩, -⟩ := a.cells
  clear a
  go_enter Tryz.func41, Tryz.ntmps41
  go_wp2_with fail
  go_ret
  exact ⟨rfl, rfl⟩
set_option maxRecDepth 100000 in
theorem sabort_any (a : StH w0 w F GH s p d h gk ck st n l K) (hr : rightB K.length = true) (hl : ∀ q, F q → q < w.heap.size) :
    Calls Tryz.prog 37 #[.pointer (some ⟨s, 0, none⟩)] w fun e w' => e = .returned (.tuple #[]) ∧ ∃ GH', HpM w0 w w' GH GH' h K ∧ StH w0 w' F GH' s p d h gk ck st n K K := by
  have hdr := (Below.refl w.heap.size w).drew
  have HA := Hidden.mk (And.intro (a.below hdr) (And.intro (a.hp.same hdr) hl))
  obtain ⟨⟨c0, c1, c2⟩, -⟩ := a.cells
  obtain ⟨⟨d0, d1, d2⟩, -⟩ := HA.out.1.cells
  have HP := Hidden.mk (hreset_ok gk ck K HA.out.1.hp hr HA.out.1.kep.rd)
  clear a hr hl hdr
  go_enter Tryz.func37, Tryz.ntmps37
  go_upto_region 0 with (fail)
  go_still_tail 8, (by kernel_rfl)
  change wpList _ _ _ _ _ w.drew
  clear c0 c1 c2
  generalize hw : w.drew = wd at *
  go_wp2_with fail
  refine HP.out.mono ?_
  rintro e w1 ⟨rfl, GH', hm⟩
  have HM := Hidden.mk (And.intro (HA.out.2.1.trans hm) (HA.out.1.heap hm (fun q hq => by have := HA.out.2.2 q hq; have := HA.out.2.1.kp.size; omega)))
  clear hm HP
  go_wp2_with fail
  go_end0
  exact ⟨rfl, GH', HM.out.1, HM.out.2⟩
end
end Go.Proofs.YtbnobjlphmkgeaaGreatDoor
/- The contract of slices.Equal at bytes. -/
namespace Go.Proofs.YtbnobjlphmkgeaaGreatDoor
open Go.RowKit

set_option maxRecDepth 100000 in
theorem eqB_any (A B : Option Addr) (n c d : Nat) (a b : Bytes) (w : World) (hn : a.length = n) (hm : b.length = n) (hl : n ≤ 100000) (ha : Rd w A a) (hb : Rd w B b) :
    Calls Tryz.prog 209 #[.slice A n c, .slice B n d] w fun e w' => e = .returned (.bool (a == b)) ∧ Below w.heap.size w w' := by
  have HA := Hidden.mk (And.intro ha hb)
  have HN := Hidden.mk (And.intro hn hm)
  clear ha hb hn hm
  have t0 : ((n : Int) != (n : Int)) = false := by simp
  go_enter Tryz.func209, Tryz.ntmps209
  go_wp2_with fail
  clear t0
  go_loopg [13] n (fun r i wr => ∃ k : Nat, k ≤ n ∧ r = n - k ∧ i = .int .i64 (k : Int) ∧ Hidden (a.take k = b.take k ∧ Below w.heap.size w wr))
  case atStart => exact ⟨0, by omega, rfl, rfl, ⟨rfl, Below.refl _ _⟩⟩
  case round =>
    obtain ⟨k, hk, rfl, rfl, hs⟩ := hrel
    have HS := Hidden.mk hs.out
    clear hs
    by_cases hlt : k < n
    · have i0 : (0 : Int) ≤ k := by omega
      have i1 : (k : Int) < n := by omega
      have s1 : IntKind.i64.wrap ((k : Int) + 1) = (k : Int) + 1 := IntWalk.i64_in _ (by omega)
      have hka : k < a.length := by rw [HN.out.1]; exact hlt
      have hkb : k < b.length := by rw [HN.out.2]; exact hlt
      obtain ⟨p, off, rfl, -⟩ := HA.out.1 k hka
      obtain ⟨q, off2, rfl, -⟩ := HA.out.2 k hkb
      have hcp := (HA.out.1.below HS.out.2).at_ k hka
      have hcq := (HA.out.2.below HS.out.2).at_ k hkb
      have HB : Hidden (Below w.heap.size w wr) := ⟨HS.out.2⟩
      by_cases he : a[k] = b[k]
      · have hbq : ((a[k].toNat : Int) != (b[k].toNat : Int)) = false := by simp [he]
        have HT : Hidden (a.take (k + 1) = b.take (k + 1)) := ⟨by rw [List.take_succ_eq_append_getElem hka, List.take_succ_eq_append_getElem hkb, HS.out.1, he]⟩
        clear he HS
        generalize a[k] = x at *
        generalize b[k] = y at *
        go_wp2_with fail
        go_quiet (fail)
        go_wp2_with fail
        go_roundg (n - (k + 1))
        case measure => omega
        case rel => exact ⟨k + 1, by omega, rfl, by go_num, ⟨HT.out, below_drewN HB.out _⟩⟩
      · have hbq : ((a[k].toNat : Int) != (b[k].toNat : Int)) = true := by
          simp only [bne_iff_ne, ne_eq]; intro h; apply he; rw [← UInt8.toNat_inj]; omega
        have HT : Hidden ((a == b) = false) := ⟨by
          rw [beq_eq_false_iff_ne]
          intro e
          subst e
          exact he rfl⟩
        clear he HS
        generalize a[k] = x at *
        generalize b[k] = y at *
        go_wp2_with fail
        go_quiet (fail)
        go_wp2_with fail
        go_ret
        exact ⟨by rw [HT.out]; rfl, below_drewN HB.out _⟩
    · have HT : Hidden ((a == b) = true) := ⟨by
        have h1 := HS.out.1
        rw [List.take_of_length_le (by rw [HN.out.1]; omega), List.take_of_length_le (by rw [HN.out.2]; omega)] at h1
        rw [beq_iff_eq]; exact h1⟩
      go_wp2_with fail
      go_ret
      exact ⟨by rw [HT.out]; rfl, HS.out.2⟩
end Go.Proofs.YtbnobjlphmkgeaaGreatDoor
/- Laid by hand: slices.Compact and slices.Reverse at ints. -/
namespace Go.Proofs.YtbnobjlphmkgeaaGreatDoor
open Go.Shelf
def compactI_ren : Go.Shelf.Ren := ⟨fun | 20 => 207 | n => n, fun | 0 => 0 | 3 => 3 | 4 => 4 | 22 => 54 | n => n, fun | n => n⟩
theorem compactI : Go.Proofs.Lays2.n20 Tryz.prog compactI_ren := {
  mixed := by kernel_rfl
  f20 := Tryz.func207.trans (congrArg some (by kernel_rfl))
  t0 := Tryz.underlying0
  a0 := Tryz.isAgg0
  z0 := Tryz.sizeOf0
  v0 := Tryz.zeroValue0
  t3 := Tryz.underlying3
  a3 := Tryz.isAgg3
  z3 := Tryz.sizeOf3
  v3 := Tryz.zeroValue3
  t4 := Tryz.underlying4
  a4 := Tryz.isAgg4
  z4 := Tryz.sizeOf4
  v4 := Tryz.zeroValue4
  t22 := Tryz.underlying54
  a22 := Tryz.isAgg54
  z22 := Tryz.sizeOf54
  v22 := Tryz.zeroValue54
  i3 := by kernel_rfl }
end Go.Proofs.YtbnobjlphmkgeaaGreatDoor
/- Sorting, compacting and turning own rows of ints. -/
namespace Go.Proofs.YtbnobjlphmkgeaaGreatDoor
open Go.RowKit Go.Sort Go.Shelf Go.Lib

theorem take_putCellsZ (enc : Int → Value) (cur : Array Value) (d : Array Int) (h : d.size ≤ cur.size) : (putCells enc 0 d cur).toList.take d.size = d.toList.map enc := by
  apply List.ext_getElem?
  intro j
  by_cases hj : j < d.size
  · rw [List.getElem?_take_of_lt hj, Array.getElem?_toList]
    simp [putCells, hj, show j < cur.size by omega]
  · rw [List.getElem?_take_eq_none (by omega), List.getElem?_eq_none (by simp; omega)]
theorem holdsZ_own {w : World} {base : Nat} {e : TypeId} {g n cap : Nat} {L : List Int} (h : w.ownsRow base e 1 (.slice (some ⟨g, 0, none⟩) n cap) n (L.map (Value.int .i64))) :
    Holds (Value.int .i64) w g 0 L.toArray ∧ g < w.heap.size := by
  rcases h.2 with ⟨h1, _⟩ | ⟨g', cap', cur, he, _, hh, _⟩
  · cases h1
  · injection he with he _ hcap
    injection he with he
    injection he with he
    subst he hcap
    refine ⟨fun j hj => ?_, (Array.getElem?_eq_some_iff.1 hh).1⟩
    have hj' : j < L.length := by simpa using hj
    have := h.cells (g := g) rfl j (.int .i64 L[j]) (by simp [hj'])
    rw [Addr.add_lit] at this
    rw [getElem!_pos _ j hj]
    exact ⟨by simpa using this, by simp [World.frozen?, hh]⟩
theorem own_putZ {w : World} {base : Nat} {e : TypeId} {g n cap m : Nat} {L : List Int} {d : Array Int} {os : Array Obj} (hd : d.size = n) (h : w.ownsRow base e 1 (.slice (some ⟨g, 0, none⟩) n cap) n (L.map (Value.int .i64))) :
    (grow (putRow (Value.int .i64) (Sort.ahead w m) g 0 d) os).ownsRow base e 1 (.slice (some ⟨g, 0, none⟩) n cap) n (d.toList.map (Value.int .i64)) ∧ w.grownBy (grow (putRow (Value.int .i64) (Sort.ahead w m) g 0 d) os) (some g) := by
  rcases h.2 with ⟨h1, _⟩ | ⟨g', cap', cur, he, hb, hh, hc, hm, hz, ht⟩
  · cases h1
  · injection he with he _ hcap
    injection he with he
    injection he with he
    subst he hcap
    have hg : g < w.heap.size := (Array.getElem?_eq_some_iff.1 hh).1
    have hheap : (grow (putRow (Value.int .i64) (Sort.ahead w m) g 0 d) os).heap[g]? = some (.cells (putCells (Value.int .i64) 0 d cur) e (0, 0)) := by
      rw [heap_grow_old _ _ (by simpa [putRow, mapBlock, Sort.ahead] using hg)]
      simp [putRow, mapBlock, Sort.ahead, Array.getElem?_modify, hh, onCells]
    refine ⟨⟨by simp [hd], .inr ⟨g, cap, _, rfl, hb, hheap, hc, hm, by simp [putCells, hz], ?_⟩⟩, ?_⟩
    · rw [Nat.mul_one, ← hd, take_putCellsZ _ _ _ (by omega)]
    · refine ⟨rfl, rfl, rfl, by simp [putRow, mapBlock, Sort.ahead], fun q hq hne => ?_⟩
      rw [heap_grow_old _ _ (by simpa [putRow, mapBlock, Sort.ahead] using hq)]
      have : g ≠ q := fun e => hne (by rw [e])
      simp [putRow, mapBlock, Sort.ahead, Array.getElem?_modify, this]
def sortZ (L : List Int) : List Int := L.mergeSort fun x y => decide (x ≤ y)
theorem sortZ_any (base g n cap : Nat) (L : List Int) (w : World) (hn : L.length = n) (hl : n ≤ 100000) (h : w.ownsRow base 3 1 (.slice (some ⟨g, 0, none⟩) n cap) n (L.map (Value.int .i64))) :
    Calls Tryz.prog 206 #[.slice (some ⟨g, 0, none⟩) n cap] w fun e w' => e = .returned (.tuple #[]) ∧ w'.ownsRow base 3 1 (.slice (some ⟨g, 0, none⟩) n cap) n ((sortZ L).map (Value.int .i64)) ∧ w.grownBy w' (some g) := by
  subst hn
  obtain ⟨hH, hg⟩ := holdsZ_own h
  have hc := AnyM.slices_Sort_int sortI g 0 cap L w hH hg (by omega)
  change Calls Tryz.prog 206 _ _ _ at hc
  refine hc.mono ?_
  rintro e w' ⟨rfl, m, os, rfl⟩
  have h2 := own_putZ (m := m) (os := os) (d := (sortZ L).toArray) (by simp [sortZ]) h
  refine ⟨rfl, ?_, h2.2⟩
  have h3 := h2.1
  rw [List.toList_toArray] at h3
  exact h3
theorem grow_none (w : World) : grow w #[] = w := by
  unfold grow; simp
theorem own_putZ0 {w : World} {base : Nat} {e : TypeId} {g n cap m : Nat} {L : List Int} {d : Array Int} (hd : d.size = n) (h : w.ownsRow base e 1 (.slice (some ⟨g, 0, none⟩) n cap) n (L.map (Value.int .i64))) :
    (putRow (Value.int .i64) (Sort.ahead w m) g 0 d).ownsRow base e 1 (.slice (some ⟨g, 0, none⟩) n cap) n (d.toList.map (Value.int .i64)) ∧ w.grownBy (putRow (Value.int .i64) (Sort.ahead w m) g 0 d) (some g) := by
  have := own_putZ (m := m) (os := #[]) hd h
  rwa [grow_none] at this
theorem own_shrinkZ {w : World} {base : Nat} {e : TypeId} {g n k cap : Nat} {L M : List Int} (hk : k ≤ n) (hM : M.length = k) (h : w.ownsRow base e 1 (.slice (some ⟨g, 0, none⟩) n cap) n ((M ++ L).map (Value.int .i64))) :
    w.ownsRow base e 1 (.slice (some ⟨g, 0, none⟩) k cap) k (M.map (Value.int .i64)) := by
  rcases h.2 with ⟨h1, _⟩ | ⟨g', cap', cur, he, hb, hh, hc, hm, hz, ht⟩
  · cases h1
  · injection he with he _ hcap
    injection he with he
    injection he with he
    subst he hcap
    refine ⟨by simp [hM], .inr ⟨g, cap, cur, rfl, hb, hh, by omega, hm, hz, ?_⟩⟩
    have h3 := congrArg (List.take k) ht
    have h4 : List.take k (M.map (Value.int .i64)) = M.map (Value.int .i64) := List.take_of_length_le (by simp [hM])
    rw [List.take_take, Nat.mul_one, Nat.min_eq_left hk, List.map_append, List.take_append_of_le_length (by simp [hM]), h4] at h3
    rw [Nat.mul_one]
    exact h3
theorem compact_le (L : List Int) : (Lib.compact L).length ≤ L.length := by
  unfold Lib.compact Lib.compactUpTo
  rw [List.length_map]
  refine Nat.le_trans (List.length_filter_le ..) ?_
  simp
theorem compactZ_any (base g n cap : Nat) (L : List Int) (w : World) (hn : L.length = n) (hl : n ≤ 100000) (hcap : n ≤ cap) (h : w.ownsRow base 3 1 (.slice (some ⟨g, 0, none⟩) n cap) n (L.map (Value.int .i64))) :
    Calls Tryz.prog 207 #[.slice (some ⟨g, 0, none⟩) n cap] w fun e w' => e = .returned (.slice (some ⟨g, 0, none⟩) (Lib.compact L).length cap) ∧ w'.ownsRow base 3 1 (.slice (some ⟨g, 0, none⟩) (Lib.compact L).length cap) (Lib.compact L).length ((Lib.compact L).map (Value.int .i64)) ∧ w.grownBy w' (some g) := by
  subst hn
  obtain ⟨hH, hg⟩ := holdsZ_own h
  have hle := compact_le L
  have hc := Any.slices_Compact_int compactI g 0 cap L w hH (by omega) hcap
  change Calls Tryz.prog 207 _ _ _ at hc
  refine hc.mono ?_
  rintro e w' ⟨rfl, q, rfl⟩
  have h2 := own_putZ0 (m := q) (d := (Lib.compact L ++ List.replicate (L.length - (Lib.compact L).length) 0).toArray) (by simp; omega) h
  refine ⟨rfl, ?_, h2.2⟩
  have h3 := h2.1
  rw [List.toList_toArray] at h3
  exact own_shrinkZ hle rfl h3
end Go.Proofs.YtbnobjlphmkgeaaGreatDoor
/- Sorting, compacting and turning own rows of numbers. -/
namespace Go.Proofs.YtbnobjlphmkgeaaGreatDoor
open Go.RowKit Go.Sort Go.Shelf Go.Lib

theorem ncell_map (L : List Nat) : L.flatMap ncell = (L.map fun i : Nat => (i : Int)).map (Value.int .i64) := by
  rw [List.map_map, List.map_eq_flatMap]; rfl
theorem sortZ_cast (L : List Nat) : sortZ (L.map fun i : Nat => (i : Int)) = (sortNat L).map fun i : Nat => (i : Int) := by
  unfold sortZ sortNat
  rw [List.map_mergeSort]
  intro a _ b _
  simp
theorem sortNat_any (base n : Nat) (v : Value) (L : List Nat) (w : World) (hn : L.length = n) (hl : n ≤ 100000) (h : w.ownsRow base 3 1 v n (L.flatMap ncell)) :
    Calls Tryz.prog 206 #[v] w fun e w' => e = .returned (.tuple #[]) ∧ w'.ownsRow base 3 1 v n ((sortNat L).flatMap ncell) ∧ w.grownBy w' v.ownBlock := by
  rcases h.2 with ⟨rfl, h0⟩ | ⟨g, cap, cur, rfl, -⟩
  · have hL : L = [] := List.eq_nil_of_length_eq_zero (by omega)
    subst hL h0
    have hc := AnyM.slices_Sort_int_none sortI none 0 w
    change Calls Tryz.prog 206 _ _ _ at hc
    refine hc.mono ?_
    rintro e w' ⟨rfl, rfl⟩
    exact ⟨rfl, by rw [show sortNat [] = [] by simp [sortNat]]; exact h, World.grownBy.refl _ _⟩
  · have h' := h
    rw [ncell_map] at h'
    have hc := sortZ_any base g n cap _ w (by simpa using hn) hl h'
    refine hc.mono ?_
    rintro e w' ⟨rfl, h1, h2⟩
    rw [sortZ_cast, ← ncell_map] at h1
    exact ⟨rfl, h1, h2⟩
theorem compact_none (w : World) : Calls Tryz.prog 207 #[.slice none 0 0] w fun e w' => e = .returned (.slice none 0 0) ∧ w = w' := by
  go_enter Tryz.func207, Tryz.ntmps207
  go_wp2_with fail
  go_ret
  exact ⟨rfl, rfl⟩
theorem compactNat_any (base n : Nat) (v : Value) (L : List Nat) (w : World) (hn : L.length = n) (hl : n ≤ 100000) (h : w.ownsRow base 3 1 v n ((sortNat L).flatMap ncell)) :
    Calls Tryz.prog 207 #[v] w fun e w' => ∃ v', e = .returned v' ∧ w'.ownsRow base 3 1 v' (dedup (sortNat L)).length ((dedup (sortNat L)).flatMap ncell) ∧ w.grownBy w' v.ownBlock ∧ v'.ownBlock = v.ownBlock := by
  rcases h.2 with ⟨rfl, h0⟩ | ⟨g, cap, cur, rfl, -, -, hcap, -⟩
  · have hL : L = [] := List.eq_nil_of_length_eq_zero (by omega)
    subst hL h0
    have hs : sortNat [] = [] := by unfold sortNat; simp
    rw [hs] at h ⊢
    refine (compact_none w).mono ?_
    rintro e w' ⟨rfl, rfl⟩
    exact ⟨_, rfl, h, World.grownBy.refl _ _, rfl⟩
  · have h' := h
    rw [ncell_map] at h'
    have hc := compactZ_any base g n cap _ w (by rw [List.length_map, sortNat_len]; exact hn) hl hcap h'
    refine hc.mono ?_
    rintro e w' ⟨rfl, h1, h2⟩
    rw [compact_cast] at h1 ⊢
    rw [List.length_map, ← ncell_map] at h1
    rw [List.length_map]
    exact ⟨_, rfl, h1, h2, rfl⟩
end Go.Proofs.YtbnobjlphmkgeaaGreatDoor
/- Package reach: from: who is led to, by the least way: what its walk holds. -/
namespace Go.Proofs.YtbnobjlphmkgeaaGreatDoor
open Go.RowKit Go.Maps Go.ChangeMaps

def pv (W : Ways) : Nat → Option Value := fun k => (W k).map fun p => .int .i64 (par p : Int)
theorem pv_upd (W : Ways) (y : Nat) (p : List Nat) : upd (pv W) y (.int .i64 (par p : Int)) = pv (wset W y p) := by
  funext q; unfold upd pv wset
  by_cases e : q = y
  · rw [if_pos e, if_pos e]; rfl
  · rw [if_neg e, if_neg e]
theorem zero_int (w : World) : (zeroValue 3).run Tryz.prog w = .ok (.int .i64 0) w := by kernel_rfl
/-- a row of one's own beside a map -/
theorem own_map {w w' : World} {base n mb : Nat} {v : Value} {xs : List Value} (h : w.ownsRow base 3 1 v n xs) (hm : ∃ es clock, w.heap[mb]? = some (.map es clock)) (hk : Keep (fun q => q = mb) w w') : w'.ownsRow base 3 1 v n xs :=
  ownsRow_block h fun q hq => by
    refine hk.block q (h.lt q hq).2 fun e => ?_
    obtain ⟨es, clock, hm⟩ := hm
    rcases h.2 with ⟨he, -⟩ | ⟨g, cap, cur, he, -, hh, -⟩
    · rw [he] at hq; cases hq
    · rw [he] at hq
      have : g = q := by simpa [Value.ownBlock] using hq
      rw [this, e, hm] at hh; cases hh
theorem own_ne {w : World} {base n mb : Nat} {v : Value} {xs : List Value} (h : w.ownsRow base 3 1 v n xs) (hm : ∃ es clock, w.heap[mb]? = some (.map es clock)) : ∀ q, v.ownBlock = some q → q ≠ mb := fun q hq e => by
  obtain ⟨es, clock, hm⟩ := hm
  rcases h.2 with ⟨he, -⟩ | ⟨g, cap, cur, he, -, hh, -⟩
  · rw [he] at hq; cases hq
  · rw [he] at hq
    have : g = q := by simpa [Value.ownBlock] using hq
    rw [this, e, hm] at hh; cases hh
theorem own_other {w w' : World} {base n : Nat} {v : Value} {xs : List Value} {b : Option Nat} (h : w.ownsRow base 3 1 v n xs) (hg : w.grownBy w' b) (hn : ∀ q, v.ownBlock = some q → b ≠ some q) : w'.ownsRow base 3 1 v n xs :=
  ownsRow_block h fun q hq => hg.block q (h.lt q hq).2 fun e => hn q hq e.symm
section
variable {w0 w wr w' : World} {F : Nat → Prop} {h mb : Nat} {l : Bytes} {W : Ways}
/-- the map of the ways so far, beside the heap -/
structure FrSt (w0 w wr : World) (F : Nat → Prop) (h mb : Nat) (l : Bytes) (W : Ways) : Prop where
  hp : Hp w0 wr F h l
  bel : Below w.heap.size w wr
  new : w.heap.size ≤ mb
  nf : ¬ F mb
  w0w : w0.heap.size ≤ w.heap.size
  im : ∃ cnt, IM Tryz.prog 3 natL wr mb (pv W) cnt ∧ cnt ≤ 41
theorem FrSt.isMap (hs : FrSt w0 w wr F h mb l W) : ∃ es clock, wr.heap[mb]? = some (.map es clock) := by
  obtain ⟨cnt, him, -⟩ := hs.im
  exact him.isMap
theorem FrSt.below (hs : FrSt w0 w wr F h mb l W) (hb : Below wr.heap.size wr w') : FrSt w0 w w' F h mb l W := by
  obtain ⟨cnt, him, hc⟩ := hs.im
  exact ⟨hs.hp.below hb, hs.bel.trans (hb.mono hs.bel.size), hs.new, hs.nf, hs.w0w, cnt, him.block (hb.block _ him.lt), hc⟩
theorem Hp.grown (hp : Hp w0 wr F h l) {b : Option Nat} (hg : wr.grownBy w' b) (hb : ∀ q, b = some q → w0.heap.size ≤ q ∧ ¬ F q) : Hp w0 w' F h l := by
  have hk : Keep (fun q => b = some q) wr w' := ⟨hg.os, hg.tape, hg.output, hg.size, fun k hk hn => hg.block k hk (fun e => hn e.symm)⟩
  exact hp.keep hk (fun k hf e => (hb k e).2 hf) (fun k e => (hb k e).1)
theorem FrSt.grown (hs : FrSt w0 w wr F h mb l W) {b : Option Nat} (hg : wr.grownBy w' b) (hb : ∀ q, b = some q → w.heap.size ≤ q ∧ ¬ F q ∧ q ≠ mb) : FrSt w0 w w' F h mb l W := by
  obtain ⟨cnt, him, hc⟩ := hs.im
  exact ⟨hs.hp.grown hg fun q hq => ⟨Nat.le_trans hs.w0w (hb q hq).1, (hb q hq).2.1⟩, hs.bel.grown hg hs.bel.size (fun q hq => (hb q hq).1), hs.new, hs.nf, hs.w0w, cnt, him.block (hg.block _ him.lt (fun e => (hb _ e.symm).2.2 rfl)), hc⟩
theorem FrSt.store (hs : FrSt w0 w wr F h mb l W) {y x : Nat} {p : List Nat} (hy : y < 41) (hx : par p = x) (hW : ∀ k, (wset W y p k).isSome = true → k < 41) :
    ∃ w', (Instr.mapUpdate 215 (.map (some mb)) (.int .i64 (y : Int)) (.int .i64 (x : Int))).run Tryz.prog wr = .ok () w' ∧ FrSt w0 w w' F h mb l (wset W y p) ∧ Keep (fun q => q = mb) wr w' ∧ w'.heap.size = wr.heap.size := by
  obtain ⟨cnt, him, hc⟩ := hs.im
  obtain ⟨w', hrun, him', hg, hsz⟩ := him.store int_keyed natL_inj (T := 215) Tryz.underlying215 (by simp only [maxLen]; omega) (int_key (n := y) (by omega)) (.int .i64 (par p : Int))
  rw [pv_upd] at him'
  rw [hx] at hrun
  have hk : Keep (fun q => q = mb) wr w' := ⟨hg.os, hg.tape, hg.output, hg.size, fun k hk hn => hg.block k hk (fun e => hn (Option.some.inj e))⟩
  refine ⟨w', hrun, ⟨hs.hp.keep hk (fun k hf e => hs.nf (e ▸ hf)) (fun k e => e ▸ Nat.le_trans hs.w0w hs.new), hs.bel.grown hg hs.bel.size (fun q hq => by rw [← Option.some.inj hq]; exact hs.new), hs.new, hs.nf, hs.w0w, _, him', ?_⟩, hk, hsz⟩
  exact him'.size_le Tryz.underlying3 41 fun k hk' => by
    refine hW k ?_
    unfold pv at hk'
    cases e : wset W y p k with
    | none => rw [e] at hk'; cases hk'
    | some q => rfl
theorem FrSt.look (hs : FrSt w0 w wr F h mb l W) {y : Nat} (hy : y < 41) :
    (W y = none → (Instr.lookup 215 (.map (some mb)) (.int .i64 (y : Int)) true).run Tryz.prog wr = .ok (.tuple #[.int .i64 0, .bool false]) wr) ∧
    (∀ p, W y = some p → (Instr.lookup 215 (.map (some mb)) (.int .i64 (y : Int)) true).run Tryz.prog wr = .ok (.tuple #[.int .i64 (par p : Int), .bool true]) wr ∧ (Instr.lookup 215 (.map (some mb)) (.int .i64 (y : Int)) false).run Tryz.prog wr = .ok (.int .i64 (par p : Int)) wr) := by
  obtain ⟨cnt, him, -⟩ := hs.im
  constructor
  · intro hn
    exact (him.look_none int_keyed (T := 215) Tryz.underlying215 (zero_int wr) (int_key (n := y) (by omega)) (by unfold pv; rw [hn]; rfl)).1
  · intro p hp
    exact him.look_some int_keyed (T := 215) Tryz.underlying215 (zero_int wr) (int_key (n := y) (by omega)) (by unfold pv; rw [hp]; rfl)
/-- the roots laid so far -/
def partW (S : List Nat) : Ways := fun q => if q ∈ S then some [q] else none
theorem partW_succ (S : List Nat) (k : Nat) (hk : k < S.length) : wset (partW (S.take k)) S[k] [S[k]] = partW (S.take (k + 1)) := by
  funext q
  unfold wset partW
  rw [List.take_succ_eq_append_getElem hk]
  simp only [List.mem_append, List.mem_singleton]
  by_cases e : q = S[k]
  · subst e; rw [if_pos rfl, if_pos (.inr rfl)]
  · rw [if_neg e]
    by_cases hm : q ∈ S.take k
    · rw [if_pos hm, if_pos (.inl hm)]
    · rw [if_neg hm, if_neg (fun h => h.elim hm e)]
theorem partW_all (l : Bytes) : partW (sortNat (rootsH l)) = startW l := by
  funext q; unfold partW startW; simp only [sortNat_mem]
/-- within a level: the refs of one -/
theorem mid_ok {l : Bytes} {s : Ways × List Nat} {D : List Nat} (h : LvOk l s D) (i : Nat) (_hi : i ≤ s.2.length) : ∃ D', LOk l ((s.2.take i).foldl (stepX l) (s.1, [])) D' s.1 D := by
  obtain ⟨D', h1, -⟩ := LOk.foldX (l := l) (D0 := D) (W0 := s.1) (s.2.take i) (s.1, []) D ⟨h.ok, by simp, fun _ _ => rfl⟩ (fun x hx => h.row x (List.mem_of_mem_take hx))
  exact ⟨D', h1⟩
theorem mid_succ (l : Bytes) (s : Ways × List Nat) (i : Nat) (hi : i < s.2.length) : (s.2.take (i + 1)).foldl (stepX l) (s.1, []) = stepX l ((s.2.take i).foldl (stepX l) (s.1, [])) s.2[i] := by
  rw [List.take_succ_eq_append_getElem hi, List.foldl_append]; rfl
theorem in_ok {l : Bytes} {s : Ways × List Nat} {D D0 : List Nat} {W0 : Ways} (h : LOk l s D W0 D0) {x : Nat} (hx : x ∈ D0) (j : Nat) : ∃ D', LOk l (((sortNat (refsL l (x : Int))).take j).foldl (stepY x) s) D' W0 D0 := by
  obtain ⟨D', h1, -⟩ := LOk.foldY hx ((sortNat (refsL l (x : Int))).take j) s D h (fun y hy => sortNat_mem.1 (List.mem_of_mem_take hy))
  exact ⟨D', h1⟩
theorem in_succ (x : Nat) (L : List Nat) (s : Ways × List Nat) (j : Nat) (hj : j < L.length) : (L.take (j + 1)).foldl (stepY x) s = stepY x ((L.take j).foldl (stepY x) s) L[j] := by
  rw [List.take_succ_eq_append_getElem hj, List.foldl_append]; rfl
theorem LOk.next_le {l : Bytes} {s : Ways × List Nat} {D D0 : List Nat} {W0 : Ways} (h : LOk l s D W0 D0) : s.2.length ≤ 40 := by
  have := h.ok.le; rw [h.spl, List.length_append] at this; omega
theorem lvl_len {l : Bytes} (hg : Good l) : ∀ k, (lvlN l k).2.length ≤ 40
  | 0 => (startW_ok hg).le
  | k + 1 => by
    obtain ⟨D, h, -⟩ := LvOk.at_ hg k
    obtain ⟨D', h'⟩ := mid_ok h (lvlN l k).2.length (Nat.le_refl _)
    rw [List.take_length] at h'
    exact h'.next_le
/-- what a new one is led to by -/
theorem LOk.par_new {l : Bytes} {s : Ways × List Nat} {D D0 : List Nat} {W0 : Ways} (h : LOk l s D W0 D0) {x : Nat} (hx : x ∈ D0) (y : Nat) : par (wayOf s.1 x ++ [y]) = x := by
  have hxD : x ∈ D := by rw [h.spl]; exact List.mem_append_left _ hx
  obtain ⟨p, hp⟩ := Option.isSome_iff_exists.1 ((h.ok.dk x).2 hxD)
  obtain ⟨q, e, -⟩ := h.ok.ways x p hp
  unfold wayOf; rw [hp, e]
  show par (q ++ [x] ++ [y]) = x
  rw [List.append_assoc]; exact par_two q x y
theorem WOk.lt41 {l : Bytes} {W : Ways} {D : List Nat} (h : WOk l W D) {k : Nat} (hk : (W k).isSome = true) : k < 41 := by
  have := hE_nat (h.dh k ((h.dk k).1 hk)); omega
end
end Go.Proofs.YtbnobjlphmkgeaaGreatDoor
/- Package reach: from, the walk. -/
namespace Go.Proofs.YtbnobjlphmkgeaaGreatDoor
open Go.RowKit Go.Maps Go.ChangeMaps

section
variable {w0 w : World} {F : Nat → Prop} {h : Nat} {l : Bytes}
/-- within a level -/
structure LvSt (w0 w wX wr : World) (F : Nat → Prop) (h mb : Nat) (l : Bytes) (s : Ways × List Nat) (v : Value) : Prop where
  fr : FrSt w0 w wr F h mb l s.1
  nx : wr.ownsRow wX.heap.size 3 1 v s.2.length (s.2.flatMap ncell)
  kp : Keep (fun q => q = mb) wX wr
set_option maxRecDepth 100000 in
set_option maxHeartbeats 1000000 in
theorem from_any (hp : Hp w0 w F h l) (hg : Good l) :
    Calls Tryz.prog 160 #[.pointer (some ⟨h, 0, none⟩)] w fun e w' => ∃ mb, e = .returned (.map (some mb)) ∧ FrSt w0 w w' F h mb l (fromW l) := by
  obtain ⟨i0', hi0, hz0, hz1, hz2⟩ := info_parts int_infoC
  have HI := Hidden.mk (And.intro hi0 (And.intro hz0 (And.intro hz1 hz2)))
  have hmm := @run_makeMap Tryz.prog
  have HG := Hidden.mk hg
  have hal := (Below.refl w.heap.size w).alloc (Nat.le_refl _) (.map #[] 0)
  have HFL : Hidden (∀ q, F q → q < w.heap.size) := ⟨hp.flt⟩
  have HST : Hidden (FrSt w0 w (w.alloc (.map #[] 0)) F h w.heap.size l (fun _ => none)) := ⟨⟨hp.below hal, hal, Nat.le_refl _, fun hk => by have := hp.flt _ hk; omega, hp.bel.size, 0, IM.made w, by omega⟩⟩
  have HRT := Hidden.mk (hroots_any (hp.below hal))
  have hR8 : (rootsL l).length ≤ 8 := rootsF_len _ _
  have HRH : Hidden (rootsH l = (rootsL l).map (·.2)) := ⟨rfl⟩
  generalize rootsL l = R at *
  clear hp hal hi0 hz0 hz1 hz2 hg
  go_enter Tryz.func160, Tryz.ntmps160
  go_wp2_with fail
  clear hmm
  generalize w.alloc (.map #[] 0) = wA at *
  generalize hmb : w.heap.size = mb at HST ⊢
  clear hmb
  refine HRT.out.mono ?_
  rintro e w1 ⟨v1, rfl, hown1, hb1⟩
  have HST1 := Hidden.mk (HST.out.below hb1)
  obtain ⟨A1, c1, rfl, -, -⟩ := own_split hown1
  have HR := Hidden.mk (own_rdX3 (f := rcells) (fun _ => rfl) rfl hown1)
  generalize hm : R.length = m at *
  have HM := Hidden.mk hm
  clear hown1 hb1 HRT HST hm
  go_wp2_with fail
  go_loopg [4, 21] m (fun q v i wr => ∃ k : Nat, k ≤ m ∧ q = m - k ∧ i = .int .i64 (k : Int) ∧ Hidden (FrSt w0 w wr F h mb l (fun _ => none) ∧ Below w1.heap.size w1 wr ∧ wr.ownsRow w1.heap.size 3 1 v k (((R.map (·.2)).take k).flatMap ncell)))
  case atStart => exact ⟨0, by omega, rfl, rfl, ⟨HST1.out, Below.refl _ _, World.ownsRow_nil _ _ _ _⟩⟩
  case round =>
    obtain ⟨k, hk, rfl, rfl, hst⟩ := hrel
    by_cases hlt : k < m
    · have hkR : k < R.length := by rw [HM.out]; exact hlt
      obtain ⟨pb, ob, rfl, hcx⟩ := (HR.out.below hst.out.2.1) k hkR
      have x0 := hcx 0 _ rfl
      have x1 := hcx 1 _ rfl
      rw [Nat.add_zero] at x0
      have HS : Hidden ((R.map (·.2)).take (k + 1) = (R.map (·.2)).take k ++ [R[k].2]) := ⟨by rw [List.take_succ_eq_append_getElem (by simpa using hkR)]; simp⟩
      generalize R[k].2 = q0 at *
      generalize R[k].1 = s0 at *
      have i0 : (0 : Int) ≤ k := by omega
      have i1 : (k : Int) < m := by omega
      have s3 : IntKind.i64.wrap ((k : Int) + 1) = (k : Int) + 1 := IntWalk.i64_in _ (by omega)
      have hal : Below wr.heap.size wr (wr.alloc (.cells #[.string ⟨s0.toArray⟩, .int .i64 (q0 : Int)] 128)) := (Below.refl _ _).alloc (Nat.le_refl _) _
      have HN := Hidden.mk (And.intro (hst.out.1.below hal) (And.intro (hst.out.2.1.trans (hal.mono hst.out.2.1.size)) (own_below hst.out.2.2 hal)))
      obtain ⟨hi0, hz0, hz1, hz2⟩ := HI.out
      clear hcx hal hst
      go_wp2_with (at_builtin; refine wpList_append_lies _ rfl (.tmp 25) (.tmp 28) _ rfl w1.heap.size 3 i0' _ 1 8 Tryz.underlying54 hi0 hz0 hz1 hz2 rfl (by decide) u4 k (((R.map (·.2)).take k).flatMap ncell) rfl (own_below HN.out.2.2 ((Below.refl _ _).alloc (Nat.le_refl _) _)) ⟨wr.heap.size + 1, 0, none⟩ 1 1 [.int .i64 (q0 : Int)] rfl rfl (World.news_of_block (cs := #[.int .i64 (q0 : Int)]) (t := 3) (fr := (0, 0)) (by have hq_ := heap_alloc_new ((wr.alloc (.cells #[.string ⟨s0.toArray⟩, .int .i64 (q0 : Int)] 128))) (.cells #[.int .i64 (q0 : Int)] 3); rwa [World.size_alloc] at hq_)) (by simp [Value.oneCell']) (by omega) (by simp only [maxLen]; omega) (by omega) (by have hz_ := HN.out.2.1.size; rw [World.size_alloc]; omega) (wr.heap.size + 1 + 1) (by simp) ?_; intro g8 cap8 w8 hown8 hg8 hat8 hlt8)
      have hgW := grown_trans' ((Below.refl (wr.alloc (.cells #[.string ⟨s0.toArray⟩, .int .i64 (q0 : Int)] 128)).heap.size (wr.alloc (.cells #[.string ⟨s0.toArray⟩, .int .i64 (q0 : Int)] 128))).alloc (Nat.le_refl _) _) hg8
      have hlo : ∀ q, u4.ownBlock = some q → w1.heap.size ≤ q := fun q hq => (HN.out.2.2.lt q hq).1
      have hF8 : FrSt w0 w w8 F h mb l (fun _ => none) := HN.out.1.grown hgW fun q hq => by
        have h1 := hlo q hq
        refine ⟨Nat.le_trans HST1.out.bel.size h1, fun hf => ?_, own_ne HN.out.2.2 HN.out.1.isMap q hq⟩
        have := HST1.out.hp.flt q hf; omega
      have HF : Hidden (FrSt w0 w w8 F h mb l (fun _ => none) ∧ Below w1.heap.size w1 w8 ∧ w8.ownsRow w1.heap.size 3 1 (.slice (some ⟨g8, 0, none⟩) (k + 1) cap8) (k + 1) (((R.map (·.2)).take (k + 1)).flatMap ncell)) := ⟨hF8, HN.out.2.1.grown hgW HN.out.2.1.size hlo, by rw [HS.out]; simpa [ncell] using hown8⟩
      clear hgW hlo hF8 hown8 hg8 hat8 hlt8 hi0 hz0 hz1 hz2
      go_roundg (m - (k + 1))
      case measure => omega
      case rel => exact ⟨k + 1, by omega, rfl, by go_num, HF⟩
    · obtain rfl : m = k := by omega
      have hT := hst.out.2.2
      rw [List.take_of_length_le (by rw [List.length_map, HM.out]; exact Nat.le_refl _), ← HRH.out] at hT
      have hlen : (rootsH l).length = m := by rw [HRH.out, List.length_map]; exact HM.out
      have HSO := Hidden.mk (sortNat_any w1.heap.size m u4 (rootsH l) wr hlen (by omega) hT)
      have HO := Hidden.mk hT
      have HFR := Hidden.mk hst.out.1
      have HLN := Hidden.mk hlen
      clear hT hst hlen HRH HR
      go_wp2_with fail
      refine HSO.out.mono ?_
      rintro e w3 ⟨rfl, hown3, hg3⟩
      have hF3 : FrSt w0 w w3 F h mb l (partW ((sortNat (rootsH l)).take 0)) := by
        have := HFR.out.grown hg3 fun q hq => by
          have h1 := (HO.out.lt q hq).1
          refine ⟨Nat.le_trans HST1.out.bel.size h1, fun hf => ?_, own_ne HO.out HFR.out.isMap q hq⟩
          have := HST1.out.hp.flt q hf; omega
        have e : partW ((sortNat (rootsH l)).take 0) = fun _ => none := by funext q; simp [partW]
        rw [e]; exact this
      have HF3 := Hidden.mk hF3
      have HB1 := Hidden.mk HST1.out.bel
      obtain ⟨A3, c3, hu4, hc3, -⟩ := own_split hown3
      rw [hu4] at hown3 ⊢
      have HO3 := Hidden.mk hown3
      have HSL : Hidden ((sortNat (rootsH l)).length = m) := ⟨by rw [sortNat_len]; exact HLN.out⟩
      have HSE : Hidden (∀ x ∈ sortNat (rootsH l), x < 41) := ⟨fun x hx => by have := hE_nat (rootsH_mem HG.out (sortNat_mem.1 hx)); omega⟩
      generalize hS : sortNat (rootsH l) = S at *
      have HS := Hidden.mk hS
      clear hF3 hown3 hg3 HSO HO HFR HST1 HLN hS hu4
      go_wp2_with fail
      go_loopg [35] m (fun q i wr => ∃ k : Nat, k ≤ m ∧ q = m - k ∧ i = .int .i64 (k : Int) ∧ Hidden (FrSt w0 w wr F h mb l (partW (S.take k)) ∧ Keep (fun q => q = mb) w3 wr))
      case atStart => exact ⟨0, by omega, rfl, rfl, ⟨HF3.out, Keep.refl _ _⟩⟩
      case round =>
        obtain ⟨k, hk, rfl, rfl, hst⟩ := hrel
        by_cases hlt : k < m
        · have hkS : k < S.length := by rw [HSL.out]; exact hlt
          have hown := own_map HO3.out HF3.out.isMap hst.out.2
          obtain ⟨pb, ob, hA3, hcx⟩ := (own_rdX3 (f := ncell) (fun _ => rfl) HSL.out hown) k hkS
          have x0 : wr.cell? ⟨pb, ob + k, none⟩ = some (.int .i64 (S[k] : Int)) := by simpa using hcx 0 _ rfl
          have h41 := HSE.out S[k] (List.getElem_mem hkS)
          obtain ⟨w5, hrun, hF5, hk5, -⟩ := hst.out.1.store (y := S[k]) (x := S[k]) (p := [S[k]]) h41 rfl (fun z hz => by
            rw [partW_succ S k hkS] at hz
            unfold partW at hz
            split at hz
            · rename_i hm; exact HSE.out z (List.mem_of_mem_take hm)
            · cases hz)
          rw [partW_succ S k hkS] at hF5
          have HF5 := Hidden.mk (And.intro hF5 (hst.out.2.trans hk5 (fun _ hx => .inl hx)))
          generalize S[k] = q0 at *
          have i0 : (0 : Int) ≤ k := by omega
          have i1 : (k : Int) < m := by omega
          have s3 : IntKind.i64.wrap ((k : Int) + 1) = (k : Int) + 1 := IntWalk.i64_in _ (by omega)
          subst hA3
          clear hcx hst hown hF5 hk5
          go_wp2_with fail
          go_roundg (m - (k + 1))
          case measure => omega
          case rel => exact ⟨k + 1, by omega, rfl, by go_num, HF5⟩
        · obtain rfl : m = k := by omega
          have hown := own_map HO3.out HF3.out.isMap hst.out.2
          have hF6 := hst.out.1
          rw [List.take_of_length_le (by rw [HSL.out]; exact Nat.le_refl _), ← HS.out, partW_all] at hF6
          rw [← HS.out] at hown
          have HLN : Hidden ((rootsH l).length = m) := ⟨by rw [← sortNat_len, HS.out]; exact HSL.out⟩
          have HCP := Hidden.mk (compactNat_any w1.heap.size m (.slice A3 m c3) (rootsH l) wr HLN.out (by omega) hown)
          have HO6 := Hidden.mk hown
          have HF6 := Hidden.mk hF6
          clear hown hF6 hst HO3 HF3 HSL HSE HS
          go_wp2_with fail
          refine HCP.out.mono ?_
          rintro e w7 ⟨v7, rfl, hown7, hg7, -⟩
          have hF7 : FrSt w0 w w7 F h mb l (startW l) := HF6.out.grown hg7 fun q hq => by
            have h1 := (HO6.out.lt q hq).1
            refine ⟨Nat.le_trans HB1.out.size h1, fun hf => ?_, own_ne HO6.out HF6.out.isMap q hq⟩
            have := HFL.out q hf; have := HB1.out.size; omega
          have HL0 : Hidden (FrSt w0 w w7 F h mb l (lvlN l 0).1 ∧ w7.ownsRow w.heap.size 3 1 v7 (lvlN l 0).2.length ((lvlN l 0).2.flatMap ncell)) := ⟨hF7, own_base hown7 HB1.out.size⟩
          clear hF7 hown7 hg7 HCP HO6 HF6 HLN
          go_wp2_with fail
          go_loopg [4] 41 (fun q v wr => ∃ k : Nat, k ≤ 41 ∧ q = 41 - k ∧ Hidden (FrSt w0 w wr F h mb l (lvlN l k).1 ∧ wr.ownsRow w.heap.size 3 1 v (lvlN l k).2.length ((lvlN l k).2.flatMap ncell)))
          case atStart => exact ⟨0, by omega, rfl, HL0⟩
          case round =>
            obtain ⟨k, hk, rfl, hst⟩ := hrel
            generalize wr = wx at *
            obtain ⟨D, hLv, -⟩ := LvOk.at_ HG.out k
            obtain ⟨A4, c4, rfl, hc4, -⟩ := own_split hst.out.2
            by_cases hnil : (lvlN l k).2 = []
            · have hF := hst.out.1
              rw [fromW_of hk hnil] at hF
              have HF := Hidden.mk hF
              have e0 : (lvlN l k).2.length = 0 := by rw [hnil]; rfl
              have d0 : decide (0 < (lvlN l k).2.length) = false := decide_eq_false (by omega)
              generalize (lvlN l k).2.length = n0 at *
              clear hst hF hnil hLv e0
              go_wp2_with fail
              go_ret
              exact ⟨_, rfl, HF.out⟩
            · have hk41 : k < 41 := by
                rcases Nat.lt_or_eq_of_le hk with h | h
                · exact h
                · subst h; exact absurd (lvlN_end HG.out) hnil
              have hpos : 0 < (lvlN l k).2.length := List.length_pos_iff.2 hnil
              have d0 : decide (0 < (lvlN l k).2.length) = true := decide_eq_true hpos
              have hle := lvl_len HG.out k
              have HLS : Hidden (lvlN l (k + 1) = (lvlN l k).2.foldl (stepX l) ((lvlN l k).1, [])) := ⟨rfl⟩
              have HLV := Hidden.mk hLv
              have HST := Hidden.mk hst.out
              generalize hs : lvlN l k = s at *
              obtain ⟨W, L⟩ := s
              dsimp only at *
              clear hst hnil hLv hs hpos
              go_wp2_with fail
              go_loopg [9, 50] L.length (fun q v i ws => ∃ i0 : Nat, i0 ≤ L.length ∧ q = L.length - i0 ∧ i = .int .i64 (i0 : Int) ∧ Hidden (LvSt w0 w wx ws F h mb l ((L.take i0).foldl (stepX l) (W, [])) v))
              case atStart => exact ⟨0, by omega, rfl, rfl, ⟨HST.out.1, World.ownsRow_nil _ _ _ _, Keep.refl _ _⟩⟩
              case round =>
                obtain ⟨i, hi, rfl, rfl, hst⟩ := hrel
                generalize wr = ws at *
                by_cases hlt : i < L.length
                · have hown4 := own_map HST.out.2 HST.out.1.isMap hst.out.kp
                  obtain ⟨pb, ob, hA4, hcx⟩ := (own_rdX3 (f := ncell) (fun _ => rfl) rfl hown4) i hlt
                  have x0 : ws.cell? ⟨pb, ob + i, none⟩ = some (.int .i64 (L[i] : Int)) := by simpa using hcx 0 _ rfl
                  obtain ⟨D1, hL1⟩ := mid_ok HLV.out i hi
                  have HL1 := Hidden.mk hL1
                  have HMS := Hidden.mk (mid_succ l (W, L) i hlt)
                  have HXD := Hidden.mk (HLV.out.row L[i] (List.getElem_mem hlt))
                  have HLS1 := Hidden.mk hst.out
                  dsimp only at HL1 HMS
                  generalize L[i] = x at *
                  generalize (L.take i).foldl (stepX l) (W, []) = s1 at *
                  have i0 : (0 : Int) ≤ i := by omega
                  have i1 : (i : Int) < L.length := by omega
                  have s3 : IntKind.i64.wrap ((i : Int) + 1) = (i : Int) + 1 := IntWalk.i64_in _ (by omega)
                  have HRF := Hidden.mk (refs_any (x : Int) hst.out.fr.hp HG.out)
                  have HRL : Hidden ((refsL l (x : Int)).length ≤ 100000) := ⟨by
                    unfold refsL
                    have h1 := refsB_len l (readL l (x : Int) 0 (min (gL l (x : Int)) (gT l (x : Int)))) _ (Nat.le_refl _)
                    rw [List.take_length] at h1
                    refine Nat.le_trans h1 ?_
                    unfold readL
                    split
                    · rename_i hz
                      have := some_in HG.out hz
                      simp; omega
                    · simp⟩
                  subst hA4
                  clear hcx hst hown4 hL1
                  go_wp2_with fail
                  refine HRF.out.mono ?_
                  rintro e w5 ⟨v12, rfl, hown5, hb5⟩
                  have HSO := Hidden.mk (sortNat_any ws.heap.size _ v12 (refsL l (x : Int)) w5 rfl HRL.out hown5)
                  have HF5 := Hidden.mk (HLS1.out.fr.below hb5)
                  have HN5 := Hidden.mk (own_below HLS1.out.nx hb5)
                  have HK5 := Hidden.mk (HLS1.out.kp.trans (Keep.of_below (F := fun q => q = mb) hb5) (fun _ hx => .inl hx))
                  have HO5 := Hidden.mk hown5
                  have HSZ : Hidden (w.heap.size ≤ ws.heap.size) := ⟨HLS1.out.fr.bel.size⟩
                  have HNL : Hidden (∀ q, u9.ownBlock = some q → q < ws.heap.size) := ⟨fun q hq => (HLS1.out.nx.lt q hq).2⟩
                  have HWX : Hidden (wx.heap.size ≤ ws.heap.size) := ⟨HLS1.out.kp.size⟩
                  clear hown5 hb5 HRF HLS1
                  go_wp2_with fail
                  refine HSO.out.mono ?_
                  rintro e w6 ⟨rfl, hown6, hg6⟩
                  have hF6 : FrSt w0 w w6 F h mb l s1.1 := HF5.out.grown hg6 fun q hq => by
                    have h1 := (HO5.out.lt q hq).1
                    refine ⟨Nat.le_trans HSZ.out h1, fun hf => ?_, own_ne HO5.out HF5.out.isMap q hq⟩
                    have := HFL.out q hf; have := HSZ.out; omega
                  have hN6 := own_other HN5.out hg6 fun q hq e => by
                    have := HNL.out q hq; have := (HO5.out.lt q e).1; omega
                  have hK6 : Keep (fun q => q = mb) wx w6 := HK5.out.trans ⟨hg6.os, hg6.tape, hg6.output, hg6.size, fun k hk hn => hg6.block k hk (fun e => hn e)⟩ (fun q hq => .inr (by
                    have := (HO5.out.lt q hq.symm).1; have := HWX.out; omega))
                  obtain ⟨A12, c12, hv12, hc12, -⟩ := own_split hown6
                  have HL6 : Hidden (LvSt w0 w wx w6 F h mb l s1 u9) := ⟨hF6, hN6, hK6⟩
                  have HV12 : Hidden (∀ q, u9.ownBlock = some q → v12.ownBlock ≠ some q) := ⟨fun q hq e => by have := HNL.out q hq; have := (HO5.out.lt q e).1; omega⟩
                  have HSE : Hidden (∀ y ∈ sortNat (refsL l (x : Int)), y < 41) := ⟨fun y hy => by have := hE_nat (refsL_mem (_y := 0) (sortNat_mem.1 hy)); omega⟩
                  have HSS : Hidden (stepX l s1 x = (sortNat (refsL l (x : Int))).foldl (stepY x) s1) := ⟨rfl⟩
                  have HIN : Hidden (∀ j, ∃ D', LOk l (((sortNat (refsL l (x : Int))).take j).foldl (stepY x) s1) D' W D) := ⟨fun j => in_ok HL1.out HXD.out j⟩
                  have hll : (sortNat (refsL l (x : Int))).length = (refsL l (x : Int)).length := sortNat_len _
                  rw [← hll] at hown6 hv12 HRL
                  rw [hv12] at hown6 HV12 ⊢
                  have HO6 := Hidden.mk hown6
                  generalize refsL l (x : Int) = RL at *
                  generalize hLL : sortNat RL = LL at *
                  clear hown6 hg6 hF6 hN6 hK6 HSO HF5 HN5 HK5 HO5 HSZ HNL hv12 hll hLL
                  go_wp2_with fail
                  go_loopg [9, 61] LL.length (fun q v i wq => ∃ j : Nat, j ≤ LL.length ∧ q = LL.length - j ∧ i = .int .i64 (j : Int) ∧ Hidden (LvSt w0 w wx wq F h mb l ((LL.take j).foldl (stepY x) s1) v ∧ wq.ownsRow ws.heap.size 3 1 (.slice A12 LL.length c12) LL.length (LL.flatMap ncell) ∧ ∀ q, v.ownBlock = some q → (Value.slice A12 LL.length c12).ownBlock ≠ some q))
                  case atStart => exact ⟨0, by omega, rfl, rfl, ⟨HL6.out, HO6.out, HV12.out⟩⟩
                  case round =>
                    obtain ⟨j, hj, rfl, rfl, hsq⟩ := hrel
                    generalize wr = wq at *
                    by_cases hjt : j < LL.length
                    · obtain ⟨pb2, ob2, hA12, hcx2⟩ := (own_rdX3 (f := ncell) (fun _ => rfl) rfl hsq.out.2.1) j hjt
                      have y0 : wq.cell? ⟨pb2, ob2 + j, none⟩ = some (.int .i64 (LL[j] : Int)) := by simpa using hcx2 0 _ rfl
                      obtain ⟨D2, hL2⟩ := HIN.out j
                      have HIS := Hidden.mk (in_succ x LL s1 j hjt)
                      obtain ⟨D3, hL3⟩ := HIN.out (j + 1)
                      rw [HIS.out] at hL3
                      have h41 := HSE.out LL[j] (List.getElem_mem hjt)
                      generalize LL[j] = y at *
                      generalize (LL.take j).foldl (stepY x) s1 = t at *
                      have j0 : (0 : Int) ≤ j := by omega
                      have j1 : (j : Int) < LL.length := by omega
                      have s4 : IntKind.i64.wrap ((j : Int) + 1) = (j : Int) + 1 := IntWalk.i64_in _ (by have := HRL.out; omega)
                      obtain ⟨lk0, lk1⟩ := hsq.out.1.fr.look (y := y) h41
                      have HQ := Hidden.mk hsq.out
                      subst hA12
                      clear hcx2 hsq
                      cases hty : t.1 y with
                      | some p =>
                        have lk := (lk1 p hty).1
                        have HTT : Hidden (stepY x t y = t) := ⟨by unfold stepY; rw [if_pos (by rw [hty]; rfl)]⟩
                        generalize (par p : Int) = pp at *
                        clear lk0 lk1 hty hL2 hL3
                        go_wp2_with fail
                        go_roundg (LL.length - (j + 1))
                        case measure => omega
                        case rel => exact ⟨j + 1, by omega, rfl, by go_num, ⟨by rw [HIS.out, HTT.out]; exact HQ.out⟩⟩
                      | none =>
                        have lk := lk0 hty
                        have hTT : stepY x t y = (wset t.1 y (wayOf t.1 x ++ [y]), t.2 ++ [y]) := by unfold stepY; rw [if_neg (by rw [hty]; simp)]
                        rw [hTT] at hL3
                        have hpar := hL2.par_new HXD.out y
                        have hnl := hL2.next_le
                        obtain ⟨w7, hrun, hF7, hk7, hs7⟩ := HQ.out.1.fr.store h41 hpar (fun z hz => hL3.ok.lt41 hz)
                        have HTT := Hidden.mk hTT
                        have HM := HQ.out.1.fr.isMap
                        have hN7 := own_map HQ.out.1.nx HM hk7
                        have hO7 := own_map HQ.out.2.1 HM hk7
                        have HK7 := Hidden.mk (HQ.out.1.kp.trans hk7 (fun _ hx => .inl hx))
                        have HF7 := Hidden.mk hF7
                        have HN7 := Hidden.mk hN7
                        have HO7 := Hidden.mk hO7
                        have HLQ : Hidden (∀ q, u9.ownBlock = some q → q < w7.heap.size) := ⟨fun q hq => (hN7.lt q hq).2⟩
                        have HXS : Hidden (wx.heap.size ≤ w7.heap.size) := ⟨HK7.out.size⟩
                        have HWS : Hidden (w.heap.size ≤ wx.heap.size) := ⟨HST.out.1.bel.size⟩
                        obtain ⟨hi0, hz0, hz1, hz2⟩ := HI.out
                        generalize wset t.1 y (wayOf t.1 x ++ [y]) = W2 at *
                        generalize t.2 = N at *
                        clear lk0 lk1 hty hL2 hL3 hpar hF7 hk7 hN7 hO7 hTT HM hs7
                        go_wp2_with (at_builtin; refine wpList_append_lies _ rfl (.tmp 76) (.tmp 78) _ rfl wx.heap.size 3 i0' _ 1 8 Tryz.underlying54 hi0 hz0 hz1 hz2 rfl (by decide) u9 N.length (N.flatMap ncell) rfl (own_below HN7.out ((Below.refl _ _).alloc (Nat.le_refl _) _)) ⟨(w7).heap.size, 0, none⟩ 1 1 [.int .i64 (y : Int)] rfl rfl (World.news_of_block (cs := #[.int .i64 (y : Int)]) (t := 3) (fr := (0, 0)) (heap_alloc_new (w7) _)) (by simp [Value.oneCell']) (by omega) (by simp only [maxLen]; omega) (by omega) (by have hz_ := HK7.out.size; rw [World.size_alloc]; omega) ((w7).heap.size + 1) (by simp) ?_; intro g8 cap8 w8 hown8 hg8 hat8 hlt8)
                        have hgW := grown_trans' ((Below.refl w7.heap.size w7).alloc (Nat.le_refl _) _) hg8
                        have hlo : ∀ q, u9.ownBlock = some q → wx.heap.size ≤ q := fun q hq => (HN7.out.lt q hq).1
                        have hF8 : FrSt w0 w w8 F h mb l W2 := HF7.out.grown hgW fun q hq => by
                          have h1 := hlo q hq
                          refine ⟨Nat.le_trans HWS.out h1, fun hf => ?_, own_ne HN7.out HF7.out.isMap q hq⟩
                          have := HFL.out q hf; have := HWS.out; omega
                        have hK8 : Keep (fun q => q = mb) wx w8 := HK7.out.trans (F' := fun q => u9.ownBlock = some q) ⟨hgW.os, hgW.tape, hgW.output, hgW.size, fun k hk hn => hgW.block k hk (fun e => hn e.symm)⟩ (fun q hq => .inr (hlo q hq))
                        have hO8 := own_other HO7.out hgW fun q hq e => HQ.out.2.2 q e hq
                        have HF : Hidden (LvSt w0 w wx w8 F h mb l (stepY x t y) (.slice (some ⟨g8, 0, none⟩) (N.length + 1) cap8) ∧ w8.ownsRow ws.heap.size 3 1 (.slice (some ⟨pb2, ob2, none⟩) LL.length c12) LL.length (LL.flatMap ncell) ∧ ∀ q, (Value.slice (some ⟨g8, 0, none⟩) (N.length + 1) cap8).ownBlock = some q → (Value.slice (some ⟨pb2, ob2, none⟩) LL.length c12).ownBlock ≠ some q) := ⟨by
                          rw [HTT.out]
                          exact ⟨hF8, by rw [List.length_append, List.flatMap_append]; simpa [ncell] using hown8, hK8⟩, hO8, fun q hq e => by
                          have hq' : g8 = q := by simpa [Value.ownBlock] using hq
                          subst hq'
                          rcases hat8 with h8 | h8
                          · exact HQ.out.2.2 _ h8 e
                          · have := (HO7.out.lt _ e).2; omega⟩
                        clear hgW hlo hF8 hK8 hO8 hown8 hg8 hat8 hlt8 hi0 hz0 hz1 hz2
                        go_roundg (LL.length - (j + 1))
                        case measure => omega
                        case rel => exact ⟨j + 1, by omega, rfl, by go_num, ⟨by rw [HIS.out]; exact HF.out⟩⟩
                    · obtain rfl : j = LL.length := by omega
                      have hT := hsq.out.1
                      rw [List.take_length, ← HSS.out, ← HMS.out] at hT
                      have HT := Hidden.mk hT
                      have d8 : decide ((LL.length : Int) < LL.length) = false := decide_eq_false (by omega)
                      clear hT hsq
                      go_wp2_with fail
                      go_roundg (L.length - (i + 1))
                      case measure => omega
                      case rel => exact ⟨i + 1, by omega, rfl, by go_num, HT⟩
                · obtain rfl : i = L.length := by omega
                  have hT := hst.out
                  rw [List.take_length, ← HLS.out] at hT
                  have HT : Hidden (FrSt w0 w ws F h mb l (lvlN l (k + 1)).1 ∧ ws.ownsRow w.heap.size 3 1 u9 (lvlN l (k + 1)).2.length ((lvlN l (k + 1)).2.flatMap ncell)) := ⟨hT.fr, own_base hT.nx HST.out.1.bel.size⟩
                  clear hT hst
                  go_wp2_with fail
                  go_roundg (41 - (k + 1))
                  case measure => omega
                  case rel => exact ⟨k + 1, by omega, rfl, HT⟩
end
end Go.Proofs.YtbnobjlphmkgeaaGreatDoor
/- Package store: Dirty. -/
namespace Go.Proofs.YtbnobjlphmkgeaaGreatDoor
open Go.RowKit Go.Maps Go.ChangeMaps

section
variable {w0 w w' : World} {F F' GH GH' G : Nat → Prop} {s p d h gk ck st n : Nat} {l l' K : Bytes}
set_option maxRecDepth 100000 in
theorem sdirty_any (a : StH w0 w F GH s p d h gk ck st n l K) (hl : l.length = 32 * n) (hK : K.length = 32 * n) (hn : n ≤ 200) :
    Calls Tryz.prog 162 #[.pointer (some ⟨s, 0, none⟩)] w fun e w' => ∃ v, e = .returned v ∧ w'.ownsRow w.heap.size 3 1 v (dL l K n).length ((dL l K n).flatMap ncell) ∧ Below w.heap.size w w' := by
  obtain ⟨i0', hi0, hz0, hz1, hz2⟩ := info_parts int_infoC
  have HI := Hidden.mk (And.intro hi0 (And.intro hz0 (And.intro hz1 hz2)))
  obtain ⟨⟨c0, c1, c2⟩, -⟩ := a.cells
  have HA := Hidden.mk a
  have HB := Hidden.mk (hbytes_ok w0 w GH h l a.hp)
  have HL := Hidden.mk (And.intro hl hK)
  have hkc := a.kep.le.1
  rw [hK] at c2 hkc
  rw [hl] at HB
  clear a hi0 hz0 hz1 hz2 hl hK
  go_enter Tryz.func162, Tryz.ntmps162
  go_wp2_with fail
  refine HB.out.mono ?_
  rintro e w1 ⟨gb, cb, rfl, hgb, hrb, hb1⟩
  have HA1 := Hidden.mk (HA.out.below hb1)
  have hbc := hrb.le.1
  rw [HL.out.1] at hbc
  have HRB := Hidden.mk (And.intro hgb (And.intro hrb hb1))
  obtain ⟨⟨x0, x1, x2⟩, -⟩ := HA1.out.cells
  rw [HL.out.2] at x2
  clear c0 c1 c2 HB hgb hrb hb1
  go_wp2_with fail
  refine (plen_any HA1.out.pg).mono ?_
  rintro e w1' ⟨rfl, rfl⟩
  go_wp2_with fail
  clear x0 x1 x2
  go_loopg [3, 16] n (fun q v i wr => ∃ k : Nat, k ≤ n ∧ q = n - k ∧ i = .int .i64 (k : Int) ∧ Hidden (Below w1.heap.size w1 wr ∧ wr.ownsRow w1.heap.size 3 1 v (dL l K k).length ((dL l K k).flatMap ncell)))
  case atStart => exact ⟨0, by omega, rfl, rfl, ⟨Below.refl _ _, World.ownsRow_nil _ _ _ _⟩⟩
  case round =>
    obtain ⟨k, hk, rfl, rfl, hst⟩ := hrel
    by_cases hlt : k < n
    · have i0 : (0 : Int) ≤ k := by omega
      have i1 : (k : Int) < n := by omega
      have s1 : IntKind.i64.wrap ((k : Int) * 32) = (k : Int) * 32 := IntWalk.i64_in _ (by omega)
      have s2 : IntKind.i64.wrap ((k : Int) + 1) = (k : Int) + 1 := IntWalk.i64_in _ (by omega)
      have s3 : IntKind.i64.wrap (((k : Int) + 1) * 32) = ((k : Int) + 1) * 32 := IntWalk.i64_in _ (by omega)
      have hcut1 := fun W => run_cut gb 0 (32 * n) cb (k * 32) ((k + 1) * 32) (by omega) (by omega) (by omega) W
      have hcut2 := fun W => run_cut gk 0 (32 * n) ck (k * 32) ((k + 1) * 32) (by omega) (by omega) (by omega) W
      rw [show (((k * 32 : Nat)) : Int) = (k : Int) * 32 by omega, show ((((k + 1) * 32 : Nat)) : Int) = ((k : Int) + 1) * 32 by omega, show (k + 1) * 32 - k * 32 = 32 by omega, Nat.zero_add] at hcut1 hcut2
      have HAr := Hidden.mk (HA1.out.below hst.out.1)
      obtain ⟨⟨x0, x1, x2⟩, -⟩ := HAr.out.cells
      rw [HL.out.2] at x2
      have hr1 := (HRB.out.2.1.below hst.out.1 HRB.out.2.1.lt).rd.cut (k * 32) 32 (by rw [HL.out.1]; omega)
      have hr2 := HAr.out.kep.rd.cut (k * 32) 32 (by rw [HL.out.2]; omega)
      rw [Option.map_some, Addr.add_lit, Nat.zero_add] at hr1 hr2
      have HE := Hidden.mk (fun W (hW : Below wr.heap.size wr W) => eqB_any (some ⟨gb, k * 32, none⟩) (some ⟨gk, k * 32, none⟩) 32 (cb - k * 32) (ck - k * 32) (pgB l k) (pgB K k) W (pgB_len HL.out.1 hlt) (pgB_len HL.out.2 hlt) (by omega) (hr1.below hW) (hr2.below hW))
      have HD := Hidden.mk (dL_succ l K k)
      have hdl := dL_le l K k
      have HN := Hidden.mk (And.intro hst.out.1 hst.out.2)
      have hdf : difB l K k = !(pgB l k == pgB K k) := rfl
      have HDF := Hidden.mk hdf
      generalize hDe : dL l K k = DE at *
      have HK : Hidden (∀ W, Below wr.heap.size wr W → W.cell? ⟨s, 2, none⟩ = some (.slice (some ⟨gk, 0, none⟩) (32 * n) ck)) := ⟨fun W hW => (hW.cell (p := ⟨s, 2, none⟩) HAr.out.lt.1).trans x2⟩
      clear hst hr1 hr2 hDe HAr hdf
      go_upto_region 6 with (fail)
      go_region_held3 (fun W => W.cell? ⟨s, 2, none⟩ = some (.slice (some ⟨gk, 0, none⟩) (32 * n) ck)) (first | exact x2 | exact HK.out _ hB3) ((go_at_call 209; refine (HE.out _ ((Below.refl _ wr).drew)).mono ?_; rintro e w3 ⟨rfl, hb3⟩; have hB3 : Below wr.heap.size wr w3 := ((Below.refl _ wr).drew).trans hb3))
      have HN3 : Hidden (Below w1.heap.size w1 w3 ∧ w3.ownsRow w1.heap.size 3 1 u3 DE.length (DE.flatMap ncell)) := ⟨HN.out.1.trans (hB3.mono HN.out.1.size), own_below HN.out.2 hB3⟩
      clear hb3 hB3 x0 x1 x2 HE HK
      cases hq : (pgB l k == pgB K k) with
      | true =>
        have HSS : Hidden (dL l K (k + 1) = DE) := ⟨by rw [HD.out, HDF.out, hq]; simp⟩
        clear HD HDF hq
        go_wp2_with fail
        go_roundg (n - (k + 1))
        case measure => omega
        case rel => exact ⟨k + 1, by omega, rfl, by go_num, ⟨by rw [HSS.out]; exact HN3.out⟩⟩
      | false =>
        have HSS : Hidden (dL l K (k + 1) = DE ++ [k]) := ⟨by rw [HD.out, HDF.out, hq]; simp⟩
        obtain ⟨hi0, hz0, hz1, hz2⟩ := HI.out
        clear HD HDF hq
        go_wp2_with (at_builtin; refine wpList_append_lies _ rfl (.tmp 38) (.tmp 40) _ rfl w1.heap.size 3 i0' _ 1 8 Tryz.underlying54 hi0 hz0 hz1 hz2 rfl (by decide) u3 DE.length (DE.flatMap ncell) rfl (own_below HN3.out.2 ((Below.refl _ _).alloc (Nat.le_refl _) _)) ⟨(w3).heap.size, 0, none⟩ 1 1 [.int .i64 (k : Int)] rfl rfl (World.news_of_block (cs := #[.int .i64 (k : Int)]) (t := 3) (fr := (0, 0)) (heap_alloc_new (w3) _)) (by simp [Value.oneCell']) (by omega) (by simp only [maxLen]; omega) (by omega) (by have hz_ := HN3.out.1.size; rw [World.size_alloc]; omega) ((w3).heap.size + 1) (by simp) ?_; intro g8 cap8 w8 hown8 hg8 hat8 hlt8)
        have hgW := grown_trans' ((Below.refl w3.heap.size w3).alloc (Nat.le_refl _) _) hg8
        have hB8 : Below w1.heap.size w1 w8 := HN3.out.1.grown hgW HN3.out.1.size (fun q hq => (HN3.out.2.lt q hq).1)
        have HF : Hidden (Below w1.heap.size w1 w8 ∧ w8.ownsRow w1.heap.size 3 1 (.slice (some ⟨g8, 0, none⟩) (DE.length + 1) cap8) (DE ++ [k]).length ((DE ++ [k]).flatMap ncell)) := ⟨hB8, by
          rw [List.length_append, List.flatMap_append]
          simpa [ncell] using hown8⟩
        clear hgW hB8 hown8 hg8 hat8 hlt8 hi0 hz0 hz1 hz2
        go_roundg (n - (k + 1))
        case measure => omega
        case rel => exact ⟨k + 1, by omega, rfl, by go_num, ⟨by rw [HSS.out]; exact HF.out⟩⟩
    · obtain rfl : n = k := by omega
      have HF : Hidden (wr.ownsRow w.heap.size 3 1 u3 (dL l K n).length ((dL l K n).flatMap ncell) ∧ Below w.heap.size w wr) := ⟨own_base hst.out.2 HRB.out.2.2.size, HRB.out.2.2.trans (hst.out.1.mono HRB.out.2.2.size)⟩
      clear hst
      go_wp2_with fail
      go_ret
      exact ⟨_, rfl, HF.out.1, HF.out.2⟩
end
end Go.Proofs.YtbnobjlphmkgeaaGreatDoor
/- Package store: Commit. -/
namespace Go.Proofs.YtbnobjlphmkgeaaGreatDoor
open Go.RowKit Go.Maps Go.ChangeMaps

section
variable {w0 w w' : World} {F F' GH GH' G : Nat → Prop} {s p d h gk ck st n : Nat} {D : Dv} {l l' K : Bytes}
/-- what a call leaves of a store and its device -/
structure StM (w0 w w' : World) (F F' GH GH' : Nat → Prop) (s p d h gk ck st n : Nat) (D : Dv) (l K : Bytes) : Prop where
  dev : DevB w0 w' F' d D
  st : StH w0 w' F' GH' s p d h gk ck st n l K
  kp : Keep (fun q => (F q ∨ GH q) ∨ (q = s ∨ q = p)) w w'
  sub : ∀ q, F' q → F q ∨ w.heap.size ≤ q
  nw : ∀ q, GH' q → GH q ∨ w.heap.size ≤ q
/-- what is said of a commit -/
def ScAns (w0 w : World) (F GH : Nat → Prop) (s p d h _gk _ck st n : Nat) (D : Dv) (l K : Bytes) (e : Ending) (w' : World) : Prop :=
  e = .returned (errV (cmS n st D l K).2) ∧ ∃ F' gk' ck',
    ((cmS n st D l K).2 ≠ 0 → StM w0 w w' F F' GH GH s p d h gk' ck' st n (cmS n st D l K).1 l K) ∧
    ((cmS n st D l K).2 = 0 → StM w0 w w' F F' GH GH s p d h gk' ck' (if (dL l K n).length ≠ 0 then st + 1 else st) n (cmS n st D l K).1 l l)
theorem StH.types (a : StH w0 w F GH s p d h gk ck st n l K) {g c : Nat} {x : Bytes} (hr : Row w 5 g c x) : g ≠ s ∧ g ≠ p := ⟨(ne_row a.blk hr (by decide)).symm, (ne_row a.pg.1 hr (by decide)).symm⟩
/-- its pages are committed -/
theorem StH.cm {st' : Nat} {D' : Dv} (a : StH w0 w F GH s p d h gk ck st n l K) (hm : CmM w0 w w' F F' p d st' n D') (hn : ∀ q, F q → w0.heap.size ≤ q) : StH w0 w' F' GH s p d h gk ck st' n l K := by
  obtain ⟨l1, l2, l3⟩ := a.lt
  have hno : ∀ q, q < w.heap.size → ¬ F q → ¬ F' q := fun q hq hf hf' => by rcases hm.sub q hf' with h' | h'; exact hf h'; omega
  refine ⟨(hm.kp.block s l1 (fun e => e.elim a.sf a.ne.1)).trans a.blk, hm.pg, a.hp.keep hm.kp (fun q hq e => e.elim (a.gf q hq) (fun e => a.pgg (e ▸ hq))) (fun q e => e.elim (hn q) (fun e => e ▸ a.p0)), hm.kp.row a.kep (fun e => e.elim a.kf (fun e => a.ne.2.2 e.symm)), hno s l1 a.sf, hno gk l3 a.kf, fun q hq => hno q (a.hp.flt q hq) (a.gf q hq), a.sg, a.pgg, a.kg, a.s0, a.p0, a.k0⟩
/-- what is kept is another row -/
theorem StH.setK (a : StH w0 w F GH s p d h gk ck st n l K) {g c : Nat} {x : Bytes} (hr : Row w 5 g c x) (hf : ¬ F g) (hg : ¬ GH g) (h0 : w0.heap.size ≤ g) : StH w0 (w.setCell ⟨s, 2, none⟩ (.slice (some ⟨g, 0, none⟩) x.length c)) F GH s p d h g c st n l x := by
  have hne := a.types hr
  have hk : Keep (fun q => q = s) w (w.setCell ⟨s, 2, none⟩ (.slice (some ⟨g, 0, none⟩) x.length c)) := Keep.setCell (F := fun q => q = s) (Keep.refl _ _) (p := ⟨s, 2, none⟩) (.inl rfl) _
  have hsg : ∀ q, GH q → ¬ q = s := fun q hq e => a.sg (e ▸ hq)
  have hblk := heap_setK (k := 2) a.blk (.slice (some ⟨g, 0, none⟩) x.length c)
  exact ⟨hblk, ⟨(hk.block p a.lt.2.1 (fun e => a.ne.1 e.symm)).trans a.pg.1, a.pg.2⟩, a.hp.keep hk hsg (fun q e => e ▸ a.s0), hk.row hr hne.1, a.sf, hf, a.gf, a.sg, a.pgg, hg, a.s0, a.p0, h0⟩
set_option maxRecDepth 100000 in
set_option maxHeartbeats 1000000 in
theorem scommit_any (a : StH w0 w F GH s p d h gk ck st n l K) (hd : DevB w0 w F d D) (hl : l.length = 32 * n) (hK : K.length = 32 * n) (hn : n ≤ 200) (hst : st ≤ 4294967295) :
    Calls Tryz.prog 96 #[.pointer (some ⟨s, 0, none⟩)] w (ScAns w0 w F GH s p d h gk ck st n D l K) := by
  obtain ⟨⟨c0, c1, c2⟩, -⟩ := a.cells
  have HA := Hidden.mk (And.intro a hd)
  have HB := Hidden.mk (hbytes_ok w0 w GH h l a.hp)
  have HL := Hidden.mk (And.intro hl hK)
  have HST := Hidden.mk hst
  rw [hl] at HB
  clear a hd hl hK hst c2
  go_enter Tryz.func96, Tryz.ntmps96
  go_upto_region 1 with (fail)
  go_wp2_with fail
  refine HB.out.mono ?_
  rintro e w1 ⟨gb, cb, rfl, hgb, hrb, hb1⟩
  have HA1 := Hidden.mk (And.intro (HA.out.1.below hb1) (HA.out.2.below hb1))
  have HRB := Hidden.mk (And.intro hgb (And.intro hrb hb1))
  obtain ⟨⟨x0, x1, -⟩, -⟩ := HA1.out.1.cells
  have HDR := Hidden.mk (sdirty_any (w := w1.drew) (HA1.out.1.below ((Below.refl _ w1).drew)) HL.out.1 HL.out.2 hn)
  have KC := Hidden.mk x0
  have KB : Hidden (∀ W, Below w1.heap.size w1 W → W.cell? ⟨s, 0, none⟩ = some (.pointer (some ⟨p, 0, none⟩))) := ⟨fun W hW => (hW.cell (p := ⟨s, 0, none⟩) HA1.out.1.lt.1).trans KC.out⟩
  have KE : Hidden (∀ W W' : World, Below w1.heap.size w1 W → Keep (fun q => F q ∨ q = p) W W' → W'.cell? ⟨s, 0, none⟩ = some (.pointer (some ⟨p, 0, none⟩))) := ⟨fun W W' hW hk => by
    have e := hk.block s (Nat.lt_of_lt_of_le HA1.out.1.lt.1 hW.size) (fun h => h.elim HA1.out.1.sf HA1.out.1.ne.1)
    exact (World.cell?_of_block (w := W) (a := ⟨s, 0, none⟩) e).trans (KB.out W hW)⟩
  clear c0 c1 HB hgb hrb hb1 x1
  go_upto_region 2 with (fail)
  go_region_held3 (fun W => W.cell? ⟨s, 0, none⟩ = some (.pointer (some ⟨p, 0, none⟩))) (first | exact KC.out | exact KE.out _ _ hB3 hm3.kp | exact KB.out _ hB3 | exact KB.out _ hB2)
    (first
      | (go_at_call 162; refine HDR.out.mono ?_; rintro e w2 ⟨u, rfl, hown, hb2⟩; obtain ⟨A1, c1, rfl, hAc1, -⟩ := own_split hown; have hx1 := own_rdX3 (f := ncell) (fun _ => rfl) rfl hown; have hB2 : Below w1.heap.size w1 w2 := ((Below.refl _ w1).drew).trans hb2)
      | (go_at_call 161; refine (cut_ok gb (32 * n) cb l A1 (dL l K n).length c1 (dL l K n) w2 HL.out.1 (by omega) (HRB.out.2.1.below hB2 HRB.out.2.1.lt) rfl (Nat.le_trans (dL_le _ _ _) hn) hx1 (fun i hi => by have := (dL_mem.1 hi).1; omega)).mono ?_; rintro e w3 ⟨u2, X, rfl, hX⟩; obtain ⟨A2, c2, rfl, hAc2, -⟩ := own_split hX.own; have hB3 : Below w1.heap.size w1 w3 := hB2.trans (hX.bel.mono hB2.size))
      | (go_at_call 42; refine (pcommit_any (HA1.out.2.below hB3) (HA1.out.1.below hB3).pg hn HST.out HA.out.1.p0 A2 (dL l K n).length c2 X hX.len hAc2 (hX.pgsR (fun q hq => Nat.lt_of_lt_of_le (HA1.out.2.flt q hq) hB2.size))).mono ?_; rintro e w4 ⟨rfl, F4, hm3⟩))
  all_goals
    rename_i hheld
    clear hheld
    rw [hX.eq] at hm3
    rw [hX.eq]
  rw [hX.len] at hm3
  have hst4 := (HA1.out.1.below hB3).cm hm3 HA1.out.2.new
  have hkp : Keep (fun q => (F q ∨ GH q) ∨ (q = s ∨ q = p)) w w4 := (Keep.of_below (F := fun q => (F q ∨ GH q) ∨ (q = s ∨ q = p)) (HRB.out.2.2.trans (hB3.mono HRB.out.2.2.size))).trans (hm3.kp.wide (G := fun q => (F q ∨ GH q) ∨ (q = s ∨ q = p)) (fun q hq => hq.elim (fun h => .inl (.inl h)) (fun h => .inr (.inr h)))) (fun q hq => .inl hq)
  have hsub : ∀ q, F4 q → F q ∨ w.heap.size ≤ q := fun q hq => by
    rcases hm3.sub q hq with h' | h'
    · exact .inl h'
    · have := HRB.out.2.2.size
      have := hB3.size
      exact .inr (by omega)
  have hng : ¬ F4 gb ∧ ¬ GH gb ∧ w0.heap.size ≤ gb := by
    have h1 := HRB.out.1
    have h2 := HRB.out.2.1.lt
    have h3 := hB3.size
    refine ⟨fun hf => ?_, fun hg => ?_, Nat.le_trans HA.out.2.bel.size h1⟩
    · rcases hm3.sub gb hf with h' | h'
      · have := HA.out.2.flt gb h'; omega
      · omega
    · have := HA.out.1.hp.flt gb hg; omega
  have hrb4 : Row w4 5 gb cb l := hm3.kp.row ((HRB.out.2.1.below hB3 HRB.out.2.1.lt)) (fun hf => by
    rcases hf with hf | hf
    · have := HA.out.2.flt gb hf
      have := HRB.out.1
      omega
    · have := HA.out.1.lt.2.1
      have := HRB.out.1
      omega)
  have HM := Hidden.mk (And.intro hm3.dev (And.intro hst4 (And.intro hkp (And.intro hsub (And.intro hng hrb4)))))
  obtain ⟨r, hr⟩ : ∃ r, commitP st n (cutL l (dL l K n)) D = r := ⟨_, rfl⟩
  have HQ := Hidden.mk (show cmS n st D l K = r from hr)
  rw [hr] at HM
  rw [hr]
  clear hkp hsub hng hrb4 hm3 hst4 hr hX hB2 hB3 hb2 hown hx1 hAc1 hAc2 KB KE KC HDR x0
  by_cases hr0 : r.2 = 0
  · have HR0 := Hidden.mk hr0
    rw [hr0, errV0]
    rw [hr0] at HM
    clear hr0
    have e1 : (if (0 : Nat) = 0 ∧ (dL l K n).length ≠ 0 then st + 1 else st) = (if (dL l K n).length ≠ 0 then st + 1 else st) := by
      by_cases h : (dL l K n).length ≠ 0
      · rw [if_pos ⟨rfl, h⟩, if_pos h]
      · rw [if_neg (fun x => h x.2), if_neg h]
    rw [e1] at HM
    clear e1
    have HF : Hidden (StM w0 w (w4.setCell ⟨s, 2, none⟩ (.slice (some ⟨gb, 0, none⟩) (32 * n) cb)) F F4 GH GH s p d h gb cb (if (dL l K n).length ≠ 0 then st + 1 else st) n r.1 l l) := ⟨by
      obtain ⟨a1, a2, a3, a4, ⟨b1, b2, b3⟩, b4⟩ := HM.out
      have hk : Keep (fun q => q = s) w4 (w4.setCell ⟨s, 2, none⟩ (.slice (some ⟨gb, 0, none⟩) (32 * n) cb)) := Keep.setCell (F := fun q => q = s) (Keep.refl _ _) (p := ⟨s, 2, none⟩) (.inl rfl) _
      have hs := a2.setK b4 b1 b2 b3
      rw [HL.out.1] at hs
      exact ⟨a1.keep hk (fun q hq e => a2.sf (e ▸ hq)) (fun q e => e ▸ a2.s0), hs, a3.trans (hk.wide (G := fun q => (F q ∨ GH q) ∨ (q = s ∨ q = p)) (fun q hq => .inr (.inl hq))) (fun q hq => .inl hq), a4, fun q hq => .inl hq⟩⟩
    obtain ⟨⟨y0, y1, y2⟩, yf⟩ := HM.out.2.1.cells
    have f2 := yf 2
    clear yf
    go_wp2_with fail
    go_ret
    refine ⟨by rw [HQ.out, HR0.out]; rfl, F4, gb, cb, fun h => absurd (by rw [HQ.out]; exact HR0.out) h, fun _ => ?_⟩
    rw [HQ.out]
    exact HF.out
  · have HR0 := Hidden.mk hr0
    rw [errV_pos hr0]
    clear hr0
    go_wp2_with fail
    go_ret
    refine ⟨by rw [HQ.out, errV_pos HR0.out]; rfl, F4, gk, ck, fun _ => ?_, fun h => absurd (by rw [HQ.out] at h; exact h) HR0.out⟩
    rw [HQ.out]
    obtain ⟨a1, a2, a3, a4, -⟩ := HM.out
    rw [if_neg (fun x => HR0.out x.1)] at a2
    exact ⟨a1, a2, a3, a4, fun q hq => .inl hq⟩
end
end Go.Proofs.YtbnobjlphmkgeaaGreatDoor
/- Package reach, plain: of all ways the least one. -/
namespace Go.Proofs.YtbnobjlphmkgeaaGreatDoor
open Go.RowKit

end Go.Proofs.YtbnobjlphmkgeaaGreatDoor
/- The reference on ways, plain: what is found by asking again and again is the least. -/
namespace Go.Proofs.YtbnobjlphmkgeaaGreatDoor
open Go.RowKit

abbrev WV := Nat → List Nat
end Go.Proofs.YtbnobjlphmkgeaaGreatDoor
/- Laid: maps.Keys at maps from numbers to numbers. -/
namespace Go.Proofs.YtbnobjlphmkgeaaGreatDoor
open Go.Shelf
end Go.Proofs.YtbnobjlphmkgeaaGreatDoor
/- slices.Sorted(maps.Keys(m)) of maps from numbers to numbers. -/
namespace Go.Proofs.YtbnobjlphmkgeaaGreatDoor
open Go.RowKit Go.Maps Go.ChangeMaps Go.Sort Go.Shelf

end Go.Proofs.YtbnobjlphmkgeaaGreatDoor
/- Package reach: Live, Dead, Sweep. -/
namespace Go.Proofs.YtbnobjlphmkgeaaGreatDoor
open Go.RowKit Go.Maps Go.ChangeMaps

section
variable {w0 w : World} {F : Nat → Prop} {h : Nat} {l : Bytes}
set_option maxRecDepth 100000 in
theorem dead_any (hp : Hp w0 w F h l) (hg : Good l) :
    Calls Tryz.prog 93 #[.pointer (some ⟨h, 0, none⟩)] w fun e w' => ∃ v, e = .returned v ∧ w'.ownsRow w.heap.size 3 1 v (deadL l).length ((deadL l).flatMap ncell) ∧ Below w.heap.size w w' := by
  obtain ⟨i0', hi0, hz0, hz1, hz2⟩ := info_parts int_infoC
  have HI := Hidden.mk (And.intro hi0 (And.intro hz0 (And.intro hz1 hz2)))
  have HC := Hidden.mk (from_any hp hg)
  have HEN : Hidden (∀ e ∈ entriesL l, ∃ k : Nat, k < 40 ∧ e = ((k : Int) + 1, rawE l k)) := ⟨fun e he => by
    obtain ⟨k, h1, -, h2⟩ := entL_mem.1 he
    exact ⟨k, h1, h2⟩⟩
  have hle : (entriesL l).length ≤ 40 := entsL_len _ _ 40
  have HD : Hidden (deadL l = deadE l (entriesL l)) := ⟨rfl⟩
  generalize deadL l = DL at *
  clear hp hg hi0 hz0 hz1 hz2
  go_enter Tryz.func93, Tryz.ntmps93
  go_wp2_with fail
  refine HC.out.mono ?_
  rintro e w1 ⟨mb, rfl, hf⟩
  have HF1 := Hidden.mk hf
  have HEC := Hidden.mk (hentries_any hf.hp)
  generalize entriesL l = E at *
  clear hf HC
  go_wp2_with fail
  refine HEC.out.mono ?_
  rintro e w2 ⟨v, rfl, hown, hb2⟩
  obtain ⟨A1, c1, rfl, hc1, -⟩ := own_split hown
  have HR := Hidden.mk (own_rdX3 (f := ecells) (fun _ => rfl) rfl hown)
  have HF2 := Hidden.mk (HF1.out.below hb2)
  generalize hm : E.length = m at *
  have HM := Hidden.mk hm
  clear hown hb2 HEC HF1 hm
  go_wp2_with fail
  go_loopg [2, 13] m (fun q v i wr => ∃ k : Nat, k ≤ m ∧ q = m - k ∧ i = .int .i64 (k : Int) ∧ Hidden (Below w2.heap.size w2 wr ∧ wr.ownsRow w2.heap.size 3 1 v (deadE l (E.take k)).length ((deadE l (E.take k)).flatMap ncell)))
  case atStart => exact ⟨0, by omega, rfl, rfl, ⟨Below.refl _ _, World.ownsRow_nil _ _ _ _⟩⟩
  case round =>
    obtain ⟨k, hk, rfl, rfl, hst⟩ := hrel
    by_cases hlt : k < m
    · have hkE : k < E.length := by rw [HM.out]; exact hlt
      obtain ⟨p, off, rfl, hcx⟩ := (HR.out.below hst.out.1) k hkE
      have x0 := hcx 0 _ rfl
      have x1 := hcx 1 _ rfl
      have x2 := hcx 2 _ rfl
      have x3 := hcx 3 _ rfl
      rw [Nat.add_zero] at x0
      have HS := Hidden.mk (deadE_succ l E k hkE)
      obtain ⟨j, hj, hej⟩ := HEN.out E[k] (List.getElem_mem hkE)
      have hdl : (deadE l (E.take k)).length ≤ 40 := Nat.le_trans (deadE_len _ _) (by rw [List.length_take]; omega)
      rw [hej] at x0 x1 x2 x3 HS
      dsimp only at x0 x1 x2 x3 HS
      rw [show ((j : Int) + 1).toNat = j + 1 by omega] at HS
      generalize rAt (rawE l j) = e1 at *
      generalize rLen (rawE l j) = e2 at *
      generalize rTag (rawE l j) = e3 at *
      have i0 : (0 : Int) ≤ k := by omega
      have i1 : (k : Int) < m := by omega
      have s3 : IntKind.i64.wrap ((k : Int) + 1) = (k : Int) + 1 := IntWalk.i64_in _ (by omega)
      have hal : Below wr.heap.size wr (wr.alloc (.cells #[.int .i64 ((j : Int) + 1), .int .i64 e1, .int .i64 e2, .int .i64 e3] 66)) := (Below.refl _ _).alloc (Nat.le_refl _) _
      have hFW := (HF2.out.below hst.out.1).below hal
      obtain ⟨lk0, lk1⟩ := hFW.look (y := j + 1) (by omega)
      rw [show ((j + 1 : Nat) : Int) = (j : Int) + 1 from by omega] at lk0 lk1
      have HN := Hidden.mk (And.intro (hst.out.1.trans (hal.mono hst.out.1.size)) (own_below hst.out.2 hal))
      generalize hDe : deadE l (E.take k) = DE at *
      clear hcx hst hej hFW hDe
      cases hw : fromW l (j + 1) with
      | some pp =>
        have lk := (lk1 pp hw).1
        rw [hw] at HS
        have HSS : Hidden (deadE l (E.take (k + 1)) = DE) := ⟨by rw [HS.out]; simp⟩
        generalize (par pp : Int) = pz at *
        clear lk0 lk1 hw HS hal
        go_wp2_with fail
        go_roundg (m - (k + 1))
        case measure => omega
        case rel => exact ⟨k + 1, by omega, rfl, by go_num, ⟨by rw [HSS.out]; exact HN.out⟩⟩
      | none =>
        have lk := lk0 hw
        rw [hw] at HS
        have HSS : Hidden (deadE l (E.take (k + 1)) = DE ++ [j + 1]) := ⟨by rw [HS.out]; simp⟩
        obtain ⟨hi0, hz0, hz1, hz2⟩ := HI.out
        clear lk0 lk1 hw HS hal
        go_wp2_with (at_builtin; refine wpList_append_lies _ rfl (.tmp 26) (.tmp 29) _ rfl w2.heap.size 3 i0' _ 1 8 Tryz.underlying54 hi0 hz0 hz1 hz2 rfl (by decide) u2 DE.length (DE.flatMap ncell) rfl (own_below HN.out.2 ((Below.refl _ _).alloc (Nat.le_refl _) _)) ⟨wr.heap.size + 1, 0, none⟩ 1 1 [.int .i64 ((j : Int) + 1)] rfl rfl (World.news_of_block (cs := #[.int .i64 ((j : Int) + 1)]) (t := 3) (fr := (0, 0)) (by have hq_ := heap_alloc_new ((wr.alloc (.cells #[.int .i64 ((j : Int) + 1), .int .i64 e1, .int .i64 e2, .int .i64 e3] 66))) (.cells #[.int .i64 ((j : Int) + 1)] 3); rwa [World.size_alloc] at hq_)) (by simp [Value.oneCell']) (by omega) (by simp only [maxLen]; omega) (by omega) (by have hz_ := HN.out.1.size; rw [World.size_alloc]; omega) (wr.heap.size + 1 + 1) (by simp) ?_; intro g8 cap8 w8 hown8 hg8 hat8 hlt8)
        have hgW := grown_trans' ((Below.refl (wr.alloc (.cells #[.int .i64 ((j : Int) + 1), .int .i64 e1, .int .i64 e2, .int .i64 e3] 66)).heap.size (wr.alloc (.cells #[.int .i64 ((j : Int) + 1), .int .i64 e1, .int .i64 e2, .int .i64 e3] 66))).alloc (Nat.le_refl _) _) hg8
        have hB8 : Below w2.heap.size w2 w8 := HN.out.1.grown hgW HN.out.1.size (fun q hq => (HN.out.2.lt q hq).1)
        have HF : Hidden (Below w2.heap.size w2 w8 ∧ w8.ownsRow w2.heap.size 3 1 (.slice (some ⟨g8, 0, none⟩) (DE.length + 1) cap8) (DE ++ [j + 1]).length ((DE ++ [j + 1]).flatMap ncell)) := ⟨hB8, by
          rw [List.length_append, List.flatMap_append]
          simpa [ncell] using hown8⟩
        clear hgW hB8 hown8 hg8 hat8 hlt8 hi0 hz0 hz1 hz2
        go_roundg (m - (k + 1))
        case measure => omega
        case rel => exact ⟨k + 1, by omega, rfl, by go_num, ⟨by rw [HSS.out]; exact HF.out⟩⟩
    · obtain rfl : m = k := by omega
      have hT := hst.out.2
      rw [List.take_of_length_le (by rw [HM.out]; exact Nat.le_refl _), ← HD.out] at hT
      have HF : Hidden (wr.ownsRow w.heap.size 3 1 u2 DL.length (DL.flatMap ncell) ∧ Below w.heap.size w wr) := ⟨own_base hT HF2.out.bel.size, HF2.out.bel.trans (hst.out.1.mono HF2.out.bel.size)⟩
      clear hT hst HD
      go_wp2_with fail
      go_ret
      exact ⟨_, rfl, HF.out.1, HF.out.2⟩
set_option maxRecDepth 100000 in
theorem sweep_any (hp : Hp w0 w F h l) (hg : Good l) :
    Calls Tryz.prog 25 #[.pointer (some ⟨h, 0, none⟩)] w fun e w' => e = .returned (.tuple #[.int .i64 ((deadL l).length : Int), .nilIface]) ∧ ∃ F', HpM w0 w w' F F' h (sweepL l) := by
  have HC := Hidden.mk (dead_any hp hg)
  have HP := Hidden.mk hp
  have HG := Hidden.mk hg
  have hle : (deadL l).length ≤ 40 := Nat.le_trans (deadE_len _ _) (entsL_len _ _ 40)
  have HSF : Hidden (∀ i (hi : i < (deadL l).length), freeE (sweepT l ((deadL l).take i)) ((deadL l)[i] : Int) = 0) := ⟨fun i hi => sweep_free HG.out hi⟩
  have HSS : Hidden (∀ i (hi : i < (deadL l).length), sweepT l ((deadL l).take (i + 1)) = freeL (sweepT l ((deadL l).take i)) ((deadL l)[i] : Int)) := ⟨fun i hi => sweepT_succ l _ i hi⟩
  have HSW : Hidden (sweepL l = sweepT l (deadL l)) := ⟨rfl⟩
  generalize deadL l = D at *
  clear hp hg
  go_enter Tryz.func25, Tryz.ntmps25
  go_wp2_with fail
  refine HC.out.mono ?_
  rintro e w1 ⟨v, rfl, hown, hb1⟩
  obtain ⟨A1, c1, rfl, hc1, -⟩ := own_split hown
  have HO := Hidden.mk hown
  have HP1 := Hidden.mk (HP.out.same hb1)
  have HNF : Hidden (∀ q, (Value.slice A1 D.length c1).ownBlock = some q → ¬ F q) := ⟨fun q hq hf => by
    have := (hown.lt q hq).1; have := HP.out.flt q hf; omega⟩
  clear hown hb1 HC HP
  go_wp2_with fail
  go_loopg [12] D.length (fun q i wr => ∃ (k : Nat) (F' : Nat → Prop), k ≤ D.length ∧ q = D.length - k ∧ i = .int .i64 (k : Int) ∧ Hidden (HpM w0 w1 wr F F' h (sweepT l (D.take k))))
  case atStart => exact ⟨0, F, by omega, rfl, rfl, ⟨HP1.out.hp.same (Below.refl _ _)⟩⟩
  case round =>
    obtain ⟨k, F', hk, rfl, rfl, hst⟩ := hrel
    by_cases hlt : k < D.length
    · have hkD : k < D.length := hlt
      have hown := ownsRow_block HO.out (w' := wr) fun q hq => hst.out.kp.block q (HO.out.lt q hq).2 (HNF.out q hq)
      obtain ⟨pb, ob, rfl, hcx⟩ := (own_rdX3 (f := ncell) (fun _ => rfl) rfl hown) k hkD
      have x0 : wr.cell? ⟨pb, ob + k, none⟩ = some (.int .i64 (D[k] : Int)) := by simpa using hcx 0 _ rfl
      have HFR := Hidden.mk (hfree_any (D[k] : Int) hst.out.hp)
      rw [HSF.out k hkD, ← HSS.out k hkD, show errV 0 = Value.nilIface from rfl] at HFR
      have HST := Hidden.mk hst.out
      generalize D[k] = q0 at *
      have i0 : (0 : Int) ≤ k := by omega
      have i1 : (k : Int) < D.length := by omega
      have s3 : IntKind.i64.wrap ((k : Int) + 1) = (k : Int) + 1 := IntWalk.i64_in _ (by omega)
      clear hcx hst hown
      go_wp2_with fail
      refine HFR.out.mono ?_
      rintro e w5 ⟨rfl, F5, hm5⟩
      have HM5 := Hidden.mk (HST.out.trans hm5)
      clear hm5 HFR
      go_wp2_with fail
      go_roundg (D.length - (k + 1))
      case measure => omega
      case rel => exact ⟨k + 1, F5, by omega, rfl, by go_num, HM5⟩
    · obtain rfl : k = D.length := by omega
      have hT := hst.out
      rw [List.take_length, ← HSW.out] at hT
      have HF := Hidden.mk (HP1.out.trans hT)
      clear hT hst
      go_wp2_with fail
      go_ret2
      exact ⟨rfl, _, HF.out⟩
end
end Go.Proofs.YtbnobjlphmkgeaaGreatDoor
/- The contract of play.Do. -/
namespace Go.Proofs.YtbnobjlphmkgeaaGreatDoor
open Go.RowKit Go.Maps Go.ChangeMaps

def opV (x : OpX) : Value := .agg #[.int .i64 x.what, .int .i64 x.handle, .int .i64 x.at_, .int .i64 x.len, sv x.name, .slice x.A x.body.length x.cap]
section
variable {w0 w w1 w' : World} {F F' GH GH' G : Nat → Prop} {s p d h gk ck st n : Nat} {D : Dv} {l l' K : Bytes}
theorem StM.heap (a : StH w0 w1 F GH s p d h gk ck st n l K) (hd : DevB w0 w1 F d D) (hb : Below w.heap.size w w1) (hm : HpM w0 w1 w' GH GH' h l') : StM w0 w w' F F GH GH' s p d h gk ck st n D l' K where
  dev := hd.keep hm.kp (fun q hq hg => a.gf q hg hq) a.hp.new
  st := a.heap hm hd.flt
  kp := (Keep.of_below (F := fun q => (F q ∨ GH q) ∨ (q = s ∨ q = p)) hb).trans (hm.kp.wide (G := fun q => (F q ∨ GH q) ∨ (q = s ∨ q = p)) (fun q hq => .inl (.inr hq))) (fun q hq => .inl hq)
  sub := fun q hq => .inl hq
  nw := fun q hq => by
    rcases hm.nw q hq with h' | h'
    · exact .inl h'
    · have := hb.size
      exact .inr (by omega)
theorem StM.from_ {D' : Dv} {gk' ck' st' : Nat} (hb : Below w.heap.size w w1) (hm : StM w0 w1 w' F F' GH GH' s p d h gk' ck' st' n D' l' K) : StM w0 w w' F F' GH GH' s p d h gk' ck' st' n D' l' K where
  dev := hm.dev
  st := hm.st
  kp := (Keep.of_below (F := fun q => (F q ∨ GH q) ∨ (q = s ∨ q = p)) hb).trans hm.kp (fun q hq => .inl hq)
  sub := fun q hq => by
    rcases hm.sub q hq with h' | h'
    · exact .inl h'
    · have := hb.size
      exact .inr (by omega)
  nw := fun q hq => by
    rcases hm.nw q hq with h' | h'
    · exact .inl h'
    · have := hb.size
      exact .inr (by omega)
/-- what is said of an op -/
def DoAns (w0 w : World) (F GH : Nat → Prop) (s p d h n : Nat) (r : Sto × Nat) (e : Ending) (w' : World) : Prop :=
  e = .returned (errV r.2) ∧ ∃ F' GH' gk' ck', StM w0 w w' F F' GH GH' s p d h gk' ck' r.1.st n r.1.D r.1.l r.1.K
theorem doAns_mk {r : Sto × Nat} {e : Ending} {gk' ck' st' k : Nat} {D' : Dv} {l' K' : Bytes} (hr : r = (⟨D', st', l', K'⟩, k)) (he : e = .returned (errV k)) (hm : StM w0 w w' F F' GH GH' s p d h gk' ck' st' n D' l' K') : DoAns w0 w F GH s p d h n r e w' := by
  subst hr
  exact ⟨he, F', GH', gk', ck', hm⟩
theorem doS_hop {n : Nat} {D : Dv} {st : Nat} {l K : Bytes} {o : OpX} (h6 : o.what ≠ 6) (h7 : o.what ≠ 7) : doS n ⟨D, st, l, K⟩ o = (⟨D, st, hopL l o, K⟩, hopE l o) := by
  unfold doS
  rw [if_neg h6, if_neg h7]
def Six6 (w : World) (a : Nat) (v0 v1 v2 v3 v4 v5 : Value) : Prop := w.cell? ⟨a, 0, none⟩ = some v0 ∧ w.cell? ⟨a, 1, none⟩ = some v1 ∧ w.cell? ⟨a, 2, none⟩ = some v2 ∧ w.cell? ⟨a, 3, none⟩ = some v3 ∧ w.cell? ⟨a, 4, none⟩ = some v4 ∧ w.cell? ⟨a, 5, none⟩ = some v5
theorem six6_cells (w : World) (v0 v1 v2 v3 v4 v5 : Value) (T : TypeId) : Six6 (w.alloc (.cells #[v0, v1, v2, v3, v4, v5] T)) w.heap.size v0 v1 v2 v3 v4 v5 := by
  unfold Six6
  simp only [World.cell?]
  rw [heap_alloc_new w _]
  exact ⟨rfl, rfl, rfl, rfl, rfl, rfl⟩
set_option maxRecDepth 100000 in
set_option maxHeartbeats 1000000 in
theorem sdo_any (o : OpX) (a : StH w0 w F GH s p d h gk ck st n l K) (hd : DevB w0 w F d D) (hgl : Good l) (hgk : Good K) (hl : l.length = 32 * n) (hK : K.length = 32 * n) (hn : n ≤ 200) (hst : st ≤ 4294967295) (ho : OpOk w o) :
    Calls Tryz.prog 36 #[.pointer (some ⟨s, 0, none⟩), opV o] w (DoAns w0 w F GH s p d h n (doS n ⟨D, st, l, K⟩ o)) := by
  obtain ⟨what, handle, at_, len, name, OA, oc, body⟩ := o
  have hal := (Below.refl w.heap.size w).alloc (Nat.le_refl _) (.cells #[.int .i64 what, .int .i64 handle, .int .i64 at_, .int .i64 len, sv name, .slice OA body.length oc] 35)
  have h6 := six6_cells w (.int .i64 what) (.int .i64 handle) (.int .i64 at_) (.int .i64 len) (sv name) (.slice OA body.length oc) 35
  have HAL := Hidden.mk hal
  have HA := Hidden.mk (And.intro (a.below hal) (And.intro (hd.below hal) (ho.below hal)))
  have HL := Hidden.mk (And.intro hgl (And.intro hgk (And.intro hl (And.intro hK hst))))
  have HO : Hidden (∀ x : OpX, x = ⟨what, handle, at_, len, name, OA, oc, body⟩ → x.what = what ∧ x.handle = handle ∧ x.at_ = at_ ∧ x.len = len ∧ x.name = name ∧ x.body = body) := ⟨fun x e => by subst e; exact ⟨rfl, rfl, rfl, rfl, rfl, rfl⟩⟩
  have HE : Hidden (hopE l ⟨what, handle, at_, len, name, OA, oc, body⟩ = if what = 1 then allocE l len at_ else if what = 2 then freeE l handle else if what = 3 then someE l handle at_ body.length else if what = 4 then setE l name handle else if what = 5 then unE l name else if what = 8 ∨ what = 9 then 0 else 1) := ⟨rfl⟩
  have HH : Hidden (hopL l ⟨what, handle, at_, len, name, OA, oc, body⟩ = if what = 1 then allocL l len at_ else if what = 2 then freeL l handle else if what = 3 then writeL l handle at_ body else if what = 4 then setL l name handle else if what = 5 then unL l name else if what = 8 then stepL l else if what = 9 then sweepL l else l) := ⟨rfl⟩
  have HDO : Hidden (what ≠ 6 → what ≠ 7 → doS n ⟨D, st, l, K⟩ ⟨what, handle, at_, len, name, OA, oc, body⟩ = (⟨D, st, hopL l ⟨what, handle, at_, len, name, OA, oc, body⟩, K⟩, hopE l ⟨what, handle, at_, len, name, OA, oc, body⟩)) := ⟨fun x y => doS_hop x y⟩
  have HD6 : Hidden (what = 6 → doS n ⟨D, st, l, K⟩ ⟨what, handle, at_, len, name, OA, oc, body⟩ = if (cmS n st D l K).2 = 0 then (⟨(cmS n st D l K).1, if (dL l K n).length ≠ 0 then st + 1 else st, l, l⟩, 0) else (⟨(cmS n st D l K).1, st, l, K⟩, (cmS n st D l K).2)) := ⟨fun e => by unfold doS; rw [if_pos e]⟩
  have HD7 : Hidden (what = 7 → doS n ⟨D, st, l, K⟩ ⟨what, handle, at_, len, name, OA, oc, body⟩ = (⟨D, st, K, K⟩, 0)) := ⟨fun e => by unfold doS; rw [if_neg (by show ¬ what = 6; omega), if_pos e]⟩
  generalize doS n ⟨D, st, l, K⟩ ⟨what, handle, at_, len, name, OA, oc, body⟩ = r at *
  generalize hopE l ⟨what, handle, at_, len, name, OA, oc, body⟩ = he at *
  generalize hopL l ⟨what, handle, at_, len, name, OA, oc, body⟩ = hh at *
  obtain ⟨c0, c1, c2, c3, c4, c5⟩ := h6
  have HOK := Hidden.mk ho
  unfold opV
  dsimp only
  clear a hd hgl hgk hl hK hst ho hal
  go_enter Tryz.func36, Tryz.ntmps36
  go_upto_region 1 with (fail)
  generalize w.alloc (.cells #[.int .i64 what, .int .i64 handle, .int .i64 at_, .int .i64 len, sv name, .slice OA body.length oc] 35) = W1 at *
  generalize w.heap.size = bx at c0 c1 c2 c3 c4 c5 ⊢
  go_wp2_with fail
  refine (stheap_any HA.out.1).mono ?_
  rintro e W2 ⟨rfl, rfl⟩
  by_cases h1 : what = 1
  · have hee : he = allocE l len at_ := HE.out.trans (by rw [if_pos h1])
    have hhe : hh = allocL l len at_ := HH.out.trans (by rw [if_pos h1])
    have HR : Hidden (r = (⟨D, st, allocL l len at_, K⟩, allocE l len at_)) := ⟨by rw [HDO.out (by omega) (by omega), hee, hhe]⟩
    clear hee hhe
    subst h1
    have HC := Hidden.mk (halloc_any len at_ HA.out.1.hp)
    clear HDO HE HH HD6 HD7 HO
    go_wp2_with fail
    refine HC.out.mono ?_
    rintro e w3 ⟨rfl, GH3, hm⟩
    have HM := Hidden.mk (StM.heap HA.out.1 HA.out.2.1 HAL.out hm)
    clear hm HC
    go_wp2_with fail
    go_ret
    exact doAns_mk HR.out rfl HM.out
  by_cases h2 : what = 2
  · have hee : he = freeE l handle := HE.out.trans (by rw [if_neg (by omega), if_pos h2])
    have hhe : hh = freeL l handle := HH.out.trans (by rw [if_neg (by omega), if_pos h2])
    have HR : Hidden (r = (⟨D, st, freeL l handle, K⟩, freeE l handle)) := ⟨by rw [HDO.out (by omega) (by omega), hee, hhe]⟩
    clear hee hhe
    subst h2
    have HC := Hidden.mk (hfree_any handle HA.out.1.hp)
    clear HDO HE HH HD6 HD7 HO
    go_wp2_with fail
    refine HC.out.mono ?_
    rintro e w3 ⟨rfl, GH3, hm⟩
    have HM := Hidden.mk (StM.heap HA.out.1 HA.out.2.1 HAL.out hm)
    clear hm HC
    go_wp2_with fail
    go_ret
    exact doAns_mk HR.out rfl HM.out
  by_cases h3 : what = 3
  · have hee : he = someE l handle at_ body.length := HE.out.trans (by rw [if_neg (by omega), if_neg (by omega), if_pos h3])
    have hhe : hh = writeL l handle at_ body := HH.out.trans (by rw [if_neg (by omega), if_neg (by omega), if_pos h3])
    have HR : Hidden (r = (⟨D, st, writeL l handle at_ body, K⟩, someE l handle at_ body.length)) := ⟨by rw [HDO.out (by omega) (by omega), hee, hhe]⟩
    clear hee hhe
    subst h3
    have HC := Hidden.mk (hwrite_any handle at_ OA body.length oc body HA.out.1.hp HL.out.1 rfl (Nat.le_trans HOK.out.cap HOK.out.le) HA.out.2.2.rd)
    clear HDO HE HH HD6 HD7 HO
    go_wp2_with fail
    refine HC.out.mono ?_
    rintro e w3 ⟨rfl, hm⟩
    have HM := Hidden.mk (StM.heap HA.out.1 HA.out.2.1 HAL.out hm)
    clear hm HC
    go_wp2_with fail
    go_ret
    exact doAns_mk HR.out rfl HM.out
  by_cases h4 : what = 4
  · have hee : he = setE l name handle := HE.out.trans (by rw [if_neg (by omega), if_neg (by omega), if_neg (by omega), if_pos h4])
    have hhe : hh = setL l name handle := HH.out.trans (by rw [if_neg (by omega), if_neg (by omega), if_neg (by omega), if_pos h4])
    have HR : Hidden (r = (⟨D, st, setL l name handle, K⟩, setE l name handle)) := ⟨by rw [HDO.out (by omega) (by omega), hee, hhe]⟩
    clear hee hhe
    subst h4
    have HC := Hidden.mk (rset_any name handle HA.out.1.hp HL.out.1 HOK.out.name)
    clear HDO HE HH HD6 HD7 HO
    go_wp2_with fail
    refine HC.out.mono ?_
    rintro e w3 ⟨rfl, GH3, hm⟩
    have HM := Hidden.mk (StM.heap HA.out.1 HA.out.2.1 HAL.out hm)
    clear hm HC
    go_wp2_with fail
    go_ret
    exact doAns_mk HR.out rfl HM.out
  by_cases h5 : what = 5
  · have hee : he = unE l name := HE.out.trans (by rw [if_neg (by omega), if_neg (by omega), if_neg (by omega), if_neg (by omega), if_pos h5])
    have hhe : hh = unL l name := HH.out.trans (by rw [if_neg (by omega), if_neg (by omega), if_neg (by omega), if_neg (by omega), if_pos h5])
    have HR : Hidden (r = (⟨D, st, unL l name, K⟩, unE l name)) := ⟨by rw [HDO.out (by omega) (by omega), hee, hhe]⟩
    clear hee hhe
    subst h5
    have HC := Hidden.mk (runset_any name HA.out.1.hp HL.out.1 HOK.out.name)
    clear HDO HE HH HD6 HD7 HO
    go_wp2_with fail
    refine HC.out.mono ?_
    rintro e w3 ⟨rfl, GH3, hm⟩
    have HM := Hidden.mk (StM.heap HA.out.1 HA.out.2.1 HAL.out hm)
    clear hm HC
    go_wp2_with fail
    go_ret
    exact doAns_mk HR.out rfl HM.out
  by_cases h8 : what = 8
  · have hee : he = 0 := HE.out.trans (by rw [if_neg (by omega), if_neg (by omega), if_neg (by omega), if_neg (by omega), if_neg (by omega), if_pos (by omega)])
    have hhe : hh = stepL l := HH.out.trans (by rw [if_neg (by omega), if_neg (by omega), if_neg (by omega), if_neg (by omega), if_neg (by omega), if_pos h8])
    have HR : Hidden (r = (⟨D, st, stepL l, K⟩, 0)) := ⟨by rw [HDO.out (by omega) (by omega), hee, hhe]⟩
    clear hee hhe
    subst h8
    have HC := Hidden.mk (mstep_any HA.out.1.hp HL.out.1)
    clear HDO HE HH HD6 HD7 HO
    go_wp2_with fail
    refine HC.out.mono ?_
    rintro e w3 ⟨rfl, GH3, hm⟩
    have HM := Hidden.mk (StM.heap HA.out.1 HA.out.2.1 HAL.out hm)
    clear hm HC
    go_wp2_with fail
    go_ret
    exact doAns_mk HR.out rfl HM.out
  by_cases h9 : what = 9
  · have hee : he = 0 := HE.out.trans (by rw [if_neg (by omega), if_neg (by omega), if_neg (by omega), if_neg (by omega), if_neg (by omega), if_pos (by omega)])
    have hhe : hh = sweepL l := HH.out.trans (by rw [if_neg (by omega), if_neg (by omega), if_neg (by omega), if_neg (by omega), if_neg (by omega), if_neg (by omega), if_pos h9])
    have HR : Hidden (r = (⟨D, st, sweepL l, K⟩, 0)) := ⟨by rw [HDO.out (by omega) (by omega), hee, hhe]⟩
    clear hee hhe
    subst h9
    have HC := Hidden.mk (sweep_any HA.out.1.hp HL.out.1)
    clear HDO HE HH HD6 HD7 HO
    go_wp2_with fail
    refine HC.out.mono ?_
    rintro e w3 ⟨rfl, GH3, hm⟩
    have HM := Hidden.mk (StM.heap HA.out.1 HA.out.2.1 HAL.out hm)
    clear hm HC
    go_wp2_with fail
    go_ret
    exact doAns_mk HR.out rfl HM.out
  by_cases h6 : what = 6
  · have HR := Hidden.mk (HD6.out h6)
    subst h6
    have HC := Hidden.mk (scommit_any HA.out.1 HA.out.2.1 HL.out.2.2.1 HL.out.2.2.2.1 hn HL.out.2.2.2.2)
    obtain ⟨R, hRR⟩ : ∃ R, cmS n st D l K = R := ⟨_, rfl⟩
    unfold ScAns at HC
    rw [hRR] at HR HC
    clear HDO HE HH HD6 HD7 HO hRR
    go_wp2_with fail
    refine HC.out.mono ?_
    rintro e w3 ⟨rfl, F3, gk3, ck3, hm1, hm0⟩
    have HM := Hidden.mk (And.intro hm1 hm0)
    clear hm1 hm0 HC
    go_wp2_with fail
    go_ret
    by_cases hz : R.2 = 0
    · exact doAns_mk (HR.out.trans (if_pos hz)) (by rw [hz]; rfl) ((HM.out.2 hz).from_ HAL.out)
    · exact doAns_mk (HR.out.trans (if_neg hz)) rfl ((HM.out.1 hz).from_ HAL.out)
  by_cases h7 : what = 7
  · have HR := Hidden.mk (HD7.out h7)
    subst h7
    have HC := Hidden.mk (sabort_any HA.out.1 HL.out.2.1.len HA.out.2.1.flt)
    clear HDO HE HH HD6 HD7 HO
    go_wp2_with fail
    refine HC.out.mono ?_
    rintro e w3 ⟨rfl, GH3, hm, -⟩
    have HM := Hidden.mk (StM.heap HA.out.1 HA.out.2.1 HAL.out hm)
    clear hm HC
    go_wp2_with fail
    go_ret
    exact doAns_mk HR.out rfl HM.out
  have hee : he = 1 := HE.out.trans (by rw [if_neg h1, if_neg h2, if_neg h3, if_neg h4, if_neg h5, if_neg (by omega)])
  have hhe : hh = l := HH.out.trans (by rw [if_neg h1, if_neg h2, if_neg h3, if_neg h4, if_neg h5, if_neg h8, if_neg h9])
  have HR : Hidden (r = (⟨D, st, l, K⟩, 1)) := ⟨by rw [HDO.out h6 h7, hee, hhe]⟩
  clear hee hhe
  have HM := Hidden.mk (StM.heap HA.out.1 HA.out.2.1 HAL.out (HA.out.1.hp.same (Below.refl _ _)))
  have q1 : (what == 1) = false := by simpa using h1
  have q2 : (what == 2) = false := by simpa using h2
  have q3 : (what == 3) = false := by simpa using h3
  have q4 : (what == 4) = false := by simpa using h4
  have q5 : (what == 5) = false := by simpa using h5
  have q6 : (what == 6) = false := by simpa using h6
  have q7 : (what == 7) = false := by simpa using h7
  have q8 : (what == 8) = false := by simpa using h8
  have q9 : (what == 9) = false := by simpa using h9
  clear h1 h2 h3 h4 h5 h6 h7 h8 h9 HDO HE HH HD6 HD7 HO
  go_wp2_with fail
  go_ret
  exact doAns_mk HR.out rfl HM.out
end
end Go.Proofs.YtbnobjlphmkgeaaGreatDoor
