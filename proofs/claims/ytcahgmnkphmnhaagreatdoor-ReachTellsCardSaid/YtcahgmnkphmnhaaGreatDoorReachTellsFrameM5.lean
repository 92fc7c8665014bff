/- Contracts and plain laws, put together: SweepP, RefWP, RefRe1, RefWy1, LayK, LayR, SortI, SortJ, MapI, Dev0, Dev1, Dev2, Keys1, DiffA, DiffA1, Dev3, Diff3, Reach2, Reach3, LayN, Keys3, Reach4, Reach5. -/
import Derived.Test.YtcahgmnkphmnhaaGreatDoorReachTellsFrameM4
import Derived.Test.YtcahgmnkphmnhaaGreatDoorReachTellsFrameM2
import Derived.Deep.LoopGhost
import Derived.Deep.RegionHeld3
import Derived.Shelf.SlGeneric
import Derived.Shelf.SlIterI.Nil
import Derived.Shelf.SortM.Plain
import Derived.Shelf.SortM.SortNone
import Derived.Ground.GgzProg
import Derived.Ground.SlgmProg
import Derived.Test.YtcahgmnkphmnhaaGreatDoorReachTellsFrameM1
import Derived.Shelf.Slices.CompactI
import Derived.Shelf.Slices.Reverse
import Derived.Test.YtcahgmnkphmnhaaGreatDoorReachTellsFrameM3
import Derived.Maps.Own
import Derived.Maps.OwnSet
import Derived.Maps.RangeWalk
/- Package reach, plain: the dead, and the image without them. -/
namespace Go.Proofs.YtcahgmnkphmnhaaGreatDoor
open Go.RowKit

/-- the dead among some entries -/
def deadE (l : Bytes) (E : List Ent) : List Nat := (E.filter fun e => (fromW l e.1.toNat).isNone).map fun e => e.1.toNat
def deadL (l : Bytes) : List Nat := deadE l (entriesL l)
theorem filter_take_succ {A B : Type} (p : A → Bool) (f : A → B) (E : List A) (k : Nat) (hk : k < E.length) : ((E.take (k + 1)).filter p).map f = ((E.take k).filter p).map f ++ (if p E[k] = true then [f E[k]] else []) := by
  rw [List.take_succ_eq_append_getElem hk, List.filter_append, List.map_append]
  congr 1
  cases h : p E[k] <;> simp [h]
theorem deadE_succ (l : Bytes) (E : List Ent) (k : Nat) (hk : k < E.length) : deadE l (E.take (k + 1)) = deadE l (E.take k) ++ (if (fromW l E[k].1.toNat).isNone then [E[k].1.toNat] else []) := by
  exact filter_take_succ (fun e : Ent => (fromW l e.1.toNat).isNone) (fun e => e.1.toNat) E k hk
theorem deadE_len (l : Bytes) (E : List Ent) : (deadE l E).length ≤ E.length := by
  unfold deadE; rw [List.length_map]; exact List.length_filter_le ..
theorem deadL_mem {l : Bytes} {x : Nat} : x ∈ deadL l ↔ ∃ k, k < 40 ∧ hasE (rawE l k) = true ∧ fromW l (k + 1) = none ∧ x = k + 1 := by
  unfold deadL deadE
  simp only [List.mem_map, List.mem_filter, entL_mem]
  constructor
  · rintro ⟨e, ⟨⟨k, h1, h2, rfl⟩, h3⟩, rfl⟩
    have e1 : ((k : Int) + 1).toNat = k + 1 := by omega
    rw [e1] at h3 ⊢
    exact ⟨k, h1, h2, by simpa using h3, rfl⟩
  · rintro ⟨k, h1, h2, h3, rfl⟩
    refine ⟨((k : Int) + 1, rawE l k), ⟨⟨k, h1, h2, rfl⟩, ?_⟩, ?_⟩
    · have e1 : ((k : Int) + 1).toNat = k + 1 := by omega
      dsimp only
      rw [e1, h3]; rfl
    · dsimp only; omega
theorem deadL_nodup (l : Bytes) : (deadL l).Nodup := by
  unfold deadL deadE
  refine List.pairwise_map.2 ?_
  refine List.Pairwise.imp_of_mem ?_ ((entL_nodup l).filter _)
  intro a b ha hb hab e
  obtain ⟨k, h1, h2, rfl⟩ := entL_mem.1 (List.mem_filter.1 ha).1
  obtain ⟨m, h3, h4, rfl⟩ := entL_mem.1 (List.mem_filter.1 hb).1
  dsimp only at e hab
  omega
def sweepT (l : Bytes) (D : List Nat) : Bytes := D.foldl (fun l (x : Nat) => freeL l (x : Int)) l
def sweepL (l : Bytes) : Bytes := sweepT l (deadL l)
theorem sweepT_succ (l : Bytes) (D : List Nat) (k : Nat) (hk : k < D.length) : sweepT l (D.take (k + 1)) = freeL (sweepT l (D.take k)) (D[k] : Int) := by
  unfold sweepT; rw [List.take_succ_eq_append_getElem hk, List.foldl_append]; rfl
/-- an image without some of its objects -/
structure SwpR (l l' : Bytes) (gone : List Nat) : Prop where
  good : Good l'
  len : l'.length = l.length
  ents : ∀ j, j < 40 → rawE l' j = if j + 1 ∈ gone then List.replicate 5 0 else rawE l j
  rots : ∀ i, i < 8 → rawR l' i = rawR l i
  rest : ∀ b m, 288 ≤ b → (l'.drop b).take m = (l.drop b).take m
theorem SwpR.refl {l : Bytes} (hg : Good l) : SwpR l l [] := ⟨hg, rfl, fun j _ => by simp, fun _ _ => rfl, fun _ _ _ => rfl⟩
theorem SwpR.roots {l l' : Bytes} {gone : List Nat} (h : SwpR l l' gone) : rootsL l' = rootsL l := by
  unfold rootsL; exact rootsF_congr _ _ 8 fun j hj => h.rots j hj
theorem has_zero5 : hasE (List.replicate 5 0) = false := rfl
theorem SwpR.has {l l' : Bytes} {gone : List Nat} (h : SwpR l l' gone) {j : Nat} (hj : j < 40) : hasE (rawE l' j) = true ↔ hasE (rawE l j) = true ∧ j + 1 ∉ gone := by
  rw [h.ents j hj]
  split
  · rename_i hm; rw [has_zero5]; simp [hm]
  · rename_i hm; simp [hm]
theorem SwpR.obj {l l' : Bytes} {gone : List Nat} (h : SwpR l l' gone) (hg : Good l) {j : Nat} (hj : j < 40) (hm : j + 1 ∉ gone) : objT l' j = objT l j ∧ objS l' j = objS l j := by
  have he : rawE l' j = rawE l j := by rw [h.ents j hj, if_neg hm]
  refine obj_congr he fun hh => ?_
  have hs := strayE_false (hg.s.fit j hj hh)
  exact h.rest _ _ (by omega)
theorem SwpR.free {l l' : Bytes} {gone : List Nat} (h : SwpR l l' gone) {x : Nat} (h0 : freeE l' (x : Int) = 0) : SwpR l (freeL l' (x : Int)) (gone ++ [x]) := by
  obtain ⟨k, hx, hf⟩ := free_is h.good h0
  obtain rfl : x = k + 1 := by omega
  refine ⟨hf.good h.good, hf.len.trans h.len, fun j hj => ?_, fun i hi => (hf.rots i hi).trans (h.rots i hi), fun b m hb => (hf.rest b m hb).trans (h.rest b m hb)⟩
  rw [hf.ents j hj, h.ents j hj]
  by_cases e : j = k
  · subst e; simp
  · rw [if_neg e]
    have : (j + 1 ∈ gone ++ [k + 1]) ↔ j + 1 ∈ gone := by simp; omega
    simp only [this]
theorem free_zero {l : Bytes} {k : Nat} (hk : k < 40) (hh : hasE (rawE l k) = true) (hr : k + 1 ∉ rootsH l) : freeE l ((k : Int) + 1) = 0 := by
  unfold freeE
  rw [if_neg (by rw [(hE_has hk hh).1]; simp), if_neg]
  intro ha
  obtain ⟨r, hr1, hr2⟩ := List.any_eq_true.1 ha
  have e : (r.2 : Int) = (k : Int) + 1 := by simpa using hr2
  refine hr ?_
  unfold rootsH
  exact List.mem_map.2 ⟨r, hr1, by omega⟩
theorem root_way {l : Bytes} (hg : Good l) {r : Nat} (h : r ∈ rootsH l) : fromW l r = some [r] := by
  obtain ⟨D, hD, -⟩ := fromW_ok hg
  exact hD.roots r h
theorem sweep_at {l : Bytes} (hg : Good l) : ∀ i, i ≤ (deadL l).length → SwpR l (sweepT l ((deadL l).take i)) ((deadL l).take i)
  | 0, _ => by simpa [sweepT] using SwpR.refl hg
  | i + 1, hi => by
    have ih := sweep_at hg i (by omega)
    have hlt : i < (deadL l).length := by omega
    rw [sweepT_succ l _ i hlt, List.take_succ_eq_append_getElem hlt]
    refine ih.free ?_
    obtain ⟨k, h1, h2, h3, h4⟩ := deadL_mem.1 (List.getElem_mem hlt)
    rw [h4]
    show freeE _ ((k + 1 : Nat) : Int) = 0
    rw [show ((k + 1 : Nat) : Int) = (k : Int) + 1 by omega]
    refine free_zero h1 ?_ ?_
    · rw [ih.has h1]
      refine ⟨h2, fun hm => ?_⟩
      rw [← h4] at hm
      have hnd := deadL_nodup l
      rw [← List.take_append_drop i (deadL l)] at hnd
      have := (List.nodup_append.1 hnd).2.2 _ hm (deadL l)[i] (by rw [List.drop_eq_getElem_cons hlt]; exact List.mem_cons_self ..)
      exact this rfl
    · intro hr
      unfold rootsH at hr
      rw [ih.roots] at hr
      have := root_way hg hr
      rw [h3] at this; cases this
theorem sweep_free {l : Bytes} (hg : Good l) {i : Nat} (hi : i < (deadL l).length) : freeE (sweepT l ((deadL l).take i)) ((deadL l)[i] : Int) = 0 := by
  have ih := sweep_at hg i (by omega)
  obtain ⟨k, h1, h2, h3, h4⟩ := deadL_mem.1 (List.getElem_mem hi)
  rw [h4, show ((k + 1 : Nat) : Int) = (k : Int) + 1 by omega]
  refine free_zero h1 ?_ ?_
  · rw [ih.has h1]
    refine ⟨h2, fun hm => ?_⟩
    rw [← h4] at hm
    have hnd := deadL_nodup l
    rw [← List.take_append_drop i (deadL l)] at hnd
    have := (List.nodup_append.1 hnd).2.2 _ hm (deadL l)[i] (by rw [List.drop_eq_getElem_cons hi]; exact List.mem_cons_self ..)
    exact this rfl
  · intro hr
    unfold rootsH at hr
    rw [ih.roots] at hr
    have := root_way hg hr
    rw [h3] at this; cases this
theorem sweep_is {l : Bytes} (hg : Good l) : SwpR l (sweepL l) (deadL l) := by
  have := sweep_at hg _ (Nat.le_refl _)
  rw [List.take_length] at this
  exact this
/-- behind it nobody is dead -/
theorem refsB_congr {l l' : Bytes} (b : Bytes) (h : ∀ c ∈ b, (hE l' (c.toNat : Int) = 0 ↔ hE l (c.toNat : Int) = 0)) : refsB l' b = refsB l b := by
  unfold refsB
  have key : ∀ (b : Bytes) (o : List Nat), (∀ c ∈ b, (hE l' (c.toNat : Int) = 0 ↔ hE l (c.toNat : Int) = 0)) → b.foldl (refB l') o = b.foldl (refB l) o := by
    intro b
    induction b with
    | nil => intro o _; rfl
    | cons c r ih =>
      intro o hb
      rw [List.foldl_cons, List.foldl_cons]
      have e : refB l' o c = refB l o c := by unfold refB; simp only [hb c (List.mem_cons_self ..)]
      rw [e]
      exact ih _ fun d hd => hb d (List.mem_cons_of_mem _ hd)
  exact key b [] h
theorem foldl_refB_sub (l : Bytes) : ∀ (b : Bytes) (o : List Nat) (x : Nat), (x ∈ o ∨ (∃ c ∈ b, x = c.toNat ∧ hE l (c.toNat : Int) = 0)) → x ∈ b.foldl (refB l) o
  | [], o, x, h => by
    rcases h with h | ⟨c, hc, -⟩
    · exact h
    · cases hc
  | d :: r, o, x, h => by
    rw [List.foldl_cons]
    refine foldl_refB_sub l r _ x ?_
    rcases h with h | ⟨c, hc, rfl, h0⟩
    · left; unfold refB; split
      · exact List.mem_append_left _ h
      · exact h
    · rcases List.mem_cons.1 hc with rfl | hc
      · left; unfold refB; split
        · simp
        · rename_i hn
          by_cases hm : c.toNat ∈ o
          · exact hm
          · exact absurd ⟨h0, hm⟩ hn
      · exact .inr ⟨c, hc, rfl, h0⟩
theorem refsB_all {l b : Bytes} {c : UInt8} (hc : c ∈ b) (h0 : hE l (c.toNat : Int) = 0) : c.toNat ∈ refsB l b := foldl_refB_sub l b [] _ (.inr ⟨c, hc, rfl, h0⟩)
theorem SwpR.hE {l l' : Bytes} {gone : List Nat} (h : SwpR l l' gone) {x : Int} (hx : ∀ g ∈ gone, (g : Int) ≠ x) : hE l' x = hE l x ∧ gT l' x = gT l x ∧ gA l' x = gA l x ∧ gL l' x = gL l x := by
  have hx2 : Go.Proofs.YtcahgmnkphmnhaaGreatDoor.hE l' x = Go.Proofs.YtcahgmnkphmnhaaGreatDoor.hE l x ∧ (Go.Proofs.YtcahgmnkphmnhaaGreatDoor.hE l x = 0 → hR l' x = hR l x) := by
    unfold Go.Proofs.YtcahgmnkphmnhaaGreatDoor.hE hR
    by_cases hb : handleB x = false
    · rw [if_pos hb, if_pos hb]; exact ⟨rfl, fun e => by omega⟩
    · rw [if_neg hb, if_neg hb]
      have hb' := handleB_true.1 (by simpa using hb)
      have he : rawE l' (x - 1).toNat = rawE l (x - 1).toNat := by
        rw [h.ents _ (by omega), if_neg]
        intro hm
        exact hx _ hm (by omega)
      rw [he]; exact ⟨rfl, fun _ => rfl⟩
  obtain ⟨e1, e2⟩ := hx2
  unfold gT gA gL
  rw [e1]
  by_cases h0 : Go.Proofs.YtcahgmnkphmnhaaGreatDoor.hE l x = 0
  · rw [e2 h0]; exact ⟨rfl, rfl, rfl, rfl⟩
  · simp [h0]
theorem SwpR.hE_gone {l l' : Bytes} {gone : List Nat} (h : SwpR l l' gone) {x : Nat} (hx : x ∈ gone) : Go.Proofs.YtcahgmnkphmnhaaGreatDoor.hE l' (x : Int) ≠ 0 := by
  intro h0
  obtain ⟨k, hk, e, hh, -⟩ := hE_zero h0
  obtain rfl : x = k + 1 := by omega
  rw [h.ents k hk, if_pos hx, has_zero5] at hh
  cases hh
theorem live_way {l : Bytes} (hg : Good l) {x : Nat} (h : (fromW l x).isSome = true) : x ∉ deadL l ∧ ∀ y ∈ refsL l (x : Int), (fromW l y).isSome = true := by
  obtain ⟨D, hD, hc⟩ := fromW_ok hg
  refine ⟨fun hd => ?_, fun y hy => (hD.dk y).2 (hc x ((hD.dk x).1 h) y hy)⟩
  obtain ⟨k, -, -, h3, rfl⟩ := deadL_mem.1 hd
  rw [h3] at h; cases h
theorem sweep_refs {l : Bytes} (hg : Good l) {x : Nat} (h : (fromW l x).isSome = true) : refsL (sweepL l) (x : Int) = refsL l (x : Int) := by
  have hs := sweep_is hg
  obtain ⟨h1, h2⟩ := live_way hg h
  obtain ⟨e1, e2, e3, e4⟩ := hs.hE (x := (x : Int)) (fun g hm e => h1 (by rw [← show g = x by omega]; exact hm))
  have hro : readL (sweepL l) (x : Int) 0 (min (gL (sweepL l) (x : Int)) (gT (sweepL l) (x : Int))) = readL l (x : Int) 0 (min (gL l (x : Int)) (gT l (x : Int))) := by
    have hse : someE (sweepL l) (x : Int) 0 (min (gL l (x : Int)) (gT l (x : Int))) = someE l (x : Int) 0 (min (gL l (x : Int)) (gT l (x : Int))) := by
      unfold someE; rw [e1, e4]
    unfold readL
    rw [e2, e3, e4, hse]
    by_cases hz : someE l (x : Int) 0 (min (gL l (x : Int)) (gT l (x : Int))) = 0
    · rw [if_pos hz, if_pos hz]
      have := some_in hg hz
      exact hs.rest _ _ (by omega)
    · rw [if_neg hz, if_neg hz]
  unfold refsL
  rw [hro]
  refine refsB_congr _ fun c hc => ?_
  by_cases h0 : hE l (c.toNat : Int) = 0
  · have hm : c.toNat ∈ refsL l (x : Int) := refsB_all hc h0
    have hw := h2 _ hm
    have hnd := (live_way hg hw).1
    rw [(hs.hE (x := (c.toNat : Int)) (fun g hm' e => hnd (by rw [← show g = c.toNat by omega]; exact hm'))).1]
  · refine ⟨fun h' => ?_, fun h' => absurd h' h0⟩
    by_cases hd : c.toNat ∈ deadL l
    · exact absurd h' (hs.hE_gone hd)
    · rw [(hs.hE (x := (c.toNat : Int)) (fun g hm' e => hd (by rw [← show g = c.toNat by omega]; exact hm'))).1] at h'
      exact absurd h' h0
theorem foldl_congr_mem {A B : Type} {f g : B → A → B} : ∀ (L : List A) (b : B), (∀ x ∈ L, ∀ b, f b x = g b x) → L.foldl f b = L.foldl g b
  | [], _, _ => rfl
  | x :: L, b, h => by
    rw [List.foldl_cons, List.foldl_cons, h x (List.mem_cons_self ..)]
    exact foldl_congr_mem L _ fun y hy => h y (List.mem_cons_of_mem _ hy)
/-- the ways only grow -/
theorem lvl_some {l : Bytes} (hg : Good l) (k : Nat) {x : Nat} (h : ((lvlN l k).1 x).isSome = true) (hk : k ≤ 41) : (fromW l x).isSome = true := by
  have key : ∀ m, ((lvlN l (k + m)).1 x).isSome = true := by
    intro m
    induction m with
    | zero => exact h
    | succ m ih =>
      obtain ⟨D, hD, -⟩ := LvOk.at_ hg (k + m)
      obtain ⟨D', hD', -, hs⟩ := hD.next
      exact (hD'.ok.dk x).2 (hs x ((hD.ok.dk x).1 ih))
  have := key (41 - k)
  rwa [show k + (41 - k) = 41 by omega] at this
theorem sweep_lvl {l : Bytes} (hg : Good l) : ∀ k, k ≤ 41 → lvlN (sweepL l) k = lvlN l k
  | 0, _ => by
    have hr : rootsH (sweepL l) = rootsH l := by unfold rootsH; rw [(sweep_is hg).roots]
    unfold lvlN startW; rw [hr]
  | k + 1, hk => by
    show lvl (sweepL l) (lvlN (sweepL l) k) = lvl l (lvlN l k)
    rw [sweep_lvl hg k (by omega)]
    unfold lvl
    refine foldl_congr_mem _ _ fun x hx b => ?_
    obtain ⟨D, hD, -⟩ := LvOk.at_ hg k
    have hw := lvl_some hg k ((hD.ok.dk x).2 (hD.row x hx)) (by omega)
    unfold stepX
    rw [sweep_refs hg hw]
theorem sweep_from {l : Bytes} (hg : Good l) : fromW (sweepL l) = fromW l := by
  unfold fromW; rw [sweep_lvl hg 41 (Nat.le_refl _)]
theorem sweep_dead {l : Bytes} (hg : Good l) : deadL (sweepL l) = [] := by
  refine List.eq_nil_iff_forall_not_mem.2 fun x hx => ?_
  obtain ⟨k, h1, h2, h3, rfl⟩ := deadL_mem.1 hx
  have hs := sweep_is hg
  rw [sweep_from hg] at h3
  have := (hs.has h1).1 h2
  exact this.2 (deadL_mem.2 ⟨k, h1, this.1, h3, rfl⟩)
end Go.Proofs.YtcahgmnkphmnhaaGreatDoor
/- The reference on ways, plain: what is found by asking again and again is the least. -/
namespace Go.Proofs.YtcahgmnkphmnhaaGreatDoor
open Go.RowKit

abbrev WV := Nat → List Nat
def vset (V : WV) (y : Nat) (p : List Nat) : WV := fun q => if q = y then p else V q
def stepV (h : Nat) (s : WV × Bool) (y : Nat) : WV × Bool := if s.1 y = [] ∨ lessW (s.1 h ++ [y]) (s.1 y) = true then (vset s.1 y (s.1 h ++ [y]), true) else s
def stepH (l : Bytes) (s : WV × Bool) (h : Nat) : WV × Bool := if s.1 h = [] then s else (refsL l (h : Int)).foldl (stepV h) s
def passV (l : Bytes) (V : WV) : WV × Bool := ((List.range 40).map (· + 1)).foldl (stepH l) (V, false)
def startV (l : Bytes) : WV := fun q => if q ∈ rootsH l then [q] else []
/-- a way as a number -/
def code : List Nat → Nat
  | [] => 0
  | x :: a => x * 41 ^ a.length + code a
theorem code_lt : ∀ {a : List Nat}, (∀ x ∈ a, x ≤ 40) → code a < 41 ^ a.length
  | [], _ => by simp [code]
  | x :: a, h => by
    have h1 := code_lt (a := a) fun y hy => h y (List.mem_cons_of_mem _ hy)
    have h2 := h x (List.mem_cons_self ..)
    unfold code
    rw [List.length_cons, Nat.pow_succ]
    generalize 41 ^ a.length = P at *
    have : x * P ≤ 40 * P := Nat.mul_le_mul_right P h2
    omega
theorem code_ge {x : Nat} {a : List Nat} (h : 1 ≤ x) : 41 ^ a.length ≤ code (x :: a) := by
  unfold code
  generalize 41 ^ a.length = P at *
  have : 1 * P ≤ x * P := Nat.mul_le_mul_right P h
  omega
theorem code_lex : ∀ {a b : List Nat}, a.length = b.length → (∀ x ∈ a, x ≤ 40) → lexLt a b = true → code a < code b
  | [], [], _, _, h => by simp [lexLt] at h
  | [], _ :: _, h, _, _ => by simp at h
  | _ :: _, [], h, _, _ => by simp at h
  | x :: a, y :: b, h, ha, hl => by
    have h' : a.length = b.length := by simpa using h
    unfold lexLt at hl
    by_cases e : x = y
    · subst e
      rw [if_pos rfl] at hl
      have := code_lex h' (fun z hz => ha z (List.mem_cons_of_mem _ hz)) hl
      unfold code; rw [h']; omega
    · rw [if_neg e] at hl
      have hxy := of_decide_eq_true hl
      have h1 := code_lt (a := a) fun z hz => ha z (List.mem_cons_of_mem _ hz)
      unfold code
      rw [h'] at h1 ⊢
      generalize 41 ^ b.length = P at *
      have : (x + 1) * P ≤ y * P := Nat.mul_le_mul_right P hxy
      rw [Nat.succ_mul] at this
      omega
theorem code_less {a b : List Nat} (ha : ∀ x ∈ a, x ≤ 40) (hb : ∀ x ∈ b, 1 ≤ x) (h : lessW a b = true) : code a < code b := by
  unfold lessW at h
  by_cases e : a.length = b.length
  · rw [if_pos e] at h; exact code_lex e ha h
  · rw [if_neg e] at h
    have hl := of_decide_eq_true h
    cases b with
    | nil => simp at hl
    | cons y b =>
      have h1 := code_lt ha
      have h2 := code_ge (a := b) (hb y (List.mem_cons_self ..))
      have h3 : 41 ^ a.length ≤ 41 ^ b.length := Nat.pow_le_pow_right (by omega) (by simp at hl; omega)
      omega
def phi (p : List Nat) : Nat := if p = [] then 41 ^ 42 else code p
def sumV (V : WV) : Nat → Nat
  | 0 => 0
  | k + 1 => sumV V k + phi (V k)
theorem sumV_upd (V : WV) (y : Nat) (p : List Nat) : ∀ n, sumV (vset V y p) n + (if y < n then phi (V y) else 0) = sumV V n + (if y < n then phi p else 0)
  | 0 => by simp [sumV]
  | n + 1 => by
    have ih := sumV_upd V y p n
    unfold sumV
    by_cases h : y = n
    · subst h
      rw [if_neg (by omega), if_neg (by omega)] at ih
      rw [if_pos (by omega), if_pos (by omega)]
      have : vset V y p y = p := by unfold vset; rw [if_pos rfl]
      rw [this]; omega
    · have : vset V y p n = V n := by unfold vset; rw [if_neg (by omega)]
      rw [this]
      by_cases h2 : y < n
      · rw [if_pos h2, if_pos h2] at ih; rw [if_pos (by omega), if_pos (by omega)]; omega
      · rw [if_neg h2, if_neg h2] at ih; rw [if_neg (by omega), if_neg (by omega)]; omega
def cntV (V : WV) : Nat → Nat
  | 0 => 0
  | k + 1 => cntV V k + (if V k = [] then 0 else 1)
theorem cntV_le (V : WV) : ∀ n, cntV V n ≤ n
  | 0 => Nat.le_refl _
  | n + 1 => by unfold cntV; have := cntV_le V n; split <;> omega
theorem cntV_upd (V : WV) (y : Nat) (p : List Nat) (hp : p ≠ []) : ∀ n, cntV (vset V y p) n = cntV V n + (if y < n ∧ V y = [] then 1 else 0)
  | 0 => by simp [cntV]
  | n + 1 => by
    have ih := cntV_upd V y p hp n
    unfold cntV
    rw [ih]
    by_cases h : y = n
    · subst h
      have : vset V y p y = p := by unfold vset; rw [if_pos rfl]
      rw [this, if_neg hp]
      by_cases hv : V y = [] <;> simp [hv]
    · have : vset V y p n = V n := by unfold vset; rw [if_neg (by omega)]
      rw [this]
      have e : (y < n + 1 ∧ V y = []) ↔ (y < n ∧ V y = []) := ⟨fun h3 => ⟨by omega, h3.2⟩, fun h3 => ⟨by omega, h3.2⟩⟩
      simp only [e]; omega
theorem IsWay.digits {l : Bytes} (hg : Good l) {p : List Nat} {y : Nat} (h : IsWay l p y) : ∀ x ∈ p, 1 ≤ x ∧ x ≤ 40 := by
  induction h with
  | root hr => intro x hx; simp only [List.mem_singleton] at hx; subst hx; exact hE_nat (rootsH_mem hg hr)
  | step _ hy ih =>
    intro x hx
    rcases List.mem_append.1 hx with hx | hx
    · exact ih x hx
    · simp only [List.mem_singleton] at hx; subst hx; exact hE_nat (refsL_mem (y := 0) hy)
structure VOk (l : Bytes) (V : WV) : Prop where
  way : ∀ y, V y ≠ [] → IsWay l (V y) y
  root : ∀ r ∈ rootsH l, V r = [r]
  bd : ∀ y, (V y).length ≤ cntV V 41
theorem VOk.start {l : Bytes} (hg : Good l) : VOk l (startV l) where
  way y h := by
    unfold startV at h ⊢
    split
    · rename_i hr; exact .root hr
    · rename_i hr; rw [if_neg hr] at h; exact absurd rfl h
  root r hr := by unfold startV; rw [if_pos hr]
  bd y := by
    by_cases hr : y ∈ rootsH l
    · have hy := hE_nat (rootsH_mem hg hr)
      have hv : startV l y = [y] := by unfold startV; rw [if_pos hr]
      rw [hv]
      have h0 : vset (startV l) y [y] = startV l := funext fun q => by
        unfold vset; split
        · rename_i e; rw [e, hv]
        · rfl
      have key : ∀ n, y < n → 1 ≤ cntV (startV l) n := by
        intro n hn
        induction n with
        | zero => omega
        | succ n ih =>
          unfold cntV
          by_cases e : y = n
          · subst e; rw [hv]; simp
          · have := ih (by omega); omega
      have := key 41 (by omega)
      simpa using this
    · have hv : startV l y = [] := by unfold startV; rw [if_neg hr]
      rw [hv]; simp
theorem VOk.step {l : Bytes} (hg : Good l) {s : WV × Bool} (h : VOk l s.1) {x y : Nat} (hx : s.1 x ≠ []) (hy : y ∈ refsL l (x : Int)) :
    VOk l (stepV x s y).1 ∧ ((stepV x s y = s ∧ s.1 y ≠ [] ∧ lessW (s.1 x ++ [y]) (s.1 y) = false) ∨ ((stepV x s y).2 = true ∧ sumV (stepV x s y).1 41 < sumV s.1 41)) ∧ (stepV x s y).1 x = s.1 x := by
  have hw := h.way x hx
  have hnw : IsWay l (s.1 x ++ [y]) y := .step hw hy
  have hd := hnw.digits hg
  have hyd := hd y (by simp)
  unfold stepV
  by_cases hc : s.1 y = [] ∨ lessW (s.1 x ++ [y]) (s.1 y) = true
  · rw [if_pos hc]
    have hxy : x ≠ y := fun e => by
      subst e
      rcases hc with hc | hc
      · exact hx hc
      · have := leW_len (leW_of_less hc); simp at this; omega
    have hxk : vset s.1 y (s.1 x ++ [y]) x = s.1 x := by unfold vset; rw [if_neg hxy]
    have hne : s.1 x ++ [y] ≠ [] := by simp
    have hcn := cntV_upd s.1 y (s.1 x ++ [y]) hne 41
    have hsm := sumV_upd s.1 y (s.1 x ++ [y]) 41
    rw [if_pos (by omega), if_pos (by omega)] at hsm
    refine ⟨⟨fun z hz => ?_, fun r hr => ?_, fun z => ?_⟩, .inr ⟨rfl, ?_⟩, hxk⟩
    · show IsWay l (vset s.1 y (s.1 x ++ [y]) z) z
      by_cases e : z = y
      · subst e; unfold vset; rw [if_pos rfl]; exact hnw
      · have e1 : vset s.1 y (s.1 x ++ [y]) z = s.1 z := by unfold vset; rw [if_neg e]
        rw [e1]
        exact h.way z (by rw [← e1]; exact hz)
    · have hr' := h.root r hr
      show vset s.1 y (s.1 x ++ [y]) r = [r]
      by_cases e : r = y
      · exfalso
        subst e
        rw [hr'] at hc
        rcases hc with hc | hc
        · cases hc
        · have h1 := leW_len (leW_of_less hc)
          have h2 := hw.pos
          rw [List.length_append] at h1
          simp only [List.length_cons, List.length_nil] at h1
          omega
      · unfold vset; rw [if_neg e]; exact hr'
    · show (vset s.1 y (s.1 x ++ [y]) z).length ≤ cntV (vset s.1 y (s.1 x ++ [y])) 41
      rw [hcn]
      by_cases e : z = y
      · subst e
        have e1 : vset s.1 z (s.1 x ++ [z]) z = s.1 x ++ [z] := by unfold vset; rw [if_pos rfl]
        rw [e1]
        by_cases hv : s.1 z = []
        · rw [if_pos ⟨by omega, hv⟩]
          have := h.bd x
          simp; omega
        · rcases hc with hc | hc
          · exact absurd hc hv
          · have := leW_len (leW_of_less hc)
            have := h.bd z
            omega
      · have e1 : vset s.1 y (s.1 x ++ [y]) z = s.1 z := by unfold vset; rw [if_neg e]
        rw [e1]
        have := h.bd z
        omega
    · show sumV (vset s.1 y (s.1 x ++ [y])) 41 < sumV s.1 41
      have hph : phi (s.1 x ++ [y]) < phi (s.1 y) := by
        unfold phi
        rw [if_neg hne]
        by_cases hv : s.1 y = []
        · rw [if_pos hv]
          have h1 := code_lt (a := s.1 x ++ [y]) fun z hz => (hd z hz).2
          have h2 : 41 ^ (s.1 x ++ [y]).length ≤ 41 ^ 42 := Nat.pow_le_pow_right (by omega) (by
            have := h.bd x; have := cntV_le s.1 41; simp; omega)
          exact Nat.lt_of_lt_of_le h1 h2
        · rw [if_neg hv]
          rcases hc with hc | hc
          · exact absurd hc hv
          · exact code_less (fun z hz => (hd z hz).2) (fun z hz => ((h.way y hv).digits hg z hz).1) hc
      omega
  · rw [if_neg hc]
    have h1 : s.1 y ≠ [] := fun e => hc (.inl e)
    have h2 : lessW (s.1 x ++ [y]) (s.1 y) = false := by
      cases e : lessW (s.1 x ++ [y]) (s.1 y) with
      | false => rfl
      | true => exact absurd (.inr e) hc
    exact ⟨h, .inl ⟨rfl, h1, h2⟩, rfl⟩
/-- a pass: either nothing has changed and all is closed, or it has, and less is left -/
structure PassR (l : Bytes) (V : WV) (s : WV × Bool) (Q : Prop) : Prop where
  ok : VOk l s.1
  or_ : (s = (V, false) ∧ Q) ∨ (s.2 = true ∧ sumV s.1 41 < sumV V 41)
theorem pass_foldV {l : Bytes} (hg : Good l) {V : WV} {x : Nat} : ∀ (L : List Nat) (s : WV × Bool) (Q : Prop), PassR l V s Q → s.1 x ≠ [] → (∀ y ∈ L, y ∈ refsL l (x : Int)) →
    PassR l V (L.foldl (stepV x) s) (Q ∧ ∀ y ∈ L, V y ≠ [] ∧ lessW (V x ++ [y]) (V y) = false)
  | [], s, Q, h, _, _ => ⟨h.ok, h.or_.imp (fun h => ⟨h.1, h.2, fun y hy => by cases hy⟩) id⟩
  | y :: L, s, Q, h, hx, hL => by
    obtain ⟨h1, h2, h3⟩ := h.ok.step hg hx (hL y (List.mem_cons_self ..))
    have h4 : PassR l V (stepV x s y) (Q ∧ V y ≠ [] ∧ lessW (V x ++ [y]) (V y) = false) := by
      refine ⟨h1, ?_⟩
      rcases h.or_ with ⟨e, hq⟩ | ⟨e, hq⟩
      · rcases h2 with ⟨h2, h5, h6⟩ | ⟨h2, h5⟩
        · left; rw [h2]; subst e; exact ⟨rfl, hq, h5, h6⟩
        · right; subst e; exact ⟨h2, h5⟩
      · rcases h2 with ⟨h2, -, -⟩ | ⟨h2, h5⟩
        · right; rw [h2]; exact ⟨e, hq⟩
        · right; exact ⟨h2, by omega⟩
    have := pass_foldV hg L (stepV x s y) _ h4 (by rw [h3]; exact hx) (fun z hz => hL z (List.mem_cons_of_mem _ hz))
    refine ⟨this.ok, this.or_.imp (fun h => ⟨h.1, h.2.1.1, fun z hz => ?_⟩) id⟩
    rcases List.mem_cons.1 hz with rfl | hz
    · exact h.2.1.2
    · exact h.2.2 z hz
theorem pass_foldH {l : Bytes} (hg : Good l) {V : WV} : ∀ (H : List Nat) (s : WV × Bool) (Q : Prop), PassR l V s Q →
    PassR l V (H.foldl (stepH l) s) (Q ∧ ∀ x ∈ H, V x ≠ [] → ∀ y ∈ refsL l (x : Int), V y ≠ [] ∧ lessW (V x ++ [y]) (V y) = false)
  | [], s, Q, h => ⟨h.ok, h.or_.imp (fun h => ⟨h.1, h.2, fun y hy => by cases hy⟩) id⟩
  | x :: H, s, Q, h => by
    have h4 : PassR l V (stepH l s x) (Q ∧ (V x ≠ [] → ∀ y ∈ refsL l (x : Int), V y ≠ [] ∧ lessW (V x ++ [y]) (V y) = false)) := by
      unfold stepH
      by_cases hx : s.1 x = []
      · rw [if_pos hx]
        refine ⟨h.ok, h.or_.imp (fun h => ⟨h.1, h.2, fun hv => ?_⟩) id⟩
        rw [h.1] at hx; exact absurd hx hv
      · rw [if_neg hx]
        have := pass_foldV hg (refsL l (x : Int)) s Q h hx (fun _ hy => hy)
        exact ⟨this.ok, this.or_.imp (fun h => ⟨h.1, h.2.1, fun _ => h.2.2⟩) id⟩
    have := pass_foldH hg H (stepH l s x) _ h4
    refine ⟨this.ok, this.or_.imp (fun h => ⟨h.1, h.2.1.1, fun z hz => ?_⟩) id⟩
    rcases List.mem_cons.1 hz with rfl | hz
    · exact h.2.1.2
    · exact h.2.2 z hz
theorem pass_is {l : Bytes} (hg : Good l) {V : WV} (h : VOk l V) : VOk l (passV l V).1 ∧ ((passV l V).2 = true → sumV (passV l V).1 41 < sumV V 41) ∧ ((passV l V).2 = false → (passV l V).1 = V ∧ ∀ y, V y = wayOf (fromW l) y) := by
  have hp := pass_foldH hg ((List.range 40).map (· + 1)) (V, false) True ⟨h, .inl ⟨rfl, trivial⟩⟩
  have hpe : passV l V = ((List.range 40).map (· + 1)).foldl (stepH l) (V, false) := rfl
  rw [← hpe] at hp
  refine ⟨hp.ok, fun ht => ?_, fun hf => ?_⟩
  · rcases hp.or_ with ⟨e, -⟩ | ⟨-, e⟩
    · rw [e] at ht; cases ht
    · exact e
  · rcases hp.or_ with ⟨e, -, hc⟩ | ⟨e, -⟩
    · refine ⟨by rw [e], fun y => ?_⟩
      have least : ∀ p y, IsWay l p y → V y ≠ [] ∧ leW (V y) p := fun p y hw => by
        induction hw with
        | root hr => rw [h.root _ hr]; exact ⟨by simp, leW_refl _⟩
        | @step q x y hw' hy ih =>
          have hxd := hw'.digits hg x (by obtain ⟨q', rfl⟩ := hw'.last; simp)
          obtain ⟨h1, h2⟩ := hc x (List.mem_map.2 ⟨x - 1, List.mem_range.2 (by omega), by omega⟩) ih.1 y hy
          exact ⟨h1, leW_trans (show leW (V y) (V x ++ [y]) from h2) (leW_snoc y ih.2)⟩
      by_cases hv : V y = []
      · rw [hv]
        unfold wayOf
        cases e2 : fromW l y with
        | none => rfl
        | some p =>
          exfalso
          obtain ⟨D, hD, -⟩ := fromW_ok hg
          exact (least p y (hD.isWay _ y p (Nat.le_refl _) e2)).1 hv
      · obtain ⟨p', h1, h2, h3⟩ := fromW_least hg (h.way y hv)
        rw [wayOf_some h1]
        exact leW_antisymm (least p' y h3).2 h2
    · rw [e] at hf; cases hf
/-- who is alive, in order -/
def liveL (l : Bytes) : List Nat := ((List.range 40).filter fun k => (fromW l (k + 1)).isSome).map (· + 1)
theorem liveL_up (l : Bytes) : (liveL l).Pairwise (· < ·) := by
  unfold liveL
  refine List.pairwise_map.2 ?_
  exact ((List.pairwise_lt_range (n := 40)).filter _).imp fun h => by omega
theorem way_hE {l : Bytes} (hg : Good l) {k : Nat} (h : (fromW l k).isSome = true) : hE l (k : Int) = 0 := by
  obtain ⟨D, hD, -⟩ := fromW_ok hg
  exact hD.dh k ((hD.dk k).1 h)
theorem liveL_mem {l : Bytes} (hg : Good l) {x : Nat} : x ∈ liveL l ↔ (fromW l x).isSome = true := by
  unfold liveL
  simp only [List.mem_map, List.mem_filter, List.mem_range]
  constructor
  · rintro ⟨k, ⟨-, h⟩, rfl⟩; exact h
  · intro h
    have := hE_nat (way_hE hg h)
    exact ⟨x - 1, ⟨by omega, by rw [show x - 1 + 1 = x by omega]; exact h⟩, by omega⟩
theorem deadL_up (l : Bytes) : (deadL l).Pairwise (· < ·) := by
  unfold deadL deadE
  refine List.pairwise_map.2 ?_
  have hp : (entriesL l).Pairwise (fun a b => a.1 < b.1) := by
    unfold entriesL entsL
    refine List.pairwise_map.2 ?_
    exact ((List.pairwise_lt_range (n := 40)).filter _).imp fun h => by dsimp only; omega
  refine List.Pairwise.imp_of_mem ?_ (hp.filter _)
  intro a b ha hb hab
  obtain ⟨k, h1, h2, rfl⟩ := entL_mem.1 (List.mem_filter.1 ha).1
  obtain ⟨m, h3, h4, rfl⟩ := entL_mem.1 (List.mem_filter.1 hb).1
  dsimp only at hab ⊢
  omega
end Go.Proofs.YtcahgmnkphmnhaaGreatDoor
/- The reference on who names whom: Handle, Refs. -/
namespace Go.Proofs.YtcahgmnkphmnhaaGreatDoor
open Go.RowKit

theorem rhandle_any (p off n c : Nat) (l : Bytes) (x : Int) (w : World) (hn : l.length = n) (hg : Good l) (hnc : n ≤ c) (hrd : Rd w (some ⟨p, off, none⟩) l) :
    Calls Tryz.prog 8 #[.slice (some ⟨p, off, none⟩) n c, .int .i64 x] w fun e w' => e = .returned (.int .i64 (hE l x : Int)) ∧ Below w.heap.size w w' := by
  have hbd := hg.bd
  cases hh : handleB x with
  | false =>
    have he : Hidden (hE l x = 1) := ⟨by unfold hE; rw [if_pos hh]⟩
    clear hn hg hrd
    go_enter Tryz.func8, Tryz.ntmps8
    go_wp2_with fail
    refine (ref_handle_any x _).mono ?_
    rintro e w1 ⟨rfl, rfl⟩
    rw [hh]
    clear hh
    go_wp2_with fail
    go_ret
    exact ⟨by rw [he.out]; rfl, Below.refl _ _⟩
  | true =>
    have hb := handleB_true.1 hh
    obtain ⟨k, rfl⟩ : ∃ k : Nat, x = (k : Int) + 1 := ⟨(x - 1).toNat, by omega⟩
    have HE := Hidden.mk (refEntry_ok (some ⟨p, off, none⟩) n c l k w hn (by omega) hnc hrd (by omega))
    unfold entR entV at HE
    have he : Hidden (hE l ((k : Int) + 1) = if hasE (rawE l k) = true then 0 else 5) := ⟨by
      unfold hE
      rw [hh, show (((k : Int) + 1) - 1).toNat = k by omega]; rfl⟩
    generalize hasE (rawE l k) = hs at *
    generalize (rAt (rawE l k) : Int) = a1 at *
    generalize (rLen (rawE l k) : Int) = a2 at *
    generalize rTag (rawE l k) = a3 at *
    generalize hE l ((k : Int) + 1) = hv at *
    clear hn hg hrd hb
    go_enter Tryz.func8, Tryz.ntmps8
    go_wp2_with fail
    refine (ref_handle_any _ _).mono ?_
    rintro e w1 ⟨rfl, rfl⟩
    rw [hh]
    clear hh
    go_wp2_with fail
    refine HE.out.mono ?_
    rintro e w2 ⟨rfl, hb2⟩
    have HB := Hidden.mk (hb2.alloc hb2.size (.cells #[.int .i64 ((k : Int) + 1), .int .i64 a1, .int .i64 a2, .int .i64 a3] 68))
    clear hb2 HE
    cases hs with
    | true =>
      go_wp2_with fail
      go_ret
      exact ⟨by rw [he.out]; rfl, HB.out⟩
    | false =>
      go_wp2_with fail
      go_ret
      exact ⟨by rw [he.out]; rfl, HB.out⟩
theorem refsL_obj {l : Bytes} (hg : Good l) {k : Nat} (hk : k < 40) (hh : hasE (rawE l k) = true) : 0 ≤ objT l k ∧ objT l k ≤ 15 ∧ (objS l k).length ≤ 1000 ∧ refsL l ((k : Int) + 1) = refsB l ((objS l k).take (objT l k).toNat) := by
  have hs := strayE_false (hg.s.fit k hk hh)
  obtain ⟨e0, e1, e2, e3⟩ := hd_of hk hh
  have ht : objT l k = rTag (rawE l k) := by unfold objT; rw [if_pos hh]
  have hb : objS l k = (l.drop (rAt (rawE l k))).take (rLen (rawE l k)) := by unfold objS; rw [if_pos hh]
  refine ⟨by omega, by omega, by rw [hb]; simp; omega, ?_⟩
  unfold refsL
  rw [e2, e3]
  have hso : someE l ((k : Int) + 1) 0 (min (rLen (rawE l k) : Int) (rTag (rawE l k))) = 0 := some_zero e0 (by omega) (by omega) (by rw [e2]; omega)
  unfold readL
  rw [if_pos hso, e1, hb, ht, List.take_take]
  congr 2
  · omega
set_option maxRecDepth 100000 in
theorem rrefs_ok (p off n c : Nat) (l : Bytes) (k : Nat) (w : World) (hn : l.length = n) (hg : Good l) (hnc : n ≤ c) (hrd : Rd w (some ⟨p, off, none⟩) l) (hk : k < 40) (hh : hasE (rawE l k) = true) :
    Calls Tryz.prog 9 #[.slice (some ⟨p, off, none⟩) n c, .int .i64 ((k : Int) + 1)] w fun e w' => ∃ v, e = .returned v ∧ w'.ownsRow w.heap.size 3 1 v (refsL l ((k : Int) + 1)).length ((refsL l ((k : Int) + 1)).flatMap ncell) ∧ Below w.heap.size w w' := by
  obtain ⟨i0', hi0, hz0, hz1, hz2⟩ := info_parts int_infoC
  have HI := Hidden.mk (And.intro hi0 (And.intro hz0 (And.intro hz1 hz2)))
  have HO := Hidden.mk (refObj_ok p off n c l k w hn hg hnc hrd hk)
  obtain ⟨o0, o1, o2, o3⟩ := refsL_obj hg hk hh
  have HH : Hidden (∀ (x : Int) (W : World), Below w.heap.size w W → Calls Tryz.prog 8 #[.slice (some ⟨p, off, none⟩) n c, .int .i64 x] W fun e w' => e = .returned (.int .i64 (hE l x : Int)) ∧ Below W.heap.size W w') := ⟨fun x W hW => rhandle_any p off n c l x W hn hg hnc (hrd.below hW)⟩
  have HRL := Hidden.mk o3
  generalize objS l k = S at *
  obtain ⟨t, ht⟩ := Int.eq_ofNat_of_zero_le o0
  rw [ht, Int.toNat_natCast] at HRL
  rw [ht] at HO
  generalize refsL l ((k : Int) + 1) = R at *
  have ht15 : t ≤ 15 := by omega
  generalize hB : S.take t = B at *
  have HB : Hidden (B = S.take t) := ⟨hB.symm⟩
  have hBL : B.length = min t S.length := by rw [← hB]; simp
  clear hi0 hz0 hz1 hz2 hn hg hrd hh o0 o1 o3 ht hB
  go_enter Tryz.func9, Tryz.ntmps9
  go_wp2_with fail
  refine HO.out.mono ?_
  rintro e w1 ⟨rfl, hb1⟩
  have HB1 := Hidden.mk hb1
  clear hb1 HO
  go_wp2_with fail
  go_loopg [7, 8] 16 (fun q v i wr => ∃ j : Nat, j ≤ B.length ∧ q = 16 - j ∧ i = .int .i64 (j : Int) ∧ Hidden (Below w1.heap.size w1 wr ∧ wr.ownsRow w1.heap.size 3 1 v (refsB l (B.take j)).length ((refsB l (B.take j)).flatMap ncell)))
  case atStart => exact ⟨0, by omega, rfl, rfl, ⟨Below.refl _ _, World.ownsRow_nil _ _ _ _⟩⟩
  case round =>
    obtain ⟨j, hj, rfl, rfl, hst⟩ := hrel
    have hj15 : j ≤ 15 := by omega
    by_cases hlt : j < B.length
    · have hjt : j < t := by omega
      have hjS : j < S.length := by omega
      have HS := Hidden.mk (refsB_succ l B j hlt)
      have hBS : B[j] = S[j] := by
        have h := HB.out
        subst h
        simp
      rw [hBS] at HS
      have hll := refsB_len l B j (by omega)
      obtain ⟨A4, c4, rfl, hc4, hc4m⟩ := own_split hst.out.2
      have HO4 := Hidden.mk hst.out
      have HBW : Hidden (Below w.heap.size w wr) := ⟨HB1.out.trans (hst.out.1.mono HB1.out.size)⟩
      have hix : ((⟨S.toArray⟩ : ByteArray)[j]'(by simpa [ByteArray.size] using hjS)) = S[j] := rfl
      have hc255 := u8_lt S[j]
      generalize S[j] = cb at *
      generalize refsB l (B.take j) = L at *
      generalize hL2 : refsB l (B.take (j + 1)) = L2 at *
      have HL2 := Hidden.mk hL2
      have d0 : decide ((j : Int) < t) = true := decide_eq_true (by omega)
      have d0' : decide (j < t) = true := decide_eq_true hjt
      have d1 : decide ((j : Int) < S.length) = true := decide_eq_true (by omega)
      have d1' : decide (j < S.length) = true := decide_eq_true hjS
      have i0 : (0 : Int) ≤ j := by omega
      have i1 : (j : Int) < S.length := by omega
      have s1 : IntKind.i64.wrap (cb.toNat : Int) = (cb.toNat : Int) := IntWalk.i64_in _ (by omega)
      have s3 : IntKind.i64.wrap ((j : Int) + 1) = (j : Int) + 1 := IntWalk.i64_in _ (by omega)
      have HT := Hidden.mk (HH.out (cb.toNat : Int) wr HBW.out)
      clear hst hL2 hBS
      by_cases h0 : hE l (cb.toNat : Int) = 0
      · rw [h0] at HT
        have HS1 : Hidden (L2 = if cb.toNat ∉ L then L ++ [cb.toNat] else L) := ⟨by rw [HS.out]; unfold refB; simp only [h0, true_and]⟩
        clear h0 HS
        go_wp2_with fail
        refine HT.out.mono ?_
        rintro e w5 ⟨rfl, hb5⟩
        have HO5 : Hidden (Below w1.heap.size w1 w5 ∧ w5.ownsRow w1.heap.size 3 1 (.slice A4 L.length c4) L.length (L.flatMap ncell)) := ⟨HO4.out.1.trans (hb5.mono HO4.out.1.size), own_below HO4.out.2 hb5⟩
        have HRX := Hidden.mk (own_rdX3 (f := ncell) (fun _ => rfl) rfl HO5.out.2)
        obtain ⟨hi0, hz0, hz1, hz2⟩ := HI.out
        clear hb5 HT HO4
        go_wp2_with fail
        go_loopg [11, 12] L.length (fun q hv iv ws => ∃ (u : Nat) (hb : Bool), u ≤ L.length ∧ q = L.length - u ∧ iv = .int .i64 (u : Int) ∧ hv = .bool hb ∧ Hidden (hb = decide (cb.toNat ∈ L.take u)) ∧ w5 = ws)
        case atStart => exact ⟨0, false, by omega, rfl, rfl, rfl, ⟨by simp⟩, rfl⟩
        case round =>
          obtain ⟨u, hb, hu, rfl, rfl, rfl, hbe, rfl⟩ := hrel
          by_cases hlu : u < L.length
          · obtain ⟨pp, oo, hA4, hcx⟩ := HRX.out u hlu
            have y0 : w5.cell? ⟨pp, oo + u, none⟩ = some (.int .i64 (L[u] : Int)) := by simpa using hcx 0 _ rfl
            have i2 : (0 : Int) ≤ u := by omega
            have i3 : (u : Int) < L.length := by omega
            have s4 : IntKind.i64.wrap ((u : Int) + 1) = (u : Int) + 1 := IntWalk.i64_in _ (by omega)
            have HTK : Hidden ((cb.toNat ∈ L.take (u + 1)) ↔ (cb.toNat ∈ L.take u ∨ L[u] = cb.toNat)) := ⟨by
              rw [List.take_succ_eq_append_getElem hlu, List.mem_append, List.mem_singleton]
              exact ⟨fun h => h.imp id Eq.symm, fun h => h.imp id Eq.symm⟩⟩
            generalize L[u] = y at *
            subst hA4
            clear hcx
            cases hb with
            | true =>
              have hin := of_decide_eq_true hbe.out.symm
              have HX : Hidden (true = decide (cb.toNat ∈ L.take (u + 1))) := ⟨(decide_eq_true (HTK.out.2 (.inl hin))).symm⟩
              clear hin hbe HTK
              go_wp2_with fail
              go_roundg (L.length - (u + 1))
              case measure => omega
              case rel => exact ⟨u + 1, true, by omega, rfl, by go_num, rfl, HX, rfl⟩
            | false =>
              have hin := of_decide_eq_false hbe.out.symm
              by_cases hy : y = cb.toNat
              · have HX : Hidden (true = decide (cb.toNat ∈ L.take (u + 1))) := ⟨(decide_eq_true (HTK.out.2 (.inr hy))).symm⟩
                have d5 : decide ((y : Int) = (cb.toNat : Int)) = true := decide_eq_true (by omega)
                have d6 : ((y : Int) == (cb.toNat : Int)) = true := by simp; omega
                have d7 : decide (y = cb.toNat) = true := decide_eq_true hy
                clear hin hbe HTK hy
                go_wp2_with fail
                go_roundg (L.length - (u + 1))
                case measure => omega
                case rel => exact ⟨u + 1, true, by omega, rfl, by go_num, rfl, HX, rfl⟩
              · have HX : Hidden (false = decide (cb.toNat ∈ L.take (u + 1))) := ⟨(decide_eq_false (fun h => (HTK.out.1 h).elim hin hy)).symm⟩
                have d5 : decide ((y : Int) = (cb.toNat : Int)) = false := decide_eq_false (by omega)
                have d6 : ((y : Int) == (cb.toNat : Int)) = false := by simp; omega
                have d7 : decide (y = cb.toNat) = false := decide_eq_false hy
                clear hin hbe HTK hy
                go_wp2_with fail
                go_roundg (L.length - (u + 1))
                case measure => omega
                case rel => exact ⟨u + 1, false, by omega, rfl, by go_num, rfl, HX, rfl⟩
          · have huL : u = L.length := by omega
            have hbe2 := hbe.out
            rw [huL, List.take_length] at hbe2
            have d8 : decide ((u : Int) < L.length) = false := decide_eq_false (by omega)
            have d8' : decide (u < L.length) = false := decide_eq_false hlu
            clear huL hbe HRX
            cases hb with
            | true =>
              have HLL : Hidden (L2 = L) := ⟨by rw [HS1.out, if_neg (fun h => h (of_decide_eq_true hbe2.symm))]⟩
              clear hbe2 HS1
              go_wp2_with fail
              go_roundg (16 - (j + 1))
              case measure => omega
              case rel => exact ⟨j + 1, by omega, rfl, by go_num, ⟨by rw [HL2.out, HLL.out]; exact HO5.out⟩⟩
            | false =>
              have HLL : Hidden (L2 = L ++ [cb.toNat]) := ⟨by rw [HS1.out, if_pos (of_decide_eq_false hbe2.symm)]⟩
              clear hbe2 HS1
              go_wp2_with (at_builtin; refine wpList_append_lies _ rfl (.tmp 56) (.tmp 58) _ rfl w1.heap.size 3 i0' _ 1 8 Tryz.underlying27 hi0 hz0 hz1 hz2 rfl (by decide) (.slice A4 L.length c4) L.length (L.flatMap ncell) rfl (own_below HO5.out.2 ((Below.refl _ _).alloc (Nat.le_refl _) _)) ⟨(w5).heap.size, 0, none⟩ 1 1 [.int .i64 (cb.toNat : Int)] rfl rfl (World.news_of_block (cs := #[.int .i64 (cb.toNat : Int)]) (t := 3) (fr := (0, 0)) (heap_alloc_new (w5) _)) (by simp [Value.oneCell']) (by omega) (by simp only [maxLen]; omega) (by omega) (by have hz_ := HO5.out.1.size; rw [World.size_alloc]; omega) ((w5).heap.size + 1) (by simp) ?_; intro g8 cap8 w8 hown8 hg8 hat8 hlt8)
              have hgW := grown_trans' ((Below.refl w5.heap.size w5).alloc (Nat.le_refl _) _) hg8
              have hB8 : Below w1.heap.size w1 w8 := HO5.out.1.grown hgW HO5.out.1.size (fun q hq => (HO5.out.2.lt q hq).1)
              have HF : Hidden (Below w1.heap.size w1 w8 ∧ w8.ownsRow w1.heap.size 3 1 (.slice (some ⟨g8, 0, none⟩) (L.length + 1) cap8) L2.length (L2.flatMap ncell)) := ⟨hB8, by rw [HLL.out]; simpa [ncell] using hown8⟩
              clear hgW hB8 hown8 hg8 hat8 hlt8
              go_roundg (16 - (j + 1))
              case measure => omega
              case rel => exact ⟨j + 1, by omega, rfl, by go_num, ⟨by rw [HL2.out]; exact HF.out⟩⟩
      · obtain ⟨ec, hec⟩ : ∃ ec, hE l (cb.toNat : Int) = ec + 1 := ⟨hE l (cb.toNat : Int) - 1, by omega⟩
        have HLL : Hidden (L2 = L) := ⟨by rw [HS.out]; unfold refB; rw [if_neg (fun h => h0 h.1)]⟩
        generalize hE l (cb.toNat : Int) = ev at *
        have e0 : decide ((ev : Int) = 0) = false := decide_eq_false (by omega)
        have e0' : ((ev : Int) == 0) = false := by simp; omega
        have e0'' : (ev == 0) = false := by simp; omega
        clear h0 hec HS
        go_wp2_with fail
        refine HT.out.mono ?_
        rintro e w5 ⟨rfl, hb5⟩
        have HO5 : Hidden (Below w1.heap.size w1 w5 ∧ w5.ownsRow w1.heap.size 3 1 (.slice A4 L.length c4) L.length (L.flatMap ncell)) := ⟨HO4.out.1.trans (hb5.mono HO4.out.1.size), own_below HO4.out.2 hb5⟩
        clear hb5 HT HO4
        go_wp2_with fail
        go_roundg (16 - (j + 1))
        case measure => omega
        case rel => exact ⟨j + 1, by omega, rfl, by go_num, ⟨by rw [HL2.out, HLL.out]; exact HO5.out⟩⟩
    · have hjB : j = B.length := by omega
      have hT := hst.out
      rw [hjB, List.take_length, ← HRL.out] at hT
      have HF : Hidden (wr.ownsRow w.heap.size 3 1 u7 R.length (R.flatMap ncell) ∧ Below w.heap.size w wr) := ⟨own_base hT.2 HB1.out.size, HB1.out.trans (hT.1.mono HB1.out.size)⟩
      clear hT hst
      by_cases hjt : j < t
      · have d0 : decide ((j : Int) < t) = true := decide_eq_true (by omega)
        have d0' : decide (j < t) = true := decide_eq_true hjt
        have d1 : decide ((j : Int) < S.length) = false := decide_eq_false (by omega)
        have d1' : decide (j < S.length) = false := decide_eq_false (by omega)
        clear hjB hlt
        go_wp2_with fail
        go_ret
        exact ⟨_, rfl, HF.out.1, HF.out.2⟩
      · have d0 : decide ((j : Int) < t) = false := decide_eq_false (by omega)
        have d0' : decide (j < t) = false := decide_eq_false hjt
        clear hjB hlt
        go_wp2_with fail
        go_ret
        exact ⟨_, rfl, HF.out.1, HF.out.2⟩
end Go.Proofs.YtcahgmnkphmnhaaGreatDoor
/- The reference on ways: less; rows of rows of numbers. -/
namespace Go.Proofs.YtcahgmnkphmnhaaGreatDoor
open Go.RowKit

theorem lexLt_step {a b : List Nat} {j : Nat} (ha : j < a.length) (hb : j < b.length) : lexLt (a.drop j) (b.drop j) = if a[j] = b[j] then lexLt (a.drop (j + 1)) (b.drop (j + 1)) else decide (a[j] < b[j]) := by
  rw [List.drop_eq_getElem_cons ha, List.drop_eq_getElem_cons hb]; rfl
set_option maxRecDepth 100000 in
theorem less_any (A B : Option Addr) (n m ca cb : Nat) (a b : List Nat) (w : World) (ha : a.length = n) (hb : b.length = m) (hn : n ≤ 100000) (hm : m ≤ 100000) (hrA : RdX ncell 1 w A a) (hrB : RdX ncell 1 w B b) :
    Calls Tryz.prog 39 #[.slice A n ca, .slice B m cb] w fun e w' => e = .returned (.bool (lessW a b)) ∧ Below w.heap.size w w' := by
  by_cases hnm : n = m
  · subst hnm
    have HL : Hidden (lessW a b = lexLt (a.drop 0) (b.drop 0)) := ⟨by unfold lessW; rw [if_pos (ha.trans hb.symm)]; rfl⟩
    have HA := Hidden.mk hrA
    have HB := Hidden.mk hrB
    have HNA := Hidden.mk ha
    have HNB := Hidden.mk hb
    have nn : ((n : Int) != (n : Int)) = false := bne_self_eq_false _
    have nn' : ((n : Int) == (n : Int)) = true := beq_self_eq_true _
    rw [HL.out]
    generalize hX : lexLt (a.drop 0) (b.drop 0) = X at *
    have HX := Hidden.mk hX
    clear hrA hrB ha hb HL hX
    go_enter Tryz.func39, Tryz.ntmps39
    go_wp2_with fail
    go_loopg [5] n (fun q i wr => ∃ j : Nat, j ≤ n ∧ q = n - j ∧ i = .int .i64 (j : Int) ∧ Hidden (Below w.heap.size w wr ∧ lexLt (a.drop j) (b.drop j) = X))
    case atStart => exact ⟨0, by omega, rfl, rfl, ⟨Below.refl _ _, HX.out⟩⟩
    case round =>
      obtain ⟨j, hj, rfl, rfl, hst⟩ := hrel
      by_cases hlt : j < n
      · have hja : j < a.length := by rw [HNA.out]; exact hlt
        have hjb : j < b.length := by rw [HNB.out]; exact hlt
        obtain ⟨p, op, rfl, hcx⟩ := (HA.out.below hst.out.1) j hja
        obtain ⟨q, oq, rfl, hcy⟩ := (HB.out.below hst.out.1) j hjb
        have x0 : wr.cell? ⟨p, op + j, none⟩ = some (.int .i64 (a[j] : Int)) := by simpa using hcx 0 _ rfl
        have y0 : wr.cell? ⟨q, oq + j, none⟩ = some (.int .i64 (b[j] : Int)) := by simpa using hcy 0 _ rfl
        have HS := Hidden.mk (lexLt_step hja hjb)
        have HB0 := Hidden.mk hst.out
        generalize a[j] = u at *
        generalize b[j] = v at *
        have i0 : (0 : Int) ≤ j := by omega
        have i1 : (j : Int) < n := by omega
        have s1 : IntKind.i64.wrap ((j : Int) + 1) = (j : Int) + 1 := IntWalk.i64_in _ (by omega)
        clear hcx hcy hst
        by_cases huv : u = v
        · subst huv
          have e1 : ((u : Int) != (u : Int)) = false := bne_self_eq_false _
          have e2 : ((u : Int) == (u : Int)) = true := beq_self_eq_true _
          have HN : Hidden (lexLt (a.drop (j + 1)) (b.drop (j + 1)) = X) := ⟨by rw [← HB0.out.2, HS.out, if_pos rfl]⟩
          go_wp2_with fail
          go_quiet (fail)
          have hbn := Hidden.mk (below_drewN HB0.out.1 nq)
          clear x0 y0
          go_wp2_with fail
          go_roundg (n - (j + 1))
          case measure => omega
          case rel => exact ⟨j + 1, by omega, rfl, by go_num, ⟨hbn.out, HN.out⟩⟩
        · have e1 : ((u : Int) != (v : Int)) = true := by simp; omega
          have e2 : ((u : Int) == (v : Int)) = false := by simp; omega
          have HN : Hidden (decide ((u : Int) < (v : Int)) = X ∧ decide (u < v) = X) := ⟨by
            have : decide (u < v) = X := by rw [← HB0.out.2, HS.out, if_neg huv]
            exact ⟨by rw [← this]; exact decide_eq_decide.2 (by omega), this⟩⟩
          go_wp2_with fail
          go_quiet (fail)
          have hbn := Hidden.mk (below_drewN HB0.out.1 nq)
          go_wp2_with fail
          go_quiet (fail)
          have hbm := Hidden.mk (below_drewN hbn.out nq)
          go_wp2_with fail
          go_ret
          exact ⟨congrArg (fun z => Ending.returned (.bool z)) HN.out.2, hbm.out⟩
      · obtain rfl : j = n := by omega
        have hX : X = false := by
          rw [← hst.out.2, List.drop_of_length_le (by rw [HNA.out]; exact Nat.le_refl _)]; rfl
        have HBB := Hidden.mk hst.out.1
        subst hX
        have c0 : decide ((j : Int) < j) = false := decide_eq_false (by omega)
        clear hst HX
        go_wp2_with fail
        go_ret
        exact ⟨rfl, HBB.out⟩
  · have e1 : ((n : Int) != (m : Int)) = true := by simp; omega
    have e2 : ((n : Int) == (m : Int)) = false := by simp; omega
    have HL : Hidden (lessW a b = decide ((n : Int) < (m : Int)) ∧ lessW a b = decide (n < m)) := ⟨by
      have : lessW a b = decide (n < m) := by unfold lessW; rw [ha, hb, if_neg hnm]
      exact ⟨this.trans (decide_eq_decide.2 (by omega)), this⟩⟩
    clear hrA hrB ha hb hnm
    rw [HL.out.2]
    go_enter Tryz.func39, Tryz.ntmps39
    go_wp2_with fail
    go_ret
    exact ⟨rfl, Below.refl _ _⟩
/-- a block of 41 rows of numbers -/
structure WvB (w0 w : World) (gw : Nat) (V : WV) : Prop where
  blk : ∃ (oA : Nat → Option Addr) (oc : Nat → Nat) (cur : Array Value), w.heap[gw]? = some (.cells cur 27 (0, 0)) ∧ cur.size = 41 ∧ ∀ i, i < 41 → cur[i]? = some (.slice (oA i) (V i).length (oc i)) ∧ RdX ncell 1 w (oA i) (V i) ∧ (V i).length ≤ oc i
  new : w0.heap.size ≤ gw
section
variable {w0 w w' : World} {gw : Nat} {V : WV}
theorem WvB.lt (h : WvB w0 w gw V) : gw < w.heap.size := by
  obtain ⟨oA, oc, cur, h0, -⟩ := h.blk
  exact (Array.getElem?_eq_some_iff.1 h0).1
theorem WvB.below (h : WvB w0 w gw V) (hb : Below w.heap.size w w') : WvB w0 w' gw V := by
  obtain ⟨oA, oc, cur, h0, h1, h2⟩ := h.blk
  exact ⟨⟨oA, oc, cur, (hb.block _ h.lt).trans h0, h1, fun i hi => ⟨(h2 i hi).1, (h2 i hi).2.1.below hb, (h2 i hi).2.2⟩⟩, h.new⟩
theorem WvB.cell (h : WvB w0 w gw V) (i : Nat) (hi : i < 41) : ∃ A c, w.cell? ⟨gw, i, none⟩ = some (.slice A (V i).length c) ∧ w.frozen? ⟨gw, i, none⟩ = false ∧ RdX ncell 1 w A (V i) ∧ (V i).length ≤ c := by
  obtain ⟨oA, oc, cur, h0, h1, h2⟩ := h.blk
  exact ⟨oA i, oc i, by simp only [World.cell?]; rw [h0]; exact (h2 i hi).1, frozen_of_row _ _ i _ _ h0, (h2 i hi).2⟩
theorem WvB.set (h : WvB w0 w gw V) {y c : Nat} {A : Option Addr} {p : List Nat} (hy : y < 41) (hr : RdX ncell 1 w A p) (hc : p.length ≤ c) : WvB w0 (w.setCell ⟨gw, y, none⟩ (.slice A p.length c)) gw (vset V y p) := by
  obtain ⟨oA, oc, cur, h0, h1, h2⟩ := h.blk
  have hk : ∀ (B : Option Addr) (q : List Nat), RdX ncell 1 w B q → RdX ncell 1 (w.setCell ⟨gw, y, none⟩ (.slice A p.length c)) B q := fun B q hq i hi => by
    obtain ⟨b, off, e, hcx⟩ := hq i hi
    refine ⟨b, off, e, fun k u hu => ?_⟩
    have hne : b ≠ gw := fun e' => by
      have h3 := hcx 0 _ rfl
      simp only [World.cell?] at h3
      rw [e', h0] at h3
      dsimp only at h3
      have hlt : off + i * 1 + 0 < 41 := by
        have := (Array.getElem?_eq_some_iff.1 h3).1; omega
      rw [(h2 _ hlt).1] at h3
      cases h3
    have h4 := hcx k u hu
    exact (World.cell?_of_block (w := w) (a := ⟨b, off + i * 1 + k, none⟩) (Below.heap_setCell _ _ _ _ (by dsimp only; exact hne))).trans h4
  refine ⟨⟨fun i => if i = y then A else oA i, fun i => if i = y then c else oc i, _, heap_setK h0 _, by simp [h1], fun i hi => ?_⟩, h.new⟩
  by_cases e : i = y
  · subst e
    simp only [if_true]
    have hv : vset V i p i = p := by unfold vset; rw [if_pos rfl]
    rw [hv]
    exact ⟨by simp [h1, hy], hk _ _ hr, hc⟩
  · simp only [if_neg e]
    have hv : vset V y p i = V i := by unfold vset; rw [if_neg e]
    rw [hv]
    refine ⟨?_, hk _ _ (h2 i hi).2.1, (h2 i hi).2.2⟩
    rw [Array.getElem?_setIfInBounds_ne (fun e' => e e'.symm)]
    exact (h2 i hi).1
theorem WvB.made (w : World) : WvB w (w.alloc (.cells (Array.replicate 41 (.slice none 0 0)) 27)) w.heap.size (fun _ => []) :=
  ⟨⟨fun _ => none, fun _ => 0, _, heap_alloc_new w _, by simp, fun i hi => ⟨by simp [hi], fun j hj => absurd hj (by simp), Nat.le_refl _⟩⟩, Nat.le_refl _⟩
end
end Go.Proofs.YtcahgmnkphmnhaaGreatDoor
/- Laid: library functions whose contracts are proved over whatever program: the table of numbers, and a field a function or a type. -/
namespace Go.Proofs.YtcahgmnkphmnhaaGreatDoor
open Go.Shelf
def sortedI_ren : Go.Shelf.Ren := ⟨fun | 6 => 45 | 8 => 99 | 9 => 97 | 11 => 133 | 13 => 132 | 12 => 131 | 23 => 163 | 24 => 164 | 14 => 154 | 15 => 155 | 16 => 156 | 17 => 157 | 18 => 158 | 19 => 159 | 20 => 160 | 21 => 161 | 22 => 162 | 25 => 176 | 26 => 177 | 27 => 178 | 28 => 179 | 29 => 180 | 30 => 173 | 31 => 199 | n => n, fun | 26 => 3 | 28 => 87 | 24 => 27 | 0 => 0 | 3 => 3 | 37 => 191 | 48 => 227 | 50 => 229 | 4 => 4 | 40 => 222 | 39 => 221 | 45 => 83 | 5 => 5 | 9 => 9 | 51 => 239 | 55 => 243 | 57 => 257 | 58 => 126 | 33 => 45 | n => n, fun | n => n⟩
theorem sortedI : Go.Proofs.SlLaysZI.n6 Tryz.prog sortedI_ren := {
  mixed := by kernel_rfl
  f6 := ⟨Tryz.f45.name, by decide, Tryz.func45.trans (congrArg some (by kernel_rfl))⟩
  f8 := ⟨Tryz.f99.name, by decide, Tryz.func99.trans (congrArg some (by kernel_rfl))⟩
  f11 := ⟨Tryz.f133.name, by decide, Tryz.func133.trans (congrArg some (by kernel_rfl))⟩
  t0 := Tryz.underlying0
  a0 := Tryz.isAgg0
  z0 := Tryz.sizeOf0
  v0 := Tryz.zeroValue0
  t24 := Tryz.underlying27
  a24 := Tryz.isAgg27
  z24 := Tryz.sizeOf27
  v24 := Tryz.zeroValue27
  t26 := Tryz.underlying3
  a26 := Tryz.isAgg3
  z26 := Tryz.sizeOf3
  v26 := Tryz.zeroValue3
  t28 := Tryz.underlying87
  a28 := Tryz.isAgg87
  z28 := Tryz.sizeOf87
  v28 := Tryz.zeroValue87
  i26 := by kernel_rfl }
def sortI_ren : Go.Shelf.Ren := ⟨fun | 5 => 97 | 8 => 132 | 7 => 131 | 19 => 163 | 20 => 164 | 10 => 154 | 11 => 155 | 12 => 156 | 13 => 157 | 14 => 158 | 15 => 159 | 16 => 160 | 17 => 161 | 18 => 162 | 30 => 176 | 31 => 177 | 32 => 178 | 33 => 179 | 34 => 180 | 35 => 173 | 40 => 199 | n => n, fun | 23 => 27 | 25 => 3 | 3 => 3 | 32 => 191 | 22 => 27 | 0 => 0 | 44 => 227 | 46 => 229 | 4 => 4 | 36 => 222 | 35 => 221 | 41 => 83 | 5 => 5 | 9 => 9 | 53 => 239 | 57 => 243 | 63 => 257 | 64 => 126 | n => n, fun | n => n⟩
theorem sortI : Go.Proofs.SlLaysM.n5 Tryz.prog sortI_ren := {
  mixed := by kernel_rfl
  f5 := ⟨Tryz.f97.name, by decide, Tryz.func97.trans (congrArg some (by kernel_rfl))⟩
  f7 := ⟨Tryz.f131.name, by decide, Tryz.func131.trans (congrArg some (by kernel_rfl))⟩
  f8 := Tryz.func132.trans (congrArg some (by kernel_rfl))
  f10 := ⟨Tryz.f154.name, by decide, Tryz.func154.trans (congrArg some (by kernel_rfl))⟩
  f11 := ⟨Tryz.f155.name, by decide, Tryz.func155.trans (congrArg some (by kernel_rfl))⟩
  f12 := ⟨Tryz.f156.name, by decide, Tryz.func156.trans (congrArg some (by kernel_rfl))⟩
  f13 := ⟨Tryz.f157.name, by decide, Tryz.func157.trans (congrArg some (by kernel_rfl))⟩
  f14 := ⟨Tryz.f158.name, by decide, Tryz.func158.trans (congrArg some (by kernel_rfl))⟩
  f15 := ⟨Tryz.f159.name, by decide, Tryz.func159.trans (congrArg some (by kernel_rfl))⟩
  f16 := ⟨Tryz.f160.name, by decide, Tryz.func160.trans (congrArg some (by kernel_rfl))⟩
  f17 := ⟨Tryz.f161.name, by decide, Tryz.func161.trans (congrArg some (by kernel_rfl))⟩
  f18 := ⟨Tryz.f162.name, by decide, Tryz.func162.trans (congrArg some (by kernel_rfl))⟩
  f19 := Tryz.func163.trans (congrArg some (by kernel_rfl))
  f20 := Tryz.func164.trans (congrArg some (by kernel_rfl))
  f30 := ⟨Tryz.f176.name, by decide, Tryz.func176.trans (congrArg some (by kernel_rfl))⟩
  f31 := Tryz.func177.trans (congrArg some (by kernel_rfl))
  f32 := Tryz.func178.trans (congrArg some (by kernel_rfl))
  f33 := ⟨Tryz.f179.name, by decide, Tryz.func179.trans (congrArg some (by kernel_rfl))⟩
  f34 := ⟨Tryz.f180.name, by decide, Tryz.func180.trans (congrArg some (by kernel_rfl))⟩
  f35 := ⟨Tryz.f173.name, by decide, Tryz.func173.trans (congrArg some (by kernel_rfl))⟩
  f40 := ⟨Tryz.f199.name, by decide, Tryz.func199.trans (congrArg some (by kernel_rfl))⟩
  t0 := Tryz.underlying0
  a0 := Tryz.isAgg0
  z0 := Tryz.sizeOf0
  v0 := Tryz.zeroValue0
  t3 := Tryz.underlying3
  a3 := Tryz.isAgg3
  z3 := Tryz.sizeOf3
  v3 := Tryz.zeroValue3
  t4 := Tryz.underlying4
  a4 := Tryz.isAgg4
  z4 := Tryz.sizeOf4
  v4 := Tryz.zeroValue4
  t5 := Tryz.underlying5
  a5 := Tryz.isAgg5
  z5 := Tryz.sizeOf5
  v5 := Tryz.zeroValue5
  t9 := Tryz.underlying9
  a9 := Tryz.isAgg9
  z9 := Tryz.sizeOf9
  v9 := Tryz.zeroValue9
  t22 := Tryz.underlying27
  a22 := Tryz.isAgg27
  z22 := Tryz.sizeOf27
  v22 := Tryz.zeroValue27
  t23 := Tryz.underlying27
  a23 := Tryz.isAgg27
  z23 := Tryz.sizeOf27
  v23 := Tryz.zeroValue27
  t25 := Tryz.underlying3
  a25 := Tryz.isAgg3
  z25 := Tryz.sizeOf3
  v25 := Tryz.zeroValue3
  t32 := Tryz.underlying191
  a32 := Tryz.isAgg191
  z32 := Tryz.sizeOf191
  v32 := Tryz.zeroValue191
  t35 := Tryz.underlying221
  a35 := Tryz.isAgg221
  z35 := Tryz.sizeOf221
  v35 := Tryz.zeroValue221
  t36 := Tryz.underlying222
  a36 := Tryz.isAgg222
  z36 := Tryz.sizeOf222
  v36 := Tryz.zeroValue222
  t41 := Tryz.underlying83
  a41 := Tryz.isAgg83
  z41 := Tryz.sizeOf83
  v41 := Tryz.zeroValue83
  t44 := Tryz.underlying227
  a44 := Tryz.isAgg227
  z44 := Tryz.sizeOf227
  v44 := Tryz.zeroValue227
  t46 := Tryz.underlying229
  a46 := Tryz.isAgg229
  z46 := Tryz.sizeOf229
  v46 := Tryz.zeroValue229
  t53 := Tryz.underlying239
  a53 := Tryz.isAgg239
  z53 := Tryz.sizeOf239
  v53 := Tryz.zeroValue239
  t57 := Tryz.underlying243
  a57 := Tryz.isAgg243
  z57 := Tryz.sizeOf243
  v57 := Tryz.zeroValue243
  t63 := Tryz.underlying257
  a63 := Tryz.isAgg257
  z63 := Tryz.sizeOf257
  v63 := Tryz.zeroValue257
  t64 := Tryz.underlying126
  a64 := Tryz.isAgg126
  z64 := Tryz.sizeOf126
  v64 := Tryz.zeroValue126 }
end Go.Proofs.YtcahgmnkphmnhaaGreatDoor
/- Laid by hand: slices.Compact and slices.Reverse at ints. -/
namespace Go.Proofs.YtcahgmnkphmnhaaGreatDoor
open Go.Shelf
def compactI_ren : Go.Shelf.Ren := ⟨fun | 20 => 98 | n => n, fun | 0 => 0 | 3 => 3 | 4 => 4 | 22 => 27 | n => n, fun | n => n⟩
theorem compactI : Go.Proofs.Lays2.n20 Tryz.prog compactI_ren := {
  mixed := by kernel_rfl
  f20 := Tryz.func98.trans (congrArg some (by kernel_rfl))
  t0 := Tryz.underlying0
  a0 := Tryz.isAgg0
  z0 := Tryz.sizeOf0
  v0 := Tryz.zeroValue0
  t3 := Tryz.underlying3
  a3 := Tryz.isAgg3
  z3 := Tryz.sizeOf3
  v3 := Tryz.zeroValue3
  t4 := Tryz.underlying4
  a4 := Tryz.isAgg4
  z4 := Tryz.sizeOf4
  v4 := Tryz.zeroValue4
  t22 := Tryz.underlying27
  a22 := Tryz.isAgg27
  z22 := Tryz.sizeOf27
  v22 := Tryz.zeroValue27
  i3 := by kernel_rfl }
def reverseI_ren : Go.Shelf.Ren := ⟨fun | 112 => 44 | n => n, fun | 0 => 0 | 3 => 3 | 4 => 4 | 28 => 27 | n => n, fun | n => n⟩
theorem reverseI : Go.Proofs.Lays.n112 Tryz.prog reverseI_ren := {
  mixed := by kernel_rfl
  f112 := Tryz.func44.trans (congrArg some (by kernel_rfl))
  t0 := Tryz.underlying0
  a0 := Tryz.isAgg0
  z0 := Tryz.sizeOf0
  v0 := Tryz.zeroValue0
  t3 := Tryz.underlying3
  a3 := Tryz.isAgg3
  z3 := Tryz.sizeOf3
  v3 := Tryz.zeroValue3
  t4 := Tryz.underlying4
  a4 := Tryz.isAgg4
  z4 := Tryz.sizeOf4
  v4 := Tryz.zeroValue4
  t28 := Tryz.underlying27
  a28 := Tryz.isAgg27
  z28 := Tryz.sizeOf27
  v28 := Tryz.zeroValue27 }
end Go.Proofs.YtcahgmnkphmnhaaGreatDoor
/- Sorting, compacting and turning own rows of ints. -/
namespace Go.Proofs.YtcahgmnkphmnhaaGreatDoor
open Go.RowKit Go.Sort Go.Shelf Go.Lib

theorem take_putCellsZ (enc : Int → Value) (cur : Array Value) (d : Array Int) (h : d.size ≤ cur.size) : (putCells enc 0 d cur).toList.take d.size = d.toList.map enc := by
  apply List.ext_getElem?
  intro j
  by_cases hj : j < d.size
  · rw [List.getElem?_take_of_lt hj, Array.getElem?_toList]
    simp [putCells, hj, show j < cur.size by omega]
  · rw [List.getElem?_take_eq_none (by omega), List.getElem?_eq_none (by simp; omega)]
theorem holdsZ_own {w : World} {base : Nat} {e : TypeId} {g n cap : Nat} {L : List Int} (h : w.ownsRow base e 1 (.slice (some ⟨g, 0, none⟩) n cap) n (L.map (Value.int .i64))) :
    Holds (Value.int .i64) w g 0 L.toArray ∧ g < w.heap.size := by
  rcases h.2 with ⟨h1, _⟩ | ⟨g', cap', cur, he, _, hh, _⟩
  · cases h1
  · injection he with he _ hcap
    injection he with he
    injection he with he
    subst he hcap
    refine ⟨fun j hj => ?_, (Array.getElem?_eq_some_iff.1 hh).1⟩
    have hj' : j < L.length := by simpa using hj
    have := h.cells (g := g) rfl j (.int .i64 L[j]) (by simp [hj'])
    rw [Addr.add_lit] at this
    rw [getElem!_pos _ j hj]
    exact ⟨by simpa using this, by simp [World.frozen?, hh]⟩
theorem own_putZ {w : World} {base : Nat} {e : TypeId} {g n cap m : Nat} {L : List Int} {d : Array Int} {os : Array Obj} (hd : d.size = n) (h : w.ownsRow base e 1 (.slice (some ⟨g, 0, none⟩) n cap) n (L.map (Value.int .i64))) :
    (grow (putRow (Value.int .i64) (Sort.ahead w m) g 0 d) os).ownsRow base e 1 (.slice (some ⟨g, 0, none⟩) n cap) n (d.toList.map (Value.int .i64)) ∧ w.grownBy (grow (putRow (Value.int .i64) (Sort.ahead w m) g 0 d) os) (some g) := by
  rcases h.2 with ⟨h1, _⟩ | ⟨g', cap', cur, he, hb, hh, hc, hm, hz, ht⟩
  · cases h1
  · injection he with he _ hcap
    injection he with he
    injection he with he
    subst he hcap
    have hg : g < w.heap.size := (Array.getElem?_eq_some_iff.1 hh).1
    have hheap : (grow (putRow (Value.int .i64) (Sort.ahead w m) g 0 d) os).heap[g]? = some (.cells (putCells (Value.int .i64) 0 d cur) e (0, 0)) := by
      rw [heap_grow_old _ _ (by simpa [putRow, mapBlock, Sort.ahead] using hg)]
      simp [putRow, mapBlock, Sort.ahead, Array.getElem?_modify, hh, onCells]
    refine ⟨⟨by simp [hd], .inr ⟨g, cap, _, rfl, hb, hheap, hc, hm, by simp [putCells, hz], ?_⟩⟩, ?_⟩
    · rw [Nat.mul_one, ← hd, take_putCellsZ _ _ _ (by omega)]
    · refine ⟨rfl, rfl, rfl, by simp [putRow, mapBlock, Sort.ahead], fun q hq hne => ?_⟩
      rw [heap_grow_old _ _ (by simpa [putRow, mapBlock, Sort.ahead] using hq)]
      have : g ≠ q := fun e => hne (by rw [e])
      simp [putRow, mapBlock, Sort.ahead, Array.getElem?_modify, this]
def sortZ (L : List Int) : List Int := L.mergeSort fun x y => decide (x ≤ y)
theorem sortZ_any (base g n cap : Nat) (L : List Int) (w : World) (hn : L.length = n) (hl : n ≤ 100000) (h : w.ownsRow base 3 1 (.slice (some ⟨g, 0, none⟩) n cap) n (L.map (Value.int .i64))) :
    Calls Tryz.prog 97 #[.slice (some ⟨g, 0, none⟩) n cap] w fun e w' => e = .returned (.tuple #[]) ∧ w'.ownsRow base 3 1 (.slice (some ⟨g, 0, none⟩) n cap) n ((sortZ L).map (Value.int .i64)) ∧ w.grownBy w' (some g) := by
  subst hn
  obtain ⟨hH, hg⟩ := holdsZ_own h
  have hc := AnyM.slices_Sort_int sortI g 0 cap L w hH hg (by omega)
  change Calls Tryz.prog 97 _ _ _ at hc
  refine hc.mono ?_
  rintro e w' ⟨rfl, m, os, rfl⟩
  have h2 := own_putZ (m := m) (os := os) (d := (sortZ L).toArray) (by simp [sortZ]) h
  refine ⟨rfl, ?_, h2.2⟩
  have h3 := h2.1
  rw [List.toList_toArray] at h3
  exact h3
theorem grow_none (w : World) : grow w #[] = w := by
  unfold grow; simp
theorem own_putZ0 {w : World} {base : Nat} {e : TypeId} {g n cap m : Nat} {L : List Int} {d : Array Int} (hd : d.size = n) (h : w.ownsRow base e 1 (.slice (some ⟨g, 0, none⟩) n cap) n (L.map (Value.int .i64))) :
    (putRow (Value.int .i64) (Sort.ahead w m) g 0 d).ownsRow base e 1 (.slice (some ⟨g, 0, none⟩) n cap) n (d.toList.map (Value.int .i64)) ∧ w.grownBy (putRow (Value.int .i64) (Sort.ahead w m) g 0 d) (some g) := by
  have := own_putZ (m := m) (os := #[]) hd h
  rwa [grow_none] at this
theorem own_shrinkZ {w : World} {base : Nat} {e : TypeId} {g n k cap : Nat} {L M : List Int} (hk : k ≤ n) (hM : M.length = k) (h : w.ownsRow base e 1 (.slice (some ⟨g, 0, none⟩) n cap) n ((M ++ L).map (Value.int .i64))) :
    w.ownsRow base e 1 (.slice (some ⟨g, 0, none⟩) k cap) k (M.map (Value.int .i64)) := by
  rcases h.2 with ⟨h1, _⟩ | ⟨g', cap', cur, he, hb, hh, hc, hm, hz, ht⟩
  · cases h1
  · injection he with he _ hcap
    injection he with he
    injection he with he
    subst he hcap
    refine ⟨by simp [hM], .inr ⟨g, cap, cur, rfl, hb, hh, by omega, hm, hz, ?_⟩⟩
    have h3 := congrArg (List.take k) ht
    have h4 : List.take k (M.map (Value.int .i64)) = M.map (Value.int .i64) := List.take_of_length_le (by simp [hM])
    rw [List.take_take, Nat.mul_one, Nat.min_eq_left hk, List.map_append, List.take_append_of_le_length (by simp [hM]), h4] at h3
    rw [Nat.mul_one]
    exact h3
theorem compact_le (L : List Int) : (Lib.compact L).length ≤ L.length := by
  unfold Lib.compact Lib.compactUpTo
  rw [List.length_map]
  refine Nat.le_trans (List.length_filter_le ..) ?_
  simp
theorem compactZ_any (base g n cap : Nat) (L : List Int) (w : World) (hn : L.length = n) (hl : n ≤ 100000) (hcap : n ≤ cap) (h : w.ownsRow base 3 1 (.slice (some ⟨g, 0, none⟩) n cap) n (L.map (Value.int .i64))) :
    Calls Tryz.prog 98 #[.slice (some ⟨g, 0, none⟩) n cap] w fun e w' => e = .returned (.slice (some ⟨g, 0, none⟩) (Lib.compact L).length cap) ∧ w'.ownsRow base 3 1 (.slice (some ⟨g, 0, none⟩) (Lib.compact L).length cap) (Lib.compact L).length ((Lib.compact L).map (Value.int .i64)) ∧ w.grownBy w' (some g) := by
  subst hn
  obtain ⟨hH, hg⟩ := holdsZ_own h
  have hle := compact_le L
  have hc := Any.slices_Compact_int compactI g 0 cap L w hH (by omega) hcap
  change Calls Tryz.prog 98 _ _ _ at hc
  refine hc.mono ?_
  rintro e w' ⟨rfl, q, rfl⟩
  have h2 := own_putZ0 (m := q) (d := (Lib.compact L ++ List.replicate (L.length - (Lib.compact L).length) 0).toArray) (by simp; omega) h
  refine ⟨rfl, ?_, h2.2⟩
  have h3 := h2.1
  rw [List.toList_toArray] at h3
  exact own_shrinkZ hle rfl h3
theorem reverseZ_any (base g n cap : Nat) (L : List Int) (w : World) (hn : L.length = n) (hl : n ≤ 100000) (h : w.ownsRow base 3 1 (.slice (some ⟨g, 0, none⟩) n cap) n (L.map (Value.int .i64))) :
    Calls Tryz.prog 44 #[.slice (some ⟨g, 0, none⟩) n cap] w fun e w' => e = .returned (.tuple #[]) ∧ w'.ownsRow base 3 1 (.slice (some ⟨g, 0, none⟩) n cap) n (L.reverse.map (Value.int .i64)) ∧ w.grownBy w' (some g) := by
  subst hn
  obtain ⟨hH, hg⟩ := holdsZ_own h
  have hc := Any.slices_Reverse_int reverseI g 0 cap L w hH (by omega)
  change Calls Tryz.prog 44 _ _ _ at hc
  refine hc.mono ?_
  rintro e w' ⟨rfl, q, rfl⟩
  have h2 := own_putZ0 (m := q) (d := L.reverse.toArray) (by simp) h
  refine ⟨rfl, ?_, h2.2⟩
  have h3 := h2.1
  rw [List.toList_toArray] at h3
  exact h3
end Go.Proofs.YtcahgmnkphmnhaaGreatDoor
/- Sorting, compacting and turning own rows of numbers. -/
namespace Go.Proofs.YtcahgmnkphmnhaaGreatDoor
open Go.RowKit Go.Sort Go.Shelf Go.Lib

theorem ncell_map (L : List Nat) : L.flatMap ncell = (L.map fun i : Nat => (i : Int)).map (Value.int .i64) := by
  rw [List.map_map, List.map_eq_flatMap]; rfl
theorem sortZ_cast (L : List Nat) : sortZ (L.map fun i : Nat => (i : Int)) = (sortNat L).map fun i : Nat => (i : Int) := by
  unfold sortZ sortNat
  rw [List.map_mergeSort]
  intro a _ b _
  simp
theorem sortNat_any (base n : Nat) (v : Value) (L : List Nat) (w : World) (hn : L.length = n) (hl : n ≤ 100000) (h : w.ownsRow base 3 1 v n (L.flatMap ncell)) :
    Calls Tryz.prog 97 #[v] w fun e w' => e = .returned (.tuple #[]) ∧ w'.ownsRow base 3 1 v n ((sortNat L).flatMap ncell) ∧ w.grownBy w' v.ownBlock := by
  rcases h.2 with ⟨rfl, h0⟩ | ⟨g, cap, cur, rfl, -⟩
  · have hL : L = [] := List.eq_nil_of_length_eq_zero (by omega)
    subst hL h0
    have hc := AnyM.slices_Sort_int_none sortI none 0 w
    change Calls Tryz.prog 97 _ _ _ at hc
    refine hc.mono ?_
    rintro e w' ⟨rfl, rfl⟩
    exact ⟨rfl, by rw [show sortNat [] = [] by simp [sortNat]]; exact h, World.grownBy.refl _ _⟩
  · have h' := h
    rw [ncell_map] at h'
    have hc := sortZ_any base g n cap _ w (by simpa using hn) hl h'
    refine hc.mono ?_
    rintro e w' ⟨rfl, h1, h2⟩
    rw [sortZ_cast, ← ncell_map] at h1
    exact ⟨rfl, h1, h2⟩
theorem reverseNat_any (base g n cap : Nat) (L : List Nat) (w : World) (hn : L.length = n) (hl : n ≤ 100000) (h : w.ownsRow base 3 1 (.slice (some ⟨g, 0, none⟩) n cap) n (L.flatMap ncell)) :
    Calls Tryz.prog 44 #[.slice (some ⟨g, 0, none⟩) n cap] w fun e w' => e = .returned (.tuple #[]) ∧ w'.ownsRow base 3 1 (.slice (some ⟨g, 0, none⟩) n cap) n (L.reverse.flatMap ncell) ∧ w.grownBy w' (some g) := by
  have h' := h
  rw [ncell_map] at h'
  have hc := reverseZ_any base g n cap _ w (by simpa using hn) hl h'
  refine hc.mono ?_
  rintro e w' ⟨rfl, h1, h2⟩
  rw [← List.map_reverse, ← ncell_map] at h1
  exact ⟨rfl, h1, h2⟩
theorem compact_none (w : World) : Calls Tryz.prog 98 #[.slice none 0 0] w fun e w' => e = .returned (.slice none 0 0) ∧ w = w' := by
  go_enter Tryz.func98, Tryz.ntmps98
  go_wp2_with fail
  go_ret
  exact ⟨rfl, rfl⟩
theorem compactNat_any (base n : Nat) (v : Value) (L : List Nat) (w : World) (hn : L.length = n) (hl : n ≤ 100000) (h : w.ownsRow base 3 1 v n ((sortNat L).flatMap ncell)) :
    Calls Tryz.prog 98 #[v] w fun e w' => ∃ v', e = .returned v' ∧ w'.ownsRow base 3 1 v' (dedup (sortNat L)).length ((dedup (sortNat L)).flatMap ncell) ∧ w.grownBy w' v.ownBlock ∧ v'.ownBlock = v.ownBlock := by
  rcases h.2 with ⟨rfl, h0⟩ | ⟨g, cap, cur, rfl, -, -, hcap, -⟩
  · have hL : L = [] := List.eq_nil_of_length_eq_zero (by omega)
    subst hL h0
    have hs : sortNat [] = [] := by unfold sortNat; simp
    rw [hs] at h ⊢
    refine (compact_none w).mono ?_
    rintro e w' ⟨rfl, rfl⟩
    exact ⟨_, rfl, h, World.grownBy.refl _ _, rfl⟩
  · have h' := h
    rw [ncell_map] at h'
    have hc := compactZ_any base g n cap _ w (by rw [List.length_map, sortNat_len]; exact hn) hl hcap h'
    refine hc.mono ?_
    rintro e w' ⟨rfl, h1, h2⟩
    rw [compact_cast] at h1 ⊢
    rw [List.length_map, ← ncell_map] at h1
    rw [List.length_map]
    exact ⟨_, rfl, h1, h2, rfl⟩
end Go.Proofs.YtcahgmnkphmnhaaGreatDoor
/- Maps told by a function from keys to values: lookup, store, len, clear as equations; over whatever program. -/
namespace Go.Proofs.YtcahgmnkphmnhaaGreatDoor
open Go.RowKit Go.Maps Go.ChangeMaps

/-- any value, as it stands -/
def heldR (v : Value) : Option (DataW Value × List MemPlace) := some (.held v, [])
section
variable {P : Program} {T K E : TypeId} {κ : Type} {kl : κ → Lit} {w w' : World} {b cnt : Nat} {f : κ → Option Value}
/-- what a datum has at each key -/
def Has (kl : κ → Lit) (D : DataW Value) (f : κ → Option Value) : Prop := (∀ k, (f k = none → Maps.has D (kl k) = false) ∧ ∀ v, f k = some v → Maps.has D (kl k) = true ∧ ∀ z, D.atKey (kl k) z = .held v) ∧ ∀ l, Maps.has D l = true → ∃ k, l = kl k ∧ (f k).isSome = true
/-- block b is a map of cnt entries: at each key what f says -/
def IM (P : Program) (K : TypeId) (kl : κ → Lit) (w : World) (b : Nat) (f : κ → Option Value) (cnt : Nat) : Prop :=
  ∃ D : DataW Value, w.ownsMap P K heldR b cnt D ∧ Maps.size D = cnt ∧ Has kl D f
theorem ownsMap_tight {D : DataW Value} {n : Nat} (h : w.ownsMap P K heldR b n D) : w.ownsMap P K heldR b (Maps.size D) D := by
  obtain ⟨es, clock, hb, F, _, rfl⟩ := h
  refine ⟨es, clock, hb, F, ?_, rfl⟩
  simp [Maps.size, length_sorted]
theorem IM.made (w : World) : IM P K kl (w.alloc (.map #[] 0)) w.heap.size (fun _ => none) 0 :=
  ⟨_, World.ownsMap_made w P K heldR, rfl, fun k => ⟨fun _ => rfl, fun v h => by cases h⟩, fun l h => by cases h⟩
theorem IM.block (h : IM P K kl w b f cnt) (hb : w'.heap[b]? = w.heap[b]?) : IM P K kl w' b f cnt := by
  obtain ⟨D, ⟨es, clock, h1, h2⟩, h3⟩ := h
  exact ⟨D, ⟨es, clock, hb.trans h1, h2⟩, h3⟩
theorem IM.lt (h : IM P K kl w b f cnt) : b < w.heap.size := by
  obtain ⟨D, h, _⟩ := h
  exact h.lt
theorem IM.isMap (h : IM P K kl w b f cnt) : ∃ es clock, w.heap[b]? = some (.map es clock) := by
  obtain ⟨D, ⟨es, clock, hb, _⟩, _⟩ := h
  exact ⟨es, clock, hb⟩
theorem IM.look_some (h : IM P K kl w b f cnt) (KL : Keyed P K) (ht : P.underlying T = some (.map K E)) {z : Value} (hz : (zeroValue E).run P w = .ok z w) {key : Value} {k : κ} (hkey : keyOf P K key = some (kl k)) {v : Value} (hf : f k = some v) :
    (Instr.lookup T (.map (some b)) key true).run P w = .ok (.tuple #[v, .bool true]) w ∧ (Instr.lookup T (.map (some b)) key false).run P w = .ok v w := by
  obtain ⟨D, h, _, hh⟩ := h
  obtain ⟨h1, h2⟩ := (hh.1 k).2 v hf
  constructor
  · obtain ⟨v', ps, hrun, hv⟩ := h.look_ok KL ht hz (zd := .held z) (zp := []) rfl hkey
    rw [h2, heldR] at hv
    simp only [Option.some.injEq, Prod.mk.injEq, DataW.held.injEq] at hv
    rw [h1, hv.1] at hrun
    exact hrun
  · obtain ⟨v', ps, hrun, hv⟩ := h.lookup KL ht hz (zd := .held z) (zp := []) rfl hkey
    rw [h2, heldR] at hv
    simp only [Option.some.injEq, Prod.mk.injEq, DataW.held.injEq] at hv
    rw [hv.1] at hrun
    exact hrun
theorem IM.look_none (h : IM P K kl w b f cnt) (KL : Keyed P K) (ht : P.underlying T = some (.map K E)) {z : Value} (hz : (zeroValue E).run P w = .ok z w) {key : Value} {k : κ} (hkey : keyOf P K key = some (kl k)) (hf : f k = none) :
    (Instr.lookup T (.map (some b)) key true).run P w = .ok (.tuple #[z, .bool false]) w ∧ (Instr.lookup T (.map (some b)) key false).run P w = .ok z w := by
  obtain ⟨D, h, _, hh⟩ := h
  have h1 := (hh.1 k).1 hf
  constructor
  · obtain ⟨v', ps, hrun, hv⟩ := h.look_ok KL ht hz (zd := .held z) (zp := []) rfl hkey
    rw [atKey_of_not_has h1, heldR] at hv
    simp only [Option.some.injEq, Prod.mk.injEq, DataW.held.injEq] at hv
    rw [h1, hv.1] at hrun
    exact hrun
  · obtain ⟨v', ps, hrun, hv⟩ := h.lookup KL ht hz (zd := .held z) (zp := []) rfl hkey
    rw [atKey_of_not_has h1, heldR] at hv
    simp only [Option.some.injEq, Prod.mk.injEq, DataW.held.injEq] at hv
    rw [hv.1] at hrun
    exact hrun
/-- f with another value at one key -/
def upd [DecidableEq κ] (f : κ → Option Value) (k : κ) (v : Value) : κ → Option Value := fun x => if x = k then some v else f x
theorem IM.store [DecidableEq κ] (h : IM P K kl w b f cnt) (KL : Keyed P K) (hinj : ∀ x y, kl x = kl y → x = y) (ht : P.underlying T = some (.map K E)) (hn : cnt < maxLen) {key : Value} {k : κ} (hkey : keyOf P K key = some (kl k)) (v : Value) :
    ∃ w', (Instr.mapUpdate T (.map (some b)) key v).run P w = .ok () w' ∧ IM P K kl w' b (upd f k v) (if (f k).isSome then cnt else cnt + 1) ∧ w.grownBy w' (some b) ∧ w'.heap.size = w.heap.size := by
  obtain ⟨D, h, hs, hh⟩ := h
  obtain ⟨w', hrun, h', ht'⟩ := h.store KL ht hn (d := .held v) (ps := []) hkey rfl
  obtain ⟨w2, hrun2, _, hg⟩ := h.update KL ht hn (d := .held v) (ps := []) hkey rfl
  have e : w' = w2 := by
    rw [hrun] at hrun2
    injection hrun2
  subst e
  have hik : WideAt.IsKeyLit (kl k) := KL.key hkey
  have hsz : Maps.size (D.put (kl k) (.held v)) = if (f k).isSome then cnt else cnt + 1 := by
    rw [size_put (h.tidy KL), hs]
    cases hf : f k with
    | none => rw [(hh.1 k).1 hf]; simp
    | some u => rw [((hh.1 k).2 u hf).1]; simp
  refine ⟨w', hrun, ⟨_, ?_, hsz, fun x => ?_, fun l hl => ?_⟩, hg, ?_⟩
  · rw [← hsz]; exact ownsMap_tight h'
  · unfold upd
    by_cases hx : x = k
    · subst hx
      rw [if_pos rfl]
      refine ⟨(fun h => by cases h), fun u hu => ?_⟩
      obtain rfl := Option.some.inj hu
      exact ⟨has_put_same h.isMap hik _, fun z => atKey_put_same h.isMap hik _ z⟩
    · rw [if_neg hx]
      have hne : kl x ≠ kl k := fun e => hx (hinj _ _ e)
      refine ⟨fun h0 => by rw [has_put_other hne]; exact (hh.1 x).1 h0, fun u hu => ?_⟩
      rw [has_put_other hne]
      exact ⟨((hh.1 x).2 u hu).1, fun z => by rw [atKey_put_other hne]; exact ((hh.1 x).2 u hu).2 z⟩
  · by_cases hx : l = kl k
    · exact ⟨k, hx, by unfold upd; rw [if_pos rfl]; rfl⟩
    · rw [has_put_other hx] at hl
      obtain ⟨x, hx', hfx⟩ := hh.2 l hl
      refine ⟨x, hx', ?_⟩
      unfold upd
      split
      · rfl
      · exact hfx
  · obtain ⟨es, clock, es', clock', _, hw⟩ := ht'
    rw [hw]; simp [setBlock]
theorem IM.len_ (h : IM P K kl w b f cnt) (ht : P.underlying T = some (.map K E)) (ty : TypeId) : (Builtin.len_ #[T] ty #[.map (some b)]).run P w = .ok (.int .i64 cnt) w := by
  obtain ⟨D, h, hs, _⟩ := h
  rw [← hs]
  exact h.len ht ty
theorem IM.clear_ (h : IM P K kl w b f cnt) (ht : P.underlying T = some (.map K E)) (ty : TypeId) :
    ∃ w', (Builtin.clear_ #[T] ty #[.map (some b)]).run P w = .ok (.tuple #[]) w' ∧ IM P K kl w' b (fun _ => none) 0 ∧ w.grownBy w' (some b) ∧ w'.heap.size = w.heap.size := by
  obtain ⟨D, ⟨es, clock, hb, F, _⟩, _⟩ := h
  refine ⟨setBlock w b (.map #[] clock), ?_, ⟨.map [], ⟨#[], clock, heap_setBlock_same hb _, ⟨by simp, ?_, by simp⟩, Nat.le_refl _, rfl⟩, rfl, fun k => ⟨fun _ => rfl, fun v h => by cases h⟩, fun l h => by cases h⟩,
    ⟨rfl, rfl, rfl, by simp [setBlock], fun i _ hi => heap_setBlock_other hb _ (fun e => hi (by rw [e]))⟩, by simp [setBlock]⟩
  · simp [Builtin.clear_, run_underlying ht, MapKept.run_getObj_map hb, MapKept.run_setObj_map _ hb, Result.andThen, setBlock]
  · exact MapKept.stamped_empty _
end
end Go.Proofs.YtcahgmnkphmnhaaGreatDoor
/- A device in memory: what lies where. -/
namespace Go.Proofs.YtcahgmnkphmnhaaGreatDoor
open Go.RowKit

/-- what a device is -/
structure Dv where
  S : List Bytes
  O : List Nat
  M : Nat → Bytes
  left : Int
  down : Bool
/-- where it lies -/
structure Lay where
  gs : Nat
  cs : Nat
  gm : Nat
  vo : Value
  sb : Nat → Nat
  sc : Nat → Nat
  mb : Nat → Nat
  mc : Nat → Nat
def natL (k : Nat) : Lit := .int .i64 k
theorem natL_inj (x y : Nat) (h : natL x = natL y) : x = y := by
  unfold natL at h; injection h with _ h; omega
def rowV (g c : Nat) : Value := .slice (some ⟨g, 0, none⟩) 32 c
def memF (O : List Nat) (Y : Lay) (k : Nat) : Option Value := if k ∈ O then some (rowV (Y.mb k) (Y.mc k)) else none
section
variable {w w' : World} {F F' : Nat → Prop} {d : Nat} {D : Dv} {Y : Lay} {live : Nat → Prop}
end
end Go.Proofs.YtcahgmnkphmnhaaGreatDoor
/- The contracts of package device: Len, Down, step, Fail, forget. -/
namespace Go.Proofs.YtcahgmnkphmnhaaGreatDoor
open Go.RowKit

theorem five {w : World} {d : Nat} {a b c e f : Value} {t : TypeId} (h : w.heap[d]? = some (.cells #[a, b, c, e, f] t (0, 0))) :
    (w.cell? ⟨d, 0, none⟩ = some a ∧ w.cell? ⟨d, 1, none⟩ = some b ∧ w.cell? ⟨d, 2, none⟩ = some c ∧ w.cell? ⟨d, 3, none⟩ = some e ∧ w.cell? ⟨d, 4, none⟩ = some f) ∧ ∀ k, w.frozen? ⟨d, k, none⟩ = false := by
  refine ⟨⟨?_, ?_, ?_, ?_, ?_⟩, fun k => by simp [World.frozen?, h]⟩ <;> simp [World.cell?, h]
theorem heap_set5 {w : World} {d k : Nat} {cur : Array Value} {t : TypeId} (h : w.heap[d]? = some (.cells cur t (0, 0))) (v : Value) : (w.setCell ⟨d, k, none⟩ v).heap[d]? = some (.cells (cur.setIfInBounds k v) t (0, 0)) := by
  rw [setCell_eq_setRow w d k cur t _ _ h]
  exact setRow_heap w d cur _ t _ h
theorem Keep.setCell {F : Nat → Prop} {w w' : World} (h : Keep F w w') {p : Addr} (hp : F p.block ∨ w.heap.size ≤ p.block) (u : Value) : Keep F w (w'.setCell p u) :=
  ⟨h.os, h.tape, h.output, by simpa using h.size, fun k hk hn => by
    have : k ≠ p.block := fun e => by rcases hp with h' | h'; exact hn (e ▸ h'); omega
    exact (Below.heap_setCell w' p u k this).trans (h.block k hk hn)⟩
/-- one step of the power -/
def stepD (D : Dv) : Dv := { D with left := max (-1) (D.left - 1), down := D.left == 0 }
end Go.Proofs.YtcahgmnkphmnhaaGreatDoor
/- The contracts of package device: Read and Write. -/
namespace Go.Proofs.YtcahgmnkphmnhaaGreatDoor
open Go.RowKit Go.Maps Go.ChangeMaps

theorem wf_nat {n : Nat} (hn : n ≤ 100000) : (Lit.int .i64 (n : Int)).wf = true := by
  have : (-9223372036854775808 : Int) ≤ n ∧ (n : Int) ≤ 9223372036854775807 := by omega
  simpa [Lit.wf, IntKind.min, IntKind.max, IntKind.bits, IntKind.signed] using this
theorem int_key {n : Nat} (hn : n ≤ 100000) : keyOf Tryz.prog 3 (.int .i64 (n : Int)) = some (natL n) := keyOf_int_mk Tryz.underlying3 (wf_nat hn)
theorem int_keyed : Go.Maps.Keyed Tryz.prog 3 := Go.Maps.int_keyed Tryz.underlying3
theorem zero_bytes (w : World) : (zeroValue 22).run Tryz.prog w = .ok (.slice none 0 0) w := by kernel_rfl
theorem int_info : (Tryz.prog.info? 3).map (fun i => (i.zero, i.size, i.bytes)) = some (some (.int .i64 0), 1, 8) := by kernel_rfl
/-- what a sector reads as -/
def readD (D : Dv) (i : Nat) : Bytes := if i ∈ D.O then D.M i else D.S.getD i []
def InO (D : Dv) (i : Nat) : Prop := i ∈ D.O
/-- a device in which something more is pending -/
def putD (D : Dv) (i : Nat) (b : Bytes) : Dv := { D with O := if i ∈ D.O then D.O else D.O ++ [i], M := fun k => if k = i then b else D.M k }
def growF (F : Nat → Prop) (w w' : World) : Nat → Prop := fun k => (F k ∨ w.heap.size ≤ k) ∧ k < w'.heap.size
theorem putD_mem (D : Dv) (i : Nat) (b : Bytes) (k : Nat) : k ∈ (putD D i b).O ↔ k ∈ D.O ∨ k = i := by
  unfold putD
  by_cases hi : i ∈ D.O
  · simp only [if_pos hi]
    exact ⟨.inl, fun h => by rcases h with h | rfl; exact h; exact hi⟩
  · simp [if_neg hi]
end Go.Proofs.YtcahgmnkphmnhaaGreatDoor
/- slices.Sorted(maps.Keys(m)) of maps from numbers to booleans. -/
namespace Go.Proofs.YtcahgmnkphmnhaaGreatDoor
open Go.RowKit Go.Maps Go.ChangeMaps Go.Sort Go.Shelf

section
variable {P : Program} {K : TypeId} {w : World} {b cnt : Nat} {f : Nat → Option Value}
/-- the keys of a map that is told by a function -/
theorem IM.keys (h : IM P K natL w b f cnt) (hK : P.underlying K = some (.int .i64)) :
    ∃ D : DataW Value, w.ownsMap P K heldR b cnt D ∧ Maps.size D = cnt ∧ (intKeys D).Nodup ∧ (∀ x ∈ intKeys D, ∃ k : Nat, x = k ∧ (f k).isSome = true) ∧ ∀ k, (f k).isSome = true → (k : Int) ∈ intKeys D := by
  obtain ⟨D, hown, hs, hh⟩ := h
  have hK2 := Go.Maps.int_keyed hK
  refine ⟨D, hown, hs, ?_⟩
  obtain ⟨L, hD, hp, _⟩ := hown.entries hK2
  obtain ⟨L', hD', hko⟩ := hown.keysOf
  obtain rfl : L = L' := by rw [hD] at hD'; simpa using hD'
  subst hD
  have hint : ∀ p ∈ L, ∃ x, p.1 = .int .i64 x := fun p hp => by
    obtain ⟨v, hv⟩ := hko p hp
    obtain ⟨x, _, hx, _⟩ := Maps.keyOf_i64 hK hv
    exact ⟨x, hx⟩
  clear hown hD'
  have hmem : ∀ x : Int, x ∈ intKeys (.map L) ↔ has (.map L) (.int .i64 x) = true := fun x => by
    rw [has_eq, List.any_eq_true]
    show x ∈ L.map (fun p => Go.intOf p.1) ↔ _
    rw [List.mem_map]
    constructor
    · rintro ⟨p, hp', rfl⟩
      obtain ⟨a, ha⟩ := hint p hp'
      exact ⟨p, hp', by rw [ha]; simp [Lit.sameKey, Go.intOf]⟩
    · rintro ⟨p, hp', hs'⟩
      obtain ⟨a, ha⟩ := hint p hp'
      rw [ha] at hs'
      exact ⟨p, hp', by rw [ha]; simpa [Lit.sameKey, Go.intOf] using hs'⟩
  refine ⟨?_, fun x hx => ?_, fun k hk => ?_⟩
  · show (L.map fun p => Go.intOf p.1).Nodup
    refine List.pairwise_map.2 (hp.imp_of_mem fun {p q} hp' hq' hne e => hne ?_)
    obtain ⟨a, ha⟩ := hint p hp'
    obtain ⟨c, hc⟩ := hint q hq'
    rw [ha, hc] at e ⊢
    exact congrArg _ e
  · obtain ⟨k, e, hk⟩ := hh.2 _ ((hmem x).1 hx)
    unfold natL at e
    injection e with _ e
    exact ⟨k, e, hk⟩
  · obtain ⟨v, hv⟩ := Option.isSome_iff_exists.1 hk
    exact (hmem k).2 ((hh.1 k).2 v hv).1
end
/-- a list of numbers that rises, with just the keys of f -/
structure KeysOf (f : Nat → Option Value) (S : List Nat) : Prop where
  up : S.Pairwise (· < ·)
  mem : ∀ k, k ∈ S ↔ (f k).isSome = true
theorem keys_sorted {f : Nat → Option Value} {L ss : List Int} (hp : ss.Perm L) (hn : L.Nodup) (h1 : ∀ x ∈ L, ∃ k : Nat, x = k ∧ (f k).isSome = true) (h2 : ∀ k, (f k).isSome = true → (k : Int) ∈ L) :
    ∃ S : List Nat, ss.mergeSort leI = S.map (fun i : Nat => (i : Int)) ∧ KeysOf f S := by
  have tr : ∀ a b c : Int, leI a b = true → leI b c = true → leI a c = true := fun a b c h1 h2 => by simp only [leI, decide_eq_true_eq] at *; exact Int.le_trans h1 h2
  have tot : ∀ a b : Int, (leI a b || leI b a) = true := fun a b => by simp only [leI, Bool.or_eq_true, decide_eq_true_eq]; exact Int.le_total a b
  have hpm : (ss.mergeSort leI).Perm L := (List.mergeSort_perm ss leI).trans hp
  have hs := List.pairwise_mergeSort tr tot ss
  have hnd : (ss.mergeSort leI).Nodup := hpm.nodup_iff.2 hn
  have hm : ∀ x, x ∈ ss.mergeSort leI ↔ x ∈ L := fun x => hpm.mem_iff
  generalize ss.mergeSort leI = T at *
  have hcast : T = (T.map Int.toNat).map (fun i : Nat => (i : Int)) := by
    rw [List.map_map]
    conv => lhs; rw [← List.map_id T]
    refine List.map_congr_left fun x hx => ?_
    obtain ⟨k, rfl, _⟩ := h1 x ((hm x).1 hx)
    simp
  refine ⟨T.map Int.toNat, hcast, ?_, fun k => ?_⟩
  · refine List.pairwise_map.2 ?_
    refine (hs.and hnd).imp_of_mem fun {a b} ha hb hab => ?_
    obtain ⟨x, rfl, _⟩ := h1 a ((hm a).1 ha)
    obtain ⟨y, rfl, _⟩ := h1 b ((hm b).1 hb)
    have e1 := of_decide_eq_true hab.1
    have e2 := hab.2
    simp only [Int.toNat_natCast]
    omega
  · rw [List.mem_map]
    constructor
    · rintro ⟨x, hx, rfl⟩
      obtain ⟨y, rfl, hy⟩ := h1 x ((hm x).1 hx)
      simpa using hy
    · intro hk
      exact ⟨(k : Int), (hm _).2 (h2 k hk), by simp⟩
theorem sorts_int (m : Nat) : AnyZI.SortsIn Tryz.prog sortedI_ren Fence.wide m :=
  ⟨fun blk off cap ss W hH hblk hsz => callsIn_wide.2 (AnyM.slices_Sort_int sortI blk off cap ss W hH hblk hsz),
   fun p cap W => callsIn_wide.2 (AnyM.slices_Sort_int_none sortI p cap W)⟩
end Go.Proofs.YtcahgmnkphmnhaaGreatDoor
/- Plain facts on applying changes, and turning them. No program in sight. -/
namespace Go.Proofs.YtcahgmnkphmnhaaGreatDoor

/-- one change applied: a number of an error, or the bytes -/
def apply1 (b : Bytes) (c : Chg) : Except Int Bytes :=
  if c.at_ < 0 ∨ (b.length : Int) < c.at_ ∨ (b.length : Int) - c.at_ < c.old.length then .error 1
  else if c.old.length ≠ c.new.length then .error 3
  else if (b.drop c.at_.toNat).take c.old.length ≠ c.old then .error 6
  else .ok (splice b c.at_.toNat c.new)
/-- changes applied, one after the other -/
def applyL : Bytes → List Chg → Except Int Bytes
  | b, [] => .ok b
  | b, c :: L => match apply1 b c with
    | .error e => .error e
    | .ok b' => applyL b' L
/-- changes turned -/
def turnC (c : Chg) : Chg := ⟨c.at_, c.new, c.old⟩
def turnL (L : List Chg) : List Chg := L.reverse.map turnC

theorem apply1_len {b b' : Bytes} {c : Chg} (h : apply1 b c = .ok b') : b'.length = b.length := by
  unfold apply1 at h
  split at h
  · cases h
  · split at h
    · cases h
    · split at h
      · cases h
      · rename_i h1 h2 h3
        injection h with h
        subst h
        exact length_splice _ _ _ (by omega)
theorem apply1_ok (b old new : Bytes) (j : Nat) (hn : old.length = new.length) (hj : j + old.length ≤ b.length) (ho : (b.drop j).take old.length = old) : apply1 b ⟨j, old, new⟩ = .ok (splice b j new) := by
  unfold apply1
  simp only [Int.toNat_natCast]
  rw [if_neg (by omega), if_neg (by omega), if_neg (by simpa using ho)]
theorem applyL_append (b : Bytes) (L M : List Chg) : applyL b (L ++ M) = match applyL b L with
    | .error e => .error e
    | .ok b' => applyL b' M := by
  induction L generalizing b with
  | nil => rfl
  | cons c L ih =>
    simp only [List.cons_append, applyL]
    cases apply1 b c with
    | error e => rfl
    | ok b' => exact ih b'
theorem applyL_one (b : Bytes) (c : Chg) : applyL b [c] = apply1 b c := by
  simp only [applyL]
  cases apply1 b c <;> rfl
theorem turnL_append (L M : List Chg) : turnL (L ++ M) = turnL M ++ turnL L := by simp [turnL]
theorem turnL_length (L : List Chg) : (turnL L).length = L.length := by simp [turnL]
theorem take_drop_ext (x y : Bytes) (i r : Nat) (h : ∀ p, i ≤ p → p < i + r → x[p]? = y[p]?) : (x.drop i).take r = (y.drop i).take r := by
  apply List.ext_getElem?
  intro p
  rw [List.getElem?_take, List.getElem?_take]
  split
  · rw [List.getElem?_drop, List.getElem?_drop]; exact h _ (by omega) (by omega)
  · rfl
theorem splice_read (l x : Bytes) (o p : Nat) (h : o + x.length ≤ l.length) : (splice l o x)[p]? = if o ≤ p ∧ p < o + x.length then x[p - o]? else l[p]? := by
  split
  · rename_i hp
    have := splice_get l x o (p - o) h (by omega)
    rwa [show o + (p - o) = p from by omega] at this
  · rename_i hp
    exact (splice_same l x o p h (by omega)).symm
theorem cut_read (x : Bytes) (i r p : Nat) (h1 : i ≤ p) (h2 : p < i + r) : ((x.drop i).take r)[p - i]? = x[p]? := by
  rw [List.getElem?_take, if_pos (by omega), List.getElem?_drop]
  congr 1; omega
/-- what has changed makes of the old the new -/
theorem apply_diffF (a b : Bytes) (hl : a.length = b.length) (f : Nat) : ∀ i cur, a.length - i ≤ f → cur.length = a.length → (∀ p, cur[p]? = if p < i then b[p]? else a[p]?) → applyL cur (diffF a b f i) = .ok b := by
  have hend : ∀ i (cur : Bytes), a.length ≤ i → cur.length = a.length → (∀ p, cur[p]? = if p < i then b[p]? else a[p]?) → cur = b := by
    intro i cur hi hc hp
    apply List.ext_getElem?
    intro p
    rw [hp p]
    split
    · rfl
    · rw [List.getElem?_eq_none (by omega), List.getElem?_eq_none (by omega)]
  induction f with
  | zero =>
    intro i cur hf hc hp
    simp only [diffF, applyL]
    rw [hend i cur (by omega) hc hp]
  | succ f ih =>
    intro i cur hf hc hp
    simp only [diffF]
    by_cases hi : i < a.length
    · rw [if_pos hi]
      have hr := runAt_le a b i hl (by omega)
      have hstop : i + runAt a b i < a.length → a[i + runAt a b i]? = b[i + runAt a b i]? := runAt_stop a b i hl
      generalize runAt a b i = r at *
      by_cases h0 : 0 < r
      · rw [if_pos h0, applyL_append, applyL_one]
        have ho : ((a.drop i).take r).length = r := by simp; omega
        have hn : ((b.drop i).take r).length = r := by simp; omega
        have hm : (cur.drop i).take ((a.drop i).take r).length = (a.drop i).take r := by
          rw [ho]
          exact take_drop_ext _ _ _ _ fun p h1 h2 => by rw [hp p, if_neg (by omega)]
        rw [apply1_ok cur _ _ i (by omega) (by omega) hm]
        dsimp only
        refine ih _ _ (by omega) (by rw [length_splice _ _ _ (by omega), hc]) fun p => ?_
        rw [splice_read _ _ _ _ (by omega), hn]
        by_cases h1 : i ≤ p ∧ p < i + r
        · rw [if_pos h1, if_pos (by omega), cut_read _ _ _ _ h1.1 h1.2]
        · rw [if_neg h1, hp p]
          by_cases h2 : p < i
          · rw [if_pos h2, if_pos (by omega)]
          · rw [if_neg h2]
            by_cases h3 : p < i + r + 1
            · rw [if_pos h3]
              obtain rfl : p = i + r := by omega
              by_cases h4 : i + r < a.length
              · exact hstop h4
              · rw [List.getElem?_eq_none (by omega), List.getElem?_eq_none (by omega)]
            · rw [if_neg h3]
      · obtain rfl : r = 0 := by omega
        rw [if_neg h0, List.nil_append]
        refine ih _ _ (by omega) hc fun p => ?_
        rw [hp p]
        by_cases h2 : p < i
        · rw [if_pos h2, if_pos (by omega)]
        · rw [if_neg h2]
          by_cases h3 : p < i + 0 + 1
          · rw [if_pos h3]
            obtain rfl : p = i := by omega
            exact hstop (by omega)
          · rw [if_neg h3]
    · rw [if_neg hi]
      simp only [applyL]
      rw [hend i cur (by omega) hc hp]
theorem apply_diffL (a b : Bytes) (hl : a.length = b.length) : applyL a (diffL a b) = .ok b :=
  apply_diffF a b hl _ 0 a (by omega) rfl fun p => by rw [if_neg (by omega)]
/-- .. and turned, of the new the old -/
theorem apply_turnF (a b : Bytes) (hl : a.length = b.length) (f : Nat) : ∀ i cur, a.length - i ≤ f → cur.length = a.length → (∀ p, i ≤ p → cur[p]? = b[p]?) →
    ∃ c', applyL cur (turnL (diffF a b f i)) = .ok c' ∧ c'.length = a.length ∧ ∀ p, c'[p]? = if p < i then cur[p]? else a[p]? := by
  have hend : ∀ i (cur : Bytes), a.length ≤ i → cur.length = a.length → ∀ p, cur[p]? = if p < i then cur[p]? else a[p]? := by
    intro i cur hi hc p
    split
    · rfl
    · rw [List.getElem?_eq_none (by omega), List.getElem?_eq_none (by omega)]
  induction f with
  | zero =>
    intro i cur hf hc hp
    exact ⟨cur, rfl, hc, hend i cur (by omega) hc⟩
  | succ f ih =>
    intro i cur hf hc hp
    simp only [diffF]
    by_cases hi : i < a.length
    · rw [if_pos hi]
      have hr := runAt_le a b i hl (by omega)
      have hstop : i + runAt a b i < a.length → a[i + runAt a b i]? = b[i + runAt a b i]? := runAt_stop a b i hl
      generalize runAt a b i = r at *
      obtain ⟨c1, h1, hl1, hp1⟩ := ih (i + r + 1) cur (by omega) hc (fun p h => hp p (by omega))
      rw [turnL_append, applyL_append, h1]
      dsimp only
      by_cases h0 : 0 < r
      · rw [if_pos h0]
        have ho : ((a.drop i).take r).length = r := by simp; omega
        have hn : ((b.drop i).take r).length = r := by simp; omega
        have hm : (c1.drop i).take ((b.drop i).take r).length = (b.drop i).take r := by
          rw [hn]
          exact take_drop_ext _ _ _ _ fun p h1 h2 => by rw [hp1 p, if_pos (by omega), hp p (by omega)]
        refine ⟨splice c1 i ((a.drop i).take r), ?_, by rw [length_splice _ _ _ (by omega), hl1], fun p => ?_⟩
        · simp only [turnL, List.reverse_cons, List.reverse_nil, List.nil_append, List.map_cons, List.map_nil, turnC]
          rw [applyL_one]
          exact apply1_ok c1 _ _ i (by omega) (by omega) hm
        · rw [splice_read _ _ _ _ (by omega), ho]
          by_cases h2 : i ≤ p ∧ p < i + r
          · rw [if_pos h2, if_neg (by omega), cut_read _ _ _ _ h2.1 h2.2]
          · rw [if_neg h2, hp1 p]
            by_cases h3 : p < i
            · rw [if_pos (by omega), if_pos h3]
            · rw [if_neg h3]
              by_cases h4 : p < i + r + 1
              · rw [if_pos h4, hp p (by omega)]
                obtain rfl : p = i + r := by omega
                by_cases h5 : i + r < a.length
                · exact (hstop h5).symm
                · rw [List.getElem?_eq_none (by omega), List.getElem?_eq_none (by omega)]
              · rw [if_neg h4]
      · obtain rfl : r = 0 := by omega
        rw [if_neg h0]
        refine ⟨c1, rfl, hl1, fun p => ?_⟩
        rw [hp1 p]
        by_cases h3 : p < i
        · rw [if_pos (by omega), if_pos h3]
        · rw [if_neg h3]
          by_cases h4 : p < i + 0 + 1
          · rw [if_pos h4, hp p (by omega)]
            obtain rfl : p = i := by omega
            exact (hstop (by omega)).symm
          · rw [if_neg h4]
    · rw [if_neg hi]
      exact ⟨cur, rfl, hc, hend i cur (by omega) hc⟩
theorem apply_turnL (a b : Bytes) (hl : a.length = b.length) : applyL b (turnL (diffL a b)) = .ok a := by
  obtain ⟨c, h, hc, hp⟩ := apply_turnF a b hl a.length 0 b (by omega) hl.symm (fun _ _ => rfl)
  have : c = a := List.ext_getElem? fun p => by rw [hp p, if_neg (by omega)]
  rw [this] at h; exact h
/-- where a change begins, and that two do not touch -/
theorem diffF_apart (a b : Bytes) (hl : a.length = b.length) (f : Nat) : ∀ i, ∀ k c d, (diffF a b f i)[k]? = some c → (diffF a b f i)[k + 1]? = some d → c.at_ + (c.old.length : Int) < d.at_ := by
  induction f with
  | zero => intro i k c d h; simp [diffF] at h
  | succ f ih =>
    intro i k c d h1 h2
    simp only [diffF] at h1 h2
    split at h1
    · rename_i hi
      rw [if_pos hi] at h2
      split at h1
      · rename_i h0
        rw [if_pos h0] at h2
        cases k with
        | zero =>
          simp only [List.singleton_append, List.getElem?_cons_zero, Option.some.injEq, List.getElem?_cons_succ] at h1 h2
          obtain ⟨j, r, hj⟩ := diffF_mem a b hl f _ d (List.mem_of_getElem? h2)
          have hle := runAt_le a b i hl (by omega)
          have ho : ((a.drop i).take (runAt a b i)).length = runAt a b i := by simp; omega
          subst h1
          rw [hj.at_]
          have := hj.lo
          dsimp only
          rw [ho]
          omega
        | succ k =>
          simp only [List.singleton_append, List.getElem?_cons_succ] at h1 h2
          exact ih _ k c d h1 h2
      · rename_i h0
        rw [if_neg h0] at h2
        exact ih _ k c d h1 h2
    · simp at h1
end Go.Proofs.YtcahgmnkphmnhaaGreatDoor
/- The contract of diff.Apply. -/
namespace Go.Proofs.YtcahgmnkphmnhaaGreatDoor
open Go.RowKit

/-- the cells of one change, wherever its bytes lie -/
structure ChAny (w : World) (g off i : Nat) (c : Chg) (Ao An : Option Addr) (co cn : Nat) : Prop where
  at_ : w.cell? ⟨g, off + i * 3, none⟩ = some (.int .i64 c.at_)
  old : w.cell? ⟨g, off + i * 3 + 1, none⟩ = some (.slice Ao c.old.length co)
  new : w.cell? ⟨g, off + i * 3 + 2, none⟩ = some (.slice An c.new.length cn)
  rdO : Rd w Ao c.old
  rdN : Rd w An c.new
  leO : c.old.length ≤ co
  leN : c.new.length ≤ cn
/-- the slice at A has the changes L, wherever their bytes lie -/
def RdG (w : World) (A : Option Addr) (L : List Chg) : Prop := ∀ i (h : i < L.length), ∃ g off Ao An co cn, A = some ⟨g, off, none⟩ ∧ ChAny w g off i L[i] Ao An co cn
theorem RdC.rdg {w : World} {A : Option Addr} {L : List Chg} (h : RdC w A L) : RdG w A L := fun i hi => by
  obtain ⟨g, off, go, co, gn, cn, hA, hc⟩ := h i hi
  exact ⟨g, off, _, _, co, cn, hA, hc.at_, hc.old, hc.new, hc.rowO.rd, hc.rowN.rd, hc.rowO.le.1, hc.rowN.le.1⟩
theorem ChAny.below {w w' : World} {g off i : Nat} {c : Chg} {Ao An : Option Addr} {co cn : Nat} (h : ChAny w g off i c Ao An co cn) (hb : Below w.heap.size w w') : ChAny w' g off i c Ao An co cn :=
  ⟨(hb.cell (block_lt_of_cell h.at_)).trans h.at_, (hb.cell (block_lt_of_cell h.old)).trans h.old, (hb.cell (block_lt_of_cell h.new)).trans h.new, h.rdO.below hb, h.rdN.below hb, h.leO, h.leN⟩
theorem RdG.below {w w' : World} {A : Option Addr} {L : List Chg} (h : RdG w A L) (hb : Below w.heap.size w w') : RdG w' A L := fun i hi => by
  obtain ⟨g, off, Ao, An, co, cn, hA, hc⟩ := h i hi
  exact ⟨g, off, Ao, An, co, cn, hA, hc.below hb⟩

/-- b[i:k] of bytes, wherever i stands -/
theorem run_cut_any (A : Option Addr) (n c i k : Nat) (hik : i ≤ k) (hkc : k ≤ c) (W : World) :
    (Instr.sliceAt 22 (.slice A n c) (some (.int .i64 i)) (some (.int .i64 k)) none).run Tryz.prog W = .ok (.slice (if c = i then A else A.map (·.add i)) (k - i) (c - i)) W := by
  obtain ⟨i0, hi0, hz0, hz1, hz2⟩ := info_parts byte_info
  simp [Instr.sliceAt, Instr.slice, Instr.sliceBounds, Instr.sliceBound, run_underlying Tryz.underlying22, asIntOf, sizeOf, typeInfo, hi0, hz1, hik, hkc]
/-- b[i:] of bytes -/
theorem run_tail_any (A : Option Addr) (n c i : Nat) (hin : i ≤ n) (W : World) :
    (Instr.sliceAt 22 (.slice A n c) (some (.int .i64 i)) none none).run Tryz.prog W = .ok (.slice (if c = i then A else A.map (·.add i)) (n - i) (c - i)) W := by
  obtain ⟨i0, hi0, hz0, hz1, hz2⟩ := info_parts byte_info
  simp [Instr.sliceAt, Instr.slice, Instr.sliceBounds, Instr.sliceBound, run_underlying Tryz.underlying22, asIntOf, sizeOf, typeInfo, hi0, hz1, hin]

end Go.Proofs.YtcahgmnkphmnhaaGreatDoor
/- The contract of Write. -/
namespace Go.Proofs.YtcahgmnkphmnhaaGreatDoor
open Go.RowKit Go.Maps Go.ChangeMaps

section
variable {P : Program} {T K E : TypeId} {κ : Type} [DecidableEq κ] {kl : κ → Lit} {b cnt : Nat} {f : κ → Option Value}
theorem step_store_im (w : World) {ops : Array Oper} {o : Oper} {a : Act} {KK : Act → World → Prop} {Q : Exit → Act → World → Prop} {Z : Prop} (hgd : o.guard = none) (m x v : Operand) (hop : o.op = Op.mapUpdate T m x v)
    (KL : Keyed P K) (hinj : ∀ x y, kl x = kl y → x = y) (ht : P.underlying T = some (.map K E)) (hm : a.eval m = .map (some b)) (h : IM P K kl w b f cnt) (hn : cnt < maxLen) (key val : Value) (k : κ) (hx : a.eval x = key) (hv : a.eval v = val) (hkey : keyOf P K key = some (kl k))
    (hK : ∀ w', IM P K kl w' b (upd f k val) (if (f k).isSome then cnt else cnt + 1) → w.grownBy w' (some b) → w'.heap.size = w.heap.size → KK (a.put o.dst undef) w') :
    if Region.wanted o (yielded ops a.tmps) = true then Oper.wp P o a w KK Q else Z := by
  have hw : Region.wanted o (yielded ops a.tmps) = true := by simp [Region.wanted, hgd]
  rw [if_pos hw]
  obtain ⟨w', hrun, r1, r2, r3⟩ := h.store KL hinj ht hn hkey val
  unfold Oper.wp
  simp [execOp, hop, hm, hx, hv, hrun, Result.andThen]
  exact hK w' r1 r2 r3
end
/-- how Write's error reads -/
def powV (left : Int) : Value := if left = 0 then .iface 79 (.int .i64 9) else .nilIface
theorem memF_some (O : List Nat) (Y : Lay) (i : Nat) : (if (memF O Y i).isSome = true then O.length else O.length + 1) = (if i ∈ O then O else O ++ [i]).length := by
  unfold memF
  by_cases h : i ∈ O
  · simp [h]
  · simp [h]
theorem nodup_le : ∀ (n : Nat) (l : List Nat), l.Nodup → (∀ x ∈ l, x < n) → l.length ≤ n
  | 0, l, _, h => by
    cases l with
    | nil => simp
    | cons x r => have := h x (by simp); omega
  | n + 1, l, hd, h => by
    by_cases hm : n ∈ l
    · have h1 := nodup_le n (l.erase n) (hd.erase n) (fun x hx => by
        have h2 := (hd.mem_erase_iff).1 hx
        have := h x h2.2
        omega)
      rw [List.length_erase_of_mem hm] at h1
      omega
    · have h1 := nodup_le n l hd (fun x hx => by
        have := h x hx
        have : x ≠ n := fun e => hm (e ▸ hx)
        omega)
      omega
end Go.Proofs.YtcahgmnkphmnhaaGreatDoor
/- The contract of diff.Pages. -/
namespace Go.Proofs.YtcahgmnkphmnhaaGreatDoor
open Go.RowKit Go.Maps Go.ChangeMaps

/-- a set of numbers, as a map has it -/
def setF (S : Nat → Bool) (q : Nat) : Option Value := if S q = true then some (.bool true) else none
theorem setF_upd (S : Nat → Bool) (k : Nat) : upd (setF S) k (.bool true) = setF (fun q => S q || (k == q)) := by
  funext x
  unfold upd setF
  by_cases hx : x = k
  · subst hx; simp
  · rw [if_neg hx]
    have : (k == x) = false := by simpa using fun e => hx e.symm
    simp [this]
theorem IM.size_le {P : Program} {K : TypeId} {w : World} {b cnt : Nat} {f : Nat → Option Value} (h : IM P K natL w b f cnt) (hK : P.underlying K = some (.int .i64)) (n : Nat) (hn : ∀ k, (f k).isSome = true → k < n) : cnt ≤ n := by
  obtain ⟨D, hown, hs, hnd, h1, _⟩ := h.keys hK
  have hl : (intKeys D).length = cnt := by
    obtain ⟨L, hD, _⟩ := hown.entries (Go.Maps.int_keyed hK)
    subst hD
    rw [← hs]; simp [intKeys, Maps.size]
  have hm : ((intKeys D).map Int.toNat).Nodup := by
    refine List.pairwise_map.2 (hnd.imp_of_mem fun {a b} ha hb hne e => hne ?_)
    obtain ⟨x, rfl, _⟩ := h1 a ha
    obtain ⟨y, rfl, _⟩ := h1 b hb
    simp only [Int.toNat_natCast] at e
    rw [e]
  have := nodup_le n ((intKeys D).map Int.toNat) hm (fun x hx => by
    obtain ⟨y, hy, rfl⟩ := List.mem_map.1 hx
    obtain ⟨z, rfl, hz⟩ := h1 y hy
    exact hn z hz)
  rw [List.length_map, hl] at this
  exact this
/-- the pages that a change touches, of its first j bytes; that changes touch -/
def tchC (a : Nat) (j q : Nat) : Bool := (List.range j).any fun i => (a + i) / 32 == q
theorem tchC_succ (a j q : Nat) : tchC a (j + 1) q = (tchC a j q || ((a + j) / 32 == q)) := by
  unfold tchC
  rw [List.range_succ, List.any_append]; simp
def tchL (L : List Chg) (q : Nat) : Bool := L.any fun c => tchC c.at_.toNat c.new.length q
theorem tchL_succ (L : List Chg) (k q : Nat) (hk : k < L.length) : tchL (L.take (k + 1)) q = (tchL (L.take k) q || tchC L[k].at_.toNat L[k].new.length q) := by
  unfold tchL
  rw [List.take_succ_eq_append_getElem hk, List.any_append]; simp
/-- a change that lies within an image -/
def InC (c : Chg) : Prop := 0 ≤ c.at_ ∧ c.at_ < 6400 ∧ c.at_ + c.new.length ≤ 6400
theorem tchC_lt {a j q : Nat} (h : tchC a j q = true) (hj : a + j ≤ 6400) : q < 200 := by
  obtain ⟨i, hi, e⟩ := List.any_eq_true.1 h
  have := List.mem_range.1 hi
  have := beq_iff_eq.1 e
  omega
theorem tchL_lt {L : List Chg} (hL : ∀ c ∈ L, InC c) {q : Nat} (h : tchL L q = true) : q < 200 := by
  obtain ⟨c, hc, e⟩ := List.any_eq_true.1 h
  obtain ⟨a, b, d⟩ := hL c hc
  exact tchC_lt e (by omega)
structure DpSt (w wr : World) (mb : Nat) (S : Nat → Bool) : Prop where
  im : ∃ cnt, IM Tryz.prog 3 natL wr mb (setF S) cnt ∧ cnt ≤ 200
  bel : Below w.heap.size w wr
  new : w.heap.size ≤ mb
/-- what diff.Pages says -/
def DpAns (w : World) (L : List Chg) (e : Ending) (w' : World) : Prop := ∃ (v : Value) (S : List Nat), e = .returned (.tuple #[v, .nilIface]) ∧ S.Pairwise (· < ·) ∧ (∀ k, k ∈ S ↔ tchL L k = true) ∧ w'.ownsRow w.heap.size 3 1 v S.length (S.map fun i : Nat => .int .i64 (i : Int)) ∧ Below w.heap.size w w'
theorem dpAns_mk {w w' : World} {L : List Chg} {e : Ending} {v : Value} {S : List Nat} (h : e = .returned (.tuple #[v, .nilIface])) (hh : S.Pairwise (· < ·) ∧ (∀ k, k ∈ S ↔ tchL L k = true) ∧ w'.ownsRow w.heap.size 3 1 v S.length (S.map fun i : Nat => .int .i64 (i : Int)) ∧ Below w.heap.size w w') : DpAns w L e w' := ⟨v, S, h, hh⟩
theorem own_base' {w : World} {b b' : Nat} {e : TypeId} {size n : Nat} {v : Value} {xs : List Value} (h : w.ownsRow b e size v n xs) (hb : b' ≤ b) : w.ownsRow b' e size v n xs := by
  refine ⟨h.1, ?_⟩
  rcases h.2 with h1 | ⟨g, cap, cur, a1, a2, a3⟩
  · exact .inl h1
  · exact .inr ⟨g, cap, cur, a1, Nat.le_trans hb a2, a3⟩
end Go.Proofs.YtcahgmnkphmnhaaGreatDoor
/- Package reach: from: who is led to, by the least way: what its walk holds. -/
namespace Go.Proofs.YtcahgmnkphmnhaaGreatDoor
open Go.RowKit Go.Maps Go.ChangeMaps

def pv (W : Ways) : Nat → Option Value := fun k => (W k).map fun p => .int .i64 (par p : Int)
theorem pv_upd (W : Ways) (y : Nat) (p : List Nat) : upd (pv W) y (.int .i64 (par p : Int)) = pv (wset W y p) := by
  funext q; unfold upd pv wset
  by_cases e : q = y
  · rw [if_pos e, if_pos e]; rfl
  · rw [if_neg e, if_neg e]
theorem zero_int (w : World) : (zeroValue 3).run Tryz.prog w = .ok (.int .i64 0) w := by kernel_rfl
/-- a row of one's own beside a map -/
theorem own_map {w w' : World} {base n mb : Nat} {v : Value} {xs : List Value} (h : w.ownsRow base 3 1 v n xs) (hm : ∃ es clock, w.heap[mb]? = some (.map es clock)) (hk : Keep (fun q => q = mb) w w') : w'.ownsRow base 3 1 v n xs :=
  ownsRow_block h fun q hq => by
    refine hk.block q (h.lt q hq).2 fun e => ?_
    obtain ⟨es, clock, hm⟩ := hm
    rcases h.2 with ⟨he, -⟩ | ⟨g, cap, cur, he, -, hh, -⟩
    · rw [he] at hq; cases hq
    · rw [he] at hq
      have : g = q := by simpa [Value.ownBlock] using hq
      rw [this, e, hm] at hh; cases hh
theorem own_ne {w : World} {base n mb : Nat} {v : Value} {xs : List Value} (h : w.ownsRow base 3 1 v n xs) (hm : ∃ es clock, w.heap[mb]? = some (.map es clock)) : ∀ q, v.ownBlock = some q → q ≠ mb := fun q hq e => by
  obtain ⟨es, clock, hm⟩ := hm
  rcases h.2 with ⟨he, -⟩ | ⟨g, cap, cur, he, -, hh, -⟩
  · rw [he] at hq; cases hq
  · rw [he] at hq
    have : g = q := by simpa [Value.ownBlock] using hq
    rw [this, e, hm] at hh; cases hh
theorem own_other {w w' : World} {base n : Nat} {v : Value} {xs : List Value} {b : Option Nat} (h : w.ownsRow base 3 1 v n xs) (hg : w.grownBy w' b) (hn : ∀ q, v.ownBlock = some q → b ≠ some q) : w'.ownsRow base 3 1 v n xs :=
  ownsRow_block h fun q hq => hg.block q (h.lt q hq).2 fun e => hn q hq e.symm
section
variable {w0 w wr w' : World} {F : Nat → Prop} {h mb : Nat} {l : Bytes} {W : Ways}
/-- the map of the ways so far, beside the heap -/
structure FrSt (w0 w wr : World) (F : Nat → Prop) (h mb : Nat) (l : Bytes) (W : Ways) : Prop where
  hp : Hp w0 wr F h l
  bel : Below w.heap.size w wr
  new : w.heap.size ≤ mb
  nf : ¬ F mb
  w0w : w0.heap.size ≤ w.heap.size
  im : ∃ cnt, IM Tryz.prog 3 natL wr mb (pv W) cnt ∧ cnt ≤ 41
theorem FrSt.isMap (hs : FrSt w0 w wr F h mb l W) : ∃ es clock, wr.heap[mb]? = some (.map es clock) := by
  obtain ⟨cnt, him, -⟩ := hs.im
  exact him.isMap
theorem FrSt.below (hs : FrSt w0 w wr F h mb l W) (hb : Below wr.heap.size wr w') : FrSt w0 w w' F h mb l W := by
  obtain ⟨cnt, him, hc⟩ := hs.im
  exact ⟨hs.hp.below hb, hs.bel.trans (hb.mono hs.bel.size), hs.new, hs.nf, hs.w0w, cnt, him.block (hb.block _ him.lt), hc⟩
theorem Hp.grown (hp : Hp w0 wr F h l) {b : Option Nat} (hg : wr.grownBy w' b) (hb : ∀ q, b = some q → w0.heap.size ≤ q ∧ ¬ F q) : Hp w0 w' F h l := by
  have hk : Keep (fun q => b = some q) wr w' := ⟨hg.os, hg.tape, hg.output, hg.size, fun k hk hn => hg.block k hk (fun e => hn e.symm)⟩
  exact hp.keep hk (fun k hf e => (hb k e).2 hf) (fun k e => (hb k e).1)
theorem FrSt.grown (hs : FrSt w0 w wr F h mb l W) {b : Option Nat} (hg : wr.grownBy w' b) (hb : ∀ q, b = some q → w.heap.size ≤ q ∧ ¬ F q ∧ q ≠ mb) : FrSt w0 w w' F h mb l W := by
  obtain ⟨cnt, him, hc⟩ := hs.im
  exact ⟨hs.hp.grown hg fun q hq => ⟨Nat.le_trans hs.w0w (hb q hq).1, (hb q hq).2.1⟩, hs.bel.grown hg hs.bel.size (fun q hq => (hb q hq).1), hs.new, hs.nf, hs.w0w, cnt, him.block (hg.block _ him.lt (fun e => (hb _ e.symm).2.2 rfl)), hc⟩
theorem FrSt.store (hs : FrSt w0 w wr F h mb l W) {y x : Nat} {p : List Nat} (hy : y < 41) (hx : par p = x) (hW : ∀ k, (wset W y p k).isSome = true → k < 41) :
    ∃ w', (Instr.mapUpdate 81 (.map (some mb)) (.int .i64 (y : Int)) (.int .i64 (x : Int))).run Tryz.prog wr = .ok () w' ∧ FrSt w0 w w' F h mb l (wset W y p) ∧ Keep (fun q => q = mb) wr w' ∧ w'.heap.size = wr.heap.size := by
  obtain ⟨cnt, him, hc⟩ := hs.im
  obtain ⟨w', hrun, him', hg, hsz⟩ := him.store int_keyed natL_inj (T := 81) Tryz.underlying81 (by simp only [maxLen]; omega) (int_key (n := y) (by omega)) (.int .i64 (par p : Int))
  rw [pv_upd] at him'
  rw [hx] at hrun
  have hk : Keep (fun q => q = mb) wr w' := ⟨hg.os, hg.tape, hg.output, hg.size, fun k hk hn => hg.block k hk (fun e => hn (Option.some.inj e))⟩
  refine ⟨w', hrun, ⟨hs.hp.keep hk (fun k hf e => hs.nf (e ▸ hf)) (fun k e => e ▸ Nat.le_trans hs.w0w hs.new), hs.bel.grown hg hs.bel.size (fun q hq => by rw [← Option.some.inj hq]; exact hs.new), hs.new, hs.nf, hs.w0w, _, him', ?_⟩, hk, hsz⟩
  exact him'.size_le Tryz.underlying3 41 fun k hk' => by
    refine hW k ?_
    unfold pv at hk'
    cases e : wset W y p k with
    | none => rw [e] at hk'; cases hk'
    | some q => rfl
theorem FrSt.look (hs : FrSt w0 w wr F h mb l W) {y : Nat} (hy : y < 41) :
    (W y = none → (Instr.lookup 81 (.map (some mb)) (.int .i64 (y : Int)) true).run Tryz.prog wr = .ok (.tuple #[.int .i64 0, .bool false]) wr) ∧
    (∀ p, W y = some p → (Instr.lookup 81 (.map (some mb)) (.int .i64 (y : Int)) true).run Tryz.prog wr = .ok (.tuple #[.int .i64 (par p : Int), .bool true]) wr ∧ (Instr.lookup 81 (.map (some mb)) (.int .i64 (y : Int)) false).run Tryz.prog wr = .ok (.int .i64 (par p : Int)) wr) := by
  obtain ⟨cnt, him, -⟩ := hs.im
  constructor
  · intro hn
    exact (him.look_none int_keyed (T := 81) Tryz.underlying81 (zero_int wr) (int_key (n := y) (by omega)) (by unfold pv; rw [hn]; rfl)).1
  · intro p hp
    exact him.look_some int_keyed (T := 81) Tryz.underlying81 (zero_int wr) (int_key (n := y) (by omega)) (by unfold pv; rw [hp]; rfl)
/-- the roots laid so far -/
def partW (S : List Nat) : Ways := fun q => if q ∈ S then some [q] else none
theorem partW_succ (S : List Nat) (k : Nat) (hk : k < S.length) : wset (partW (S.take k)) S[k] [S[k]] = partW (S.take (k + 1)) := by
  funext q
  unfold wset partW
  rw [List.take_succ_eq_append_getElem hk]
  simp only [List.mem_append, List.mem_singleton]
  by_cases e : q = S[k]
  · subst e; rw [if_pos rfl, if_pos (.inr rfl)]
  · rw [if_neg e]
    by_cases hm : q ∈ S.take k
    · rw [if_pos hm, if_pos (.inl hm)]
    · rw [if_neg hm, if_neg (fun h => h.elim hm e)]
theorem partW_all (l : Bytes) : partW (sortNat (rootsH l)) = startW l := by
  funext q; unfold partW startW; simp only [sortNat_mem]
/-- within a level: the refs of one -/
theorem mid_ok {l : Bytes} {s : Ways × List Nat} {D : List Nat} (h : LvOk l s D) (i : Nat) (_hi : i ≤ s.2.length) : ∃ D', LOk l ((s.2.take i).foldl (stepX l) (s.1, [])) D' s.1 D := by
  obtain ⟨D', h1, -⟩ := LOk.foldX (l := l) (D0 := D) (W0 := s.1) (s.2.take i) (s.1, []) D ⟨h.ok, by simp, fun _ _ => rfl⟩ (fun x hx => h.row x (List.mem_of_mem_take hx))
  exact ⟨D', h1⟩
theorem mid_succ (l : Bytes) (s : Ways × List Nat) (i : Nat) (hi : i < s.2.length) : (s.2.take (i + 1)).foldl (stepX l) (s.1, []) = stepX l ((s.2.take i).foldl (stepX l) (s.1, [])) s.2[i] := by
  rw [List.take_succ_eq_append_getElem hi, List.foldl_append]; rfl
theorem in_ok {l : Bytes} {s : Ways × List Nat} {D D0 : List Nat} {W0 : Ways} (h : LOk l s D W0 D0) {x : Nat} (hx : x ∈ D0) (j : Nat) : ∃ D', LOk l (((sortNat (refsL l (x : Int))).take j).foldl (stepY x) s) D' W0 D0 := by
  obtain ⟨D', h1, -⟩ := LOk.foldY hx ((sortNat (refsL l (x : Int))).take j) s D h (fun y hy => sortNat_mem.1 (List.mem_of_mem_take hy))
  exact ⟨D', h1⟩
theorem in_succ (x : Nat) (L : List Nat) (s : Ways × List Nat) (j : Nat) (hj : j < L.length) : (L.take (j + 1)).foldl (stepY x) s = stepY x ((L.take j).foldl (stepY x) s) L[j] := by
  rw [List.take_succ_eq_append_getElem hj, List.foldl_append]; rfl
theorem LOk.next_le {l : Bytes} {s : Ways × List Nat} {D D0 : List Nat} {W0 : Ways} (h : LOk l s D W0 D0) : s.2.length ≤ 40 := by
  have := h.ok.le; rw [h.spl, List.length_append] at this; omega
theorem lvl_len {l : Bytes} (hg : Good l) : ∀ k, (lvlN l k).2.length ≤ 40
  | 0 => (startW_ok hg).le
  | k + 1 => by
    obtain ⟨D, h, -⟩ := LvOk.at_ hg k
    obtain ⟨D', h'⟩ := mid_ok h (lvlN l k).2.length (Nat.le_refl _)
    rw [List.take_length] at h'
    exact h'.next_le
/-- what a new one is led to by -/
theorem LOk.par_new {l : Bytes} {s : Ways × List Nat} {D D0 : List Nat} {W0 : Ways} (h : LOk l s D W0 D0) {x : Nat} (hx : x ∈ D0) (y : Nat) : par (wayOf s.1 x ++ [y]) = x := by
  have hxD : x ∈ D := by rw [h.spl]; exact List.mem_append_left _ hx
  obtain ⟨p, hp⟩ := Option.isSome_iff_exists.1 ((h.ok.dk x).2 hxD)
  obtain ⟨q, e, -⟩ := h.ok.ways x p hp
  unfold wayOf; rw [hp, e]
  show par (q ++ [x] ++ [y]) = x
  rw [List.append_assoc]; exact par_two q x y
theorem WOk.lt41 {l : Bytes} {W : Ways} {D : List Nat} (h : WOk l W D) {k : Nat} (hk : (W k).isSome = true) : k < 41 := by
  have := hE_nat (h.dh k ((h.dk k).1 hk)); omega
end
end Go.Proofs.YtcahgmnkphmnhaaGreatDoor
/- Package reach: from, the walk. -/
namespace Go.Proofs.YtcahgmnkphmnhaaGreatDoor
open Go.RowKit Go.Maps Go.ChangeMaps

section
variable {w0 w : World} {F : Nat → Prop} {h : Nat} {l : Bytes}
/-- within a level -/
structure LvSt (w0 w wX wr : World) (F : Nat → Prop) (h mb : Nat) (l : Bytes) (s : Ways × List Nat) (v : Value) : Prop where
  fr : FrSt w0 w wr F h mb l s.1
  nx : wr.ownsRow wX.heap.size 3 1 v s.2.length (s.2.flatMap ncell)
  kp : Keep (fun q => q = mb) wX wr
set_option maxRecDepth 100000 in
set_option maxHeartbeats 1000000 in
theorem from_any (hp : Hp w0 w F h l) (hg : Good l) :
    Calls Tryz.prog 43 #[.pointer (some ⟨h, 0, none⟩)] w fun e w' => ∃ mb, e = .returned (.map (some mb)) ∧ FrSt w0 w w' F h mb l (fromW l) := by
  obtain ⟨i0', hi0, hz0, hz1, hz2⟩ := info_parts int_infoC
  have HI := Hidden.mk (And.intro hi0 (And.intro hz0 (And.intro hz1 hz2)))
  have hmm := @run_makeMap Tryz.prog
  have HG := Hidden.mk hg
  have hal := (Below.refl w.heap.size w).alloc (Nat.le_refl _) (.map #[] 0)
  have HFL : Hidden (∀ q, F q → q < w.heap.size) := ⟨hp.flt⟩
  have HST : Hidden (FrSt w0 w (w.alloc (.map #[] 0)) F h w.heap.size l (fun _ => none)) := ⟨⟨hp.below hal, hal, Nat.le_refl _, fun hk => by have := hp.flt _ hk; omega, hp.bel.size, 0, IM.made w, by omega⟩⟩
  have HRT := Hidden.mk (hroots_any (hp.below hal))
  have hR8 : (rootsL l).length ≤ 8 := rootsF_len _ _
  have HRH : Hidden (rootsH l = (rootsL l).map (·.2)) := ⟨rfl⟩
  generalize rootsL l = R at *
  clear hp hal hi0 hz0 hz1 hz2 hg
  go_enter Tryz.func43, Tryz.ntmps43
  go_wp2_with fail
  clear hmm
  generalize w.alloc (.map #[] 0) = wA at *
  generalize hmb : w.heap.size = mb at HST ⊢
  clear hmb
  refine HRT.out.mono ?_
  rintro e w1 ⟨v1, rfl, hown1, hb1⟩
  have HST1 := Hidden.mk (HST.out.below hb1)
  obtain ⟨A1, c1, rfl, -, -⟩ := own_split hown1
  have HR := Hidden.mk (own_rdX3 (f := rcells) (fun _ => rfl) rfl hown1)
  generalize hm : R.length = m at *
  have HM := Hidden.mk hm
  clear hown1 hb1 HRT HST hm
  go_wp2_with fail
  go_loopg [4, 21] m (fun q v i wr => ∃ k : Nat, k ≤ m ∧ q = m - k ∧ i = .int .i64 (k : Int) ∧ Hidden (FrSt w0 w wr F h mb l (fun _ => none) ∧ Below w1.heap.size w1 wr ∧ wr.ownsRow w1.heap.size 3 1 v k (((R.map (·.2)).take k).flatMap ncell)))
  case atStart => exact ⟨0, by omega, rfl, rfl, ⟨HST1.out, Below.refl _ _, World.ownsRow_nil _ _ _ _⟩⟩
  case round =>
    obtain ⟨k, hk, rfl, rfl, hst⟩ := hrel
    by_cases hlt : k < m
    · have hkR : k < R.length := by rw [HM.out]; exact hlt
      obtain ⟨pb, ob, rfl, hcx⟩ := (HR.out.below hst.out.2.1) k hkR
      have x0 := hcx 0 _ rfl
      have x1 := hcx 1 _ rfl
      rw [Nat.add_zero] at x0
      have HS : Hidden ((R.map (·.2)).take (k + 1) = (R.map (·.2)).take k ++ [R[k].2]) := ⟨by rw [List.take_succ_eq_append_getElem (by simpa using hkR)]; simp⟩
      generalize R[k].2 = q0 at *
      generalize R[k].1 = s0 at *
      have i0 : (0 : Int) ≤ k := by omega
      have i1 : (k : Int) < m := by omega
      have s3 : IntKind.i64.wrap ((k : Int) + 1) = (k : Int) + 1 := IntWalk.i64_in _ (by omega)
      have hal : Below wr.heap.size wr (wr.alloc (.cells #[.string ⟨s0.toArray⟩, .int .i64 (q0 : Int)] 76)) := (Below.refl _ _).alloc (Nat.le_refl _) _
      have HN := Hidden.mk (And.intro (hst.out.1.below hal) (And.intro (hst.out.2.1.trans (hal.mono hst.out.2.1.size)) (own_below hst.out.2.2 hal)))
      obtain ⟨hi0, hz0, hz1, hz2⟩ := HI.out
      clear hcx hal hst
      go_wp2_with (at_builtin; refine wpList_append_lies _ rfl (.tmp 25) (.tmp 28) _ rfl w1.heap.size 3 i0' _ 1 8 Tryz.underlying27 hi0 hz0 hz1 hz2 rfl (by decide) u4 k (((R.map (·.2)).take k).flatMap ncell) rfl (own_below HN.out.2.2 ((Below.refl _ _).alloc (Nat.le_refl _) _)) ⟨wr.heap.size + 1, 0, none⟩ 1 1 [.int .i64 (q0 : Int)] rfl rfl (World.news_of_block (cs := #[.int .i64 (q0 : Int)]) (t := 3) (fr := (0, 0)) (by have hq_ := heap_alloc_new ((wr.alloc (.cells #[.string ⟨s0.toArray⟩, .int .i64 (q0 : Int)] 76))) (.cells #[.int .i64 (q0 : Int)] 3); rwa [World.size_alloc] at hq_)) (by simp [Value.oneCell']) (by omega) (by simp only [maxLen]; omega) (by omega) (by have hz_ := HN.out.2.1.size; rw [World.size_alloc]; omega) (wr.heap.size + 1 + 1) (by simp) ?_; intro g8 cap8 w8 hown8 hg8 hat8 hlt8)
      have hgW := grown_trans' ((Below.refl (wr.alloc (.cells #[.string ⟨s0.toArray⟩, .int .i64 (q0 : Int)] 76)).heap.size (wr.alloc (.cells #[.string ⟨s0.toArray⟩, .int .i64 (q0 : Int)] 76))).alloc (Nat.le_refl _) _) hg8
      have hlo : ∀ q, u4.ownBlock = some q → w1.heap.size ≤ q := fun q hq => (HN.out.2.2.lt q hq).1
      have hF8 : FrSt w0 w w8 F h mb l (fun _ => none) := HN.out.1.grown hgW fun q hq => by
        have h1 := hlo q hq
        refine ⟨Nat.le_trans HST1.out.bel.size h1, fun hf => ?_, own_ne HN.out.2.2 HN.out.1.isMap q hq⟩
        have := HST1.out.hp.flt q hf; omega
      have HF : Hidden (FrSt w0 w w8 F h mb l (fun _ => none) ∧ Below w1.heap.size w1 w8 ∧ w8.ownsRow w1.heap.size 3 1 (.slice (some ⟨g8, 0, none⟩) (k + 1) cap8) (k + 1) (((R.map (·.2)).take (k + 1)).flatMap ncell)) := ⟨hF8, HN.out.2.1.grown hgW HN.out.2.1.size hlo, by rw [HS.out]; simpa [ncell] using hown8⟩
      clear hgW hlo hF8 hown8 hg8 hat8 hlt8 hi0 hz0 hz1 hz2
      go_roundg (m - (k + 1))
      case measure => omega
      case rel => exact ⟨k + 1, by omega, rfl, by go_num, HF⟩
    · obtain rfl : m = k := by omega
      have hT := hst.out.2.2
      rw [List.take_of_length_le (by rw [List.length_map, HM.out]; exact Nat.le_refl _), ← HRH.out] at hT
      have hlen : (rootsH l).length = m := by rw [HRH.out, List.length_map]; exact HM.out
      have HSO := Hidden.mk (sortNat_any w1.heap.size m u4 (rootsH l) wr hlen (by omega) hT)
      have HO := Hidden.mk hT
      have HFR := Hidden.mk hst.out.1
      have HLN := Hidden.mk hlen
      clear hT hst hlen HRH HR
      go_wp2_with fail
      refine HSO.out.mono ?_
      rintro e w3 ⟨rfl, hown3, hg3⟩
      have hF3 : FrSt w0 w w3 F h mb l (partW ((sortNat (rootsH l)).take 0)) := by
        have := HFR.out.grown hg3 fun q hq => by
          have h1 := (HO.out.lt q hq).1
          refine ⟨Nat.le_trans HST1.out.bel.size h1, fun hf => ?_, own_ne HO.out HFR.out.isMap q hq⟩
          have := HST1.out.hp.flt q hf; omega
        have e : partW ((sortNat (rootsH l)).take 0) = fun _ => none := by funext q; simp [partW]
        rw [e]; exact this
      have HF3 := Hidden.mk hF3
      have HB1 := Hidden.mk HST1.out.bel
      obtain ⟨A3, c3, hu4, hc3, -⟩ := own_split hown3
      rw [hu4] at hown3 ⊢
      have HO3 := Hidden.mk hown3
      have HSL : Hidden ((sortNat (rootsH l)).length = m) := ⟨by rw [sortNat_len]; exact HLN.out⟩
      have HSE : Hidden (∀ x ∈ sortNat (rootsH l), x < 41) := ⟨fun x hx => by have := hE_nat (rootsH_mem HG.out (sortNat_mem.1 hx)); omega⟩
      generalize hS : sortNat (rootsH l) = S at *
      have HS := Hidden.mk hS
      clear hF3 hown3 hg3 HSO HO HFR HST1 HLN hS hu4
      go_wp2_with fail
      go_loopg [35] m (fun q i wr => ∃ k : Nat, k ≤ m ∧ q = m - k ∧ i = .int .i64 (k : Int) ∧ Hidden (FrSt w0 w wr F h mb l (partW (S.take k)) ∧ Keep (fun q => q = mb) w3 wr))
      case atStart => exact ⟨0, by omega, rfl, rfl, ⟨HF3.out, Keep.refl _ _⟩⟩
      case round =>
        obtain ⟨k, hk, rfl, rfl, hst⟩ := hrel
        by_cases hlt : k < m
        · have hkS : k < S.length := by rw [HSL.out]; exact hlt
          have hown := own_map HO3.out HF3.out.isMap hst.out.2
          obtain ⟨pb, ob, hA3, hcx⟩ := (own_rdX3 (f := ncell) (fun _ => rfl) HSL.out hown) k hkS
          have x0 : wr.cell? ⟨pb, ob + k, none⟩ = some (.int .i64 (S[k] : Int)) := by simpa using hcx 0 _ rfl
          have h41 := HSE.out S[k] (List.getElem_mem hkS)
          obtain ⟨w5, hrun, hF5, hk5, -⟩ := hst.out.1.store (y := S[k]) (x := S[k]) (p := [S[k]]) h41 rfl (fun z hz => by
            rw [partW_succ S k hkS] at hz
            unfold partW at hz
            split at hz
            · rename_i hm; exact HSE.out z (List.mem_of_mem_take hm)
            · cases hz)
          rw [partW_succ S k hkS] at hF5
          have HF5 := Hidden.mk (And.intro hF5 (hst.out.2.trans hk5 (fun _ hx => .inl hx)))
          generalize S[k] = q0 at *
          have i0 : (0 : Int) ≤ k := by omega
          have i1 : (k : Int) < m := by omega
          have s3 : IntKind.i64.wrap ((k : Int) + 1) = (k : Int) + 1 := IntWalk.i64_in _ (by omega)
          subst hA3
          clear hcx hst hown hF5 hk5
          go_wp2_with fail
          go_roundg (m - (k + 1))
          case measure => omega
          case rel => exact ⟨k + 1, by omega, rfl, by go_num, HF5⟩
        · obtain rfl : m = k := by omega
          have hown := own_map HO3.out HF3.out.isMap hst.out.2
          have hF6 := hst.out.1
          rw [List.take_of_length_le (by rw [HSL.out]; exact Nat.le_refl _), ← HS.out, partW_all] at hF6
          rw [← HS.out] at hown
          have HLN : Hidden ((rootsH l).length = m) := ⟨by rw [← sortNat_len, HS.out]; exact HSL.out⟩
          have HCP := Hidden.mk (compactNat_any w1.heap.size m (.slice A3 m c3) (rootsH l) wr HLN.out (by omega) hown)
          have HO6 := Hidden.mk hown
          have HF6 := Hidden.mk hF6
          clear hown hF6 hst HO3 HF3 HSL HSE HS
          go_wp2_with fail
          refine HCP.out.mono ?_
          rintro e w7 ⟨v7, rfl, hown7, hg7, -⟩
          have hF7 : FrSt w0 w w7 F h mb l (startW l) := HF6.out.grown hg7 fun q hq => by
            have h1 := (HO6.out.lt q hq).1
            refine ⟨Nat.le_trans HB1.out.size h1, fun hf => ?_, own_ne HO6.out HF6.out.isMap q hq⟩
            have := HFL.out q hf; have := HB1.out.size; omega
          have HL0 : Hidden (FrSt w0 w w7 F h mb l (lvlN l 0).1 ∧ w7.ownsRow w.heap.size 3 1 v7 (lvlN l 0).2.length ((lvlN l 0).2.flatMap ncell)) := ⟨hF7, own_base hown7 HB1.out.size⟩
          clear hF7 hown7 hg7 HCP HO6 HF6 HLN
          go_wp2_with fail
          go_loopg [4] 41 (fun q v wr => ∃ k : Nat, k ≤ 41 ∧ q = 41 - k ∧ Hidden (FrSt w0 w wr F h mb l (lvlN l k).1 ∧ wr.ownsRow w.heap.size 3 1 v (lvlN l k).2.length ((lvlN l k).2.flatMap ncell)))
          case atStart => exact ⟨0, by omega, rfl, HL0⟩
          case round =>
            obtain ⟨k, hk, rfl, hst⟩ := hrel
            generalize wr = wx at *
            obtain ⟨D, hLv, -⟩ := LvOk.at_ HG.out k
            obtain ⟨A4, c4, rfl, hc4, -⟩ := own_split hst.out.2
            by_cases hnil : (lvlN l k).2 = []
            · have hF := hst.out.1
              rw [fromW_of hk hnil] at hF
              have HF := Hidden.mk hF
              have e0 : (lvlN l k).2.length = 0 := by rw [hnil]; rfl
              have d0 : decide (0 < (lvlN l k).2.length) = false := decide_eq_false (by omega)
              generalize (lvlN l k).2.length = n0 at *
              clear hst hF hnil hLv e0
              go_wp2_with fail
              go_ret
              exact ⟨_, rfl, HF.out⟩
            · have hk41 : k < 41 := by
                rcases Nat.lt_or_eq_of_le hk with h | h
                · exact h
                · subst h; exact absurd (lvlN_end HG.out) hnil
              have hpos : 0 < (lvlN l k).2.length := List.length_pos_iff.2 hnil
              have d0 : decide (0 < (lvlN l k).2.length) = true := decide_eq_true hpos
              have hle := lvl_len HG.out k
              have HLS : Hidden (lvlN l (k + 1) = (lvlN l k).2.foldl (stepX l) ((lvlN l k).1, [])) := ⟨rfl⟩
              have HLV := Hidden.mk hLv
              have HST := Hidden.mk hst.out
              generalize hs : lvlN l k = s at *
              obtain ⟨W, L⟩ := s
              dsimp only at *
              clear hst hnil hLv hs hpos
              go_wp2_with fail
              go_loopg [9, 50] L.length (fun q v i ws => ∃ i0 : Nat, i0 ≤ L.length ∧ q = L.length - i0 ∧ i = .int .i64 (i0 : Int) ∧ Hidden (LvSt w0 w wx ws F h mb l ((L.take i0).foldl (stepX l) (W, [])) v))
              case atStart => exact ⟨0, by omega, rfl, rfl, ⟨HST.out.1, World.ownsRow_nil _ _ _ _, Keep.refl _ _⟩⟩
              case round =>
                obtain ⟨i, hi, rfl, rfl, hst⟩ := hrel
                generalize wr = ws at *
                by_cases hlt : i < L.length
                · have hown4 := own_map HST.out.2 HST.out.1.isMap hst.out.kp
                  obtain ⟨pb, ob, hA4, hcx⟩ := (own_rdX3 (f := ncell) (fun _ => rfl) rfl hown4) i hlt
                  have x0 : ws.cell? ⟨pb, ob + i, none⟩ = some (.int .i64 (L[i] : Int)) := by simpa using hcx 0 _ rfl
                  obtain ⟨D1, hL1⟩ := mid_ok HLV.out i hi
                  have HL1 := Hidden.mk hL1
                  have HMS := Hidden.mk (mid_succ l (W, L) i hlt)
                  have HXD := Hidden.mk (HLV.out.row L[i] (List.getElem_mem hlt))
                  have HLS1 := Hidden.mk hst.out
                  dsimp only at HL1 HMS
                  generalize L[i] = x at *
                  generalize (L.take i).foldl (stepX l) (W, []) = s1 at *
                  have i0 : (0 : Int) ≤ i := by omega
                  have i1 : (i : Int) < L.length := by omega
                  have s3 : IntKind.i64.wrap ((i : Int) + 1) = (i : Int) + 1 := IntWalk.i64_in _ (by omega)
                  have HRF := Hidden.mk (refs_any (x : Int) hst.out.fr.hp HG.out)
                  have HRL : Hidden ((refsL l (x : Int)).length ≤ 100000) := ⟨by
                    unfold refsL
                    have h1 := refsB_len l (readL l (x : Int) 0 (min (gL l (x : Int)) (gT l (x : Int)))) _ (Nat.le_refl _)
                    rw [List.take_length] at h1
                    refine Nat.le_trans h1 ?_
                    unfold readL
                    split
                    · rename_i hz
                      have := some_in HG.out hz
                      simp; omega
                    · simp⟩
                  subst hA4
                  clear hcx hst hown4 hL1
                  go_wp2_with fail
                  refine HRF.out.mono ?_
                  rintro e w5 ⟨v12, rfl, hown5, hb5⟩
                  have HSO := Hidden.mk (sortNat_any ws.heap.size _ v12 (refsL l (x : Int)) w5 rfl HRL.out hown5)
                  have HF5 := Hidden.mk (HLS1.out.fr.below hb5)
                  have HN5 := Hidden.mk (own_below HLS1.out.nx hb5)
                  have HK5 := Hidden.mk (HLS1.out.kp.trans (Keep.of_below (F := fun q => q = mb) hb5) (fun _ hx => .inl hx))
                  have HO5 := Hidden.mk hown5
                  have HSZ : Hidden (w.heap.size ≤ ws.heap.size) := ⟨HLS1.out.fr.bel.size⟩
                  have HNL : Hidden (∀ q, u9.ownBlock = some q → q < ws.heap.size) := ⟨fun q hq => (HLS1.out.nx.lt q hq).2⟩
                  have HWX : Hidden (wx.heap.size ≤ ws.heap.size) := ⟨HLS1.out.kp.size⟩
                  clear hown5 hb5 HRF HLS1
                  go_wp2_with fail
                  refine HSO.out.mono ?_
                  rintro e w6 ⟨rfl, hown6, hg6⟩
                  have hF6 : FrSt w0 w w6 F h mb l s1.1 := HF5.out.grown hg6 fun q hq => by
                    have h1 := (HO5.out.lt q hq).1
                    refine ⟨Nat.le_trans HSZ.out h1, fun hf => ?_, own_ne HO5.out HF5.out.isMap q hq⟩
                    have := HFL.out q hf; have := HSZ.out; omega
                  have hN6 := own_other HN5.out hg6 fun q hq e => by
                    have := HNL.out q hq; have := (HO5.out.lt q e).1; omega
                  have hK6 : Keep (fun q => q = mb) wx w6 := HK5.out.trans ⟨hg6.os, hg6.tape, hg6.output, hg6.size, fun k hk hn => hg6.block k hk (fun e => hn e)⟩ (fun q hq => .inr (by
                    have := (HO5.out.lt q hq.symm).1; have := HWX.out; omega))
                  obtain ⟨A12, c12, hv12, hc12, -⟩ := own_split hown6
                  have HL6 : Hidden (LvSt w0 w wx w6 F h mb l s1 u9) := ⟨hF6, hN6, hK6⟩
                  have HV12 : Hidden (∀ q, u9.ownBlock = some q → v12.ownBlock ≠ some q) := ⟨fun q hq e => by have := HNL.out q hq; have := (HO5.out.lt q e).1; omega⟩
                  have HSE : Hidden (∀ y ∈ sortNat (refsL l (x : Int)), y < 41) := ⟨fun y hy => by have := hE_nat (refsL_mem (y := 0) (sortNat_mem.1 hy)); omega⟩
                  have HSS : Hidden (stepX l s1 x = (sortNat (refsL l (x : Int))).foldl (stepY x) s1) := ⟨rfl⟩
                  have HIN : Hidden (∀ j, ∃ D', LOk l (((sortNat (refsL l (x : Int))).take j).foldl (stepY x) s1) D' W D) := ⟨fun j => in_ok HL1.out HXD.out j⟩
                  have hll : (sortNat (refsL l (x : Int))).length = (refsL l (x : Int)).length := sortNat_len _
                  rw [← hll] at hown6 hv12 HRL
                  rw [hv12] at hown6 HV12 ⊢
                  have HO6 := Hidden.mk hown6
                  generalize refsL l (x : Int) = RL at *
                  generalize hLL : sortNat RL = LL at *
                  clear hown6 hg6 hF6 hN6 hK6 HSO HF5 HN5 HK5 HO5 HSZ HNL hv12 hll hLL
                  go_wp2_with fail
                  go_loopg [9, 61] LL.length (fun q v i wq => ∃ j : Nat, j ≤ LL.length ∧ q = LL.length - j ∧ i = .int .i64 (j : Int) ∧ Hidden (LvSt w0 w wx wq F h mb l ((LL.take j).foldl (stepY x) s1) v ∧ wq.ownsRow ws.heap.size 3 1 (.slice A12 LL.length c12) LL.length (LL.flatMap ncell) ∧ ∀ q, v.ownBlock = some q → (Value.slice A12 LL.length c12).ownBlock ≠ some q))
                  case atStart => exact ⟨0, by omega, rfl, rfl, ⟨HL6.out, HO6.out, HV12.out⟩⟩
                  case round =>
                    obtain ⟨j, hj, rfl, rfl, hsq⟩ := hrel
                    generalize wr = wq at *
                    by_cases hjt : j < LL.length
                    · obtain ⟨pb2, ob2, hA12, hcx2⟩ := (own_rdX3 (f := ncell) (fun _ => rfl) rfl hsq.out.2.1) j hjt
                      have y0 : wq.cell? ⟨pb2, ob2 + j, none⟩ = some (.int .i64 (LL[j] : Int)) := by simpa using hcx2 0 _ rfl
                      obtain ⟨D2, hL2⟩ := HIN.out j
                      have HIS := Hidden.mk (in_succ x LL s1 j hjt)
                      obtain ⟨D3, hL3⟩ := HIN.out (j + 1)
                      rw [HIS.out] at hL3
                      have h41 := HSE.out LL[j] (List.getElem_mem hjt)
                      generalize LL[j] = y at *
                      generalize (LL.take j).foldl (stepY x) s1 = t at *
                      have j0 : (0 : Int) ≤ j := by omega
                      have j1 : (j : Int) < LL.length := by omega
                      have s4 : IntKind.i64.wrap ((j : Int) + 1) = (j : Int) + 1 := IntWalk.i64_in _ (by have := HRL.out; omega)
                      obtain ⟨lk0, lk1⟩ := hsq.out.1.fr.look (y := y) h41
                      have HQ := Hidden.mk hsq.out
                      subst hA12
                      clear hcx2 hsq
                      cases hty : t.1 y with
                      | some p =>
                        have lk := (lk1 p hty).1
                        have HTT : Hidden (stepY x t y = t) := ⟨by unfold stepY; rw [if_pos (by rw [hty]; rfl)]⟩
                        generalize (par p : Int) = pp at *
                        clear lk0 lk1 hty hL2 hL3
                        go_wp2_with fail
                        go_roundg (LL.length - (j + 1))
                        case measure => omega
                        case rel => exact ⟨j + 1, by omega, rfl, by go_num, ⟨by rw [HIS.out, HTT.out]; exact HQ.out⟩⟩
                      | none =>
                        have lk := lk0 hty
                        have hTT : stepY x t y = (wset t.1 y (wayOf t.1 x ++ [y]), t.2 ++ [y]) := by unfold stepY; rw [if_neg (by rw [hty]; simp)]
                        rw [hTT] at hL3
                        have hpar := hL2.par_new HXD.out y
                        have hnl := hL2.next_le
                        obtain ⟨w7, hrun, hF7, hk7, hs7⟩ := HQ.out.1.fr.store h41 hpar (fun z hz => hL3.ok.lt41 hz)
                        have HTT := Hidden.mk hTT
                        have HM := HQ.out.1.fr.isMap
                        have hN7 := own_map HQ.out.1.nx HM hk7
                        have hO7 := own_map HQ.out.2.1 HM hk7
                        have HK7 := Hidden.mk (HQ.out.1.kp.trans hk7 (fun _ hx => .inl hx))
                        have HF7 := Hidden.mk hF7
                        have HN7 := Hidden.mk hN7
                        have HO7 := Hidden.mk hO7
                        have HLQ : Hidden (∀ q, u9.ownBlock = some q → q < w7.heap.size) := ⟨fun q hq => (hN7.lt q hq).2⟩
                        have HXS : Hidden (wx.heap.size ≤ w7.heap.size) := ⟨HK7.out.size⟩
                        have HWS : Hidden (w.heap.size ≤ wx.heap.size) := ⟨HST.out.1.bel.size⟩
                        obtain ⟨hi0, hz0, hz1, hz2⟩ := HI.out
                        generalize wset t.1 y (wayOf t.1 x ++ [y]) = W2 at *
                        generalize t.2 = N at *
                        clear lk0 lk1 hty hL2 hL3 hpar hF7 hk7 hN7 hO7 hTT HM hs7
                        go_wp2_with (at_builtin; refine wpList_append_lies _ rfl (.tmp 76) (.tmp 78) _ rfl wx.heap.size 3 i0' _ 1 8 Tryz.underlying27 hi0 hz0 hz1 hz2 rfl (by decide) u9 N.length (N.flatMap ncell) rfl (own_below HN7.out ((Below.refl _ _).alloc (Nat.le_refl _) _)) ⟨(w7).heap.size, 0, none⟩ 1 1 [.int .i64 (y : Int)] rfl rfl (World.news_of_block (cs := #[.int .i64 (y : Int)]) (t := 3) (fr := (0, 0)) (heap_alloc_new (w7) _)) (by simp [Value.oneCell']) (by omega) (by simp only [maxLen]; omega) (by omega) (by have hz_ := HK7.out.size; rw [World.size_alloc]; omega) ((w7).heap.size + 1) (by simp) ?_; intro g8 cap8 w8 hown8 hg8 hat8 hlt8)
                        have hgW := grown_trans' ((Below.refl w7.heap.size w7).alloc (Nat.le_refl _) _) hg8
                        have hlo : ∀ q, u9.ownBlock = some q → wx.heap.size ≤ q := fun q hq => (HN7.out.lt q hq).1
                        have hF8 : FrSt w0 w w8 F h mb l W2 := HF7.out.grown hgW fun q hq => by
                          have h1 := hlo q hq
                          refine ⟨Nat.le_trans HWS.out h1, fun hf => ?_, own_ne HN7.out HF7.out.isMap q hq⟩
                          have := HFL.out q hf; have := HWS.out; omega
                        have hK8 : Keep (fun q => q = mb) wx w8 := HK7.out.trans (F' := fun q => u9.ownBlock = some q) ⟨hgW.os, hgW.tape, hgW.output, hgW.size, fun k hk hn => hgW.block k hk (fun e => hn e.symm)⟩ (fun q hq => .inr (hlo q hq))
                        have hO8 := own_other HO7.out hgW fun q hq e => HQ.out.2.2 q e hq
                        have HF : Hidden (LvSt w0 w wx w8 F h mb l (stepY x t y) (.slice (some ⟨g8, 0, none⟩) (N.length + 1) cap8) ∧ w8.ownsRow ws.heap.size 3 1 (.slice (some ⟨pb2, ob2, none⟩) LL.length c12) LL.length (LL.flatMap ncell) ∧ ∀ q, (Value.slice (some ⟨g8, 0, none⟩) (N.length + 1) cap8).ownBlock = some q → (Value.slice (some ⟨pb2, ob2, none⟩) LL.length c12).ownBlock ≠ some q) := ⟨by
                          rw [HTT.out]
                          exact ⟨hF8, by rw [List.length_append, List.flatMap_append]; simpa [ncell] using hown8, hK8⟩, hO8, fun q hq e => by
                          have hq' : g8 = q := by simpa [Value.ownBlock] using hq
                          subst hq'
                          rcases hat8 with h8 | h8
                          · exact HQ.out.2.2 _ h8 e
                          · have := (HO7.out.lt _ e).2; omega⟩
                        clear hgW hlo hF8 hK8 hO8 hown8 hg8 hat8 hlt8 hi0 hz0 hz1 hz2
                        go_roundg (LL.length - (j + 1))
                        case measure => omega
                        case rel => exact ⟨j + 1, by omega, rfl, by go_num, ⟨by rw [HIS.out]; exact HF.out⟩⟩
                    · obtain rfl : j = LL.length := by omega
                      have hT := hsq.out.1
                      rw [List.take_length, ← HSS.out, ← HMS.out] at hT
                      have HT := Hidden.mk hT
                      have d8 : decide ((LL.length : Int) < LL.length) = false := decide_eq_false (by omega)
                      clear hT hsq
                      go_wp2_with fail
                      go_roundg (L.length - (i + 1))
                      case measure => omega
                      case rel => exact ⟨i + 1, by omega, rfl, by go_num, HT⟩
                · obtain rfl : i = L.length := by omega
                  have hT := hst.out
                  rw [List.take_length, ← HLS.out] at hT
                  have HT : Hidden (FrSt w0 w ws F h mb l (lvlN l (k + 1)).1 ∧ ws.ownsRow w.heap.size 3 1 u9 (lvlN l (k + 1)).2.length ((lvlN l (k + 1)).2.flatMap ncell)) := ⟨hT.fr, own_base hT.nx HST.out.1.bel.size⟩
                  clear hT hst
                  go_wp2_with fail
                  go_roundg (41 - (k + 1))
                  case measure => omega
                  case rel => exact ⟨k + 1, by omega, rfl, HT⟩
end
end Go.Proofs.YtcahgmnkphmnhaaGreatDoor
/- Laid: maps.Keys at maps from numbers to numbers. -/
namespace Go.Proofs.YtcahgmnkphmnhaaGreatDoor
open Go.Shelf
def keysN_ren : Go.Shelf.Ren := ⟨fun | 7 => 46 | 10 => 100 | n => n, fun | 23 => 81 | 26 => 3 | 3 => 3 | 28 => 87 | 0 => 0 | 27 => 86 | 33 => 45 | 4 => 4 | n => n, fun | n => n⟩
theorem keysN : Go.Proofs.SlLaysZI.n7 Tryz.prog keysN_ren := {
  mixed := by kernel_rfl
  f7 := ⟨Tryz.f46.name, by decide, Tryz.func46.trans (congrArg some (by kernel_rfl))⟩
  f10 := ⟨Tryz.f100.name, by decide, Tryz.func100.trans (congrArg some (by kernel_rfl))⟩
  t0 := Tryz.underlying0
  a0 := Tryz.isAgg0
  z0 := Tryz.sizeOf0
  v0 := Tryz.zeroValue0
  t4 := Tryz.underlying4
  a4 := Tryz.isAgg4
  z4 := Tryz.sizeOf4
  v4 := Tryz.zeroValue4
  t23 := Tryz.underlying81
  a23 := Tryz.isAgg81
  z23 := Tryz.sizeOf81
  v23 := Tryz.zeroValue81
  t26 := Tryz.underlying3
  a26 := Tryz.isAgg3
  z26 := Tryz.sizeOf3
  v26 := Tryz.zeroValue3
  t27 := Tryz.underlying86
  a27 := Tryz.isAgg86
  z27 := Tryz.sizeOf86
  v27 := Tryz.zeroValue86
  t28 := Tryz.underlying87
  a28 := Tryz.isAgg87
  z28 := Tryz.sizeOf87
  v28 := Tryz.zeroValue87
  t33 := Tryz.underlying45
  a33 := Tryz.isAgg45
  z33 := Tryz.sizeOf45
  v33 := Tryz.zeroValue45 }
end Go.Proofs.YtcahgmnkphmnhaaGreatDoor
/- slices.Sorted(maps.Keys(m)) of maps from numbers to numbers. -/
namespace Go.Proofs.YtcahgmnkphmnhaaGreatDoor
open Go.RowKit Go.Maps Go.ChangeMaps Go.Sort Go.Shelf

theorem keysN_call (b : Nat) (w : World) : Calls Tryz.prog 46 #[.map (some b)] w fun e w' => e = .returned (.func (.func 100) #[] #[.pointer (some ⟨w.heap.size, 0, none⟩)]) ∧ w' = w.alloc (.cells #[.map (some b)] 81) := by
  have cK : CallsIn Fence.wide 5 Tryz.prog 46 #[.map (some b)] w fun e w' => e = .returned (.func (.func 100) #[] #[.pointer (some ⟨w.heap.size, 0, none⟩)]) ∧ w' = w.alloc (.cells #[.map (some b)] 81) := AnyZI.keys_in keysN Fence.wide 5 trivial rfl (some b) w
  exact callsIn_wide.1 cK
theorem sortedN_call (b cnt : Nat) (f : Nat → Option Value) (w : World) (h : IM Tryz.prog 3 natL w b f cnt) (hc : cnt ≤ 100000) :
    Calls Tryz.prog 45 #[.func (.func 100) #[] #[.pointer (some ⟨w.heap.size, 0, none⟩)]] (w.alloc (.cells #[.map (some b)] 81)) fun e w' => ∃ v S, e = .returned v ∧ KeysOf f S ∧
      w'.ownsRow w.heap.size 3 1 v S.length (S.map fun i : Nat => .int .i64 (i : Int)) ∧ Below w.heap.size w w' := by
  obtain ⟨D, hown, hs, hn, h1, h2⟩ := h.keys Tryz.underlying3
  have hbl := hown.lt
  have hseq : SeqGives Fence.wide 2 Tryz.prog 100 #[.pointer (some ⟨w.heap.size, 0, none⟩)] encZ (fun ss => ss.Perm (intKeys D)) (Maps.size D) (w.alloc (.cells #[.map (some b)] 81)) :=
    AnyZI.keys_gives (ρ := keysN_ren) { keysN with } Fence.wide _ trivial rfl (by omega) w.heap.size b cnt D _ (by simp) (by simp) (by
      obtain ⟨es, clock, hb, Ft, hs, hD⟩ := hown
      exact ⟨es, clock, (Below.heap_alloc _ _ b hbl).trans hb, Ft, hs, hD⟩)
  have cS := AnyZI.sorted_in sortedI Fence.wide 5 trivial trivial trivial trivial rfl (by omega) (sorts_int _) (enters_of Tryz.func97 (by kernel_rfl) rfl) 100 #[.pointer (some ⟨w.heap.size, 0, none⟩)] trivial (enters_of Tryz.func100 (by kernel_rfl) rfl) _ _ (by rw [hs]; simp only [maxLen]; omega) (by rw [hs]; omega) _ hseq
  change CallsIn _ _ Tryz.prog 45 _ _ _ at cS
  refine (callsIn_wide.1 cS).mono ?_
  rintro e w' ⟨v, ss, rfl, hS, hrow, -, hb⟩
  obtain ⟨S, e1, e2⟩ := keys_sorted hS hn h1 h2
  have hlen : S.length = ss.length := by
    have := congrArg List.length e1
    rw [List.length_map, List.length_mergeSort] at this
    omega
  refine ⟨v, S, rfl, e2, ?_, ((Below.refl _ w).alloc (Nat.le_refl _) _).trans (hb.mono (by simp))⟩
  have e3 : (ss.mergeSort (fun x y => decide (x ≤ y))).map encZ = S.map fun i : Nat => .int .i64 (i : Int) := by
    show (ss.mergeSort leI).map encZ = _
    rw [e1, List.map_map]; rfl
  rw [e3, ← hlen] at hrow
  exact ownsRow_base_a hrow (by simp)
end Go.Proofs.YtcahgmnkphmnhaaGreatDoor
/- Package reach: Live, Dead, Sweep. -/
namespace Go.Proofs.YtcahgmnkphmnhaaGreatDoor
open Go.RowKit Go.Maps Go.ChangeMaps

theorem pv_some (W : Ways) (k : Nat) : (pv W k).isSome = (W k).isSome := by unfold pv; cases W k <;> rfl
theorem keys_live {l : Bytes} (hg : Good l) {S : List Nat} (h : KeysOf (pv (fromW l)) S) : S = liveL l :=
  up_ext (A := S) (B := liveL l) h.up (liveL_up l) fun x => by
    have h1 := h.mem x
    have h2 := pv_some (fromW l) x
    have h3 := liveL_mem hg (x := x)
    rw [h2] at h1
    exact h1.trans h3.symm
section
variable {w0 w : World} {F : Nat → Prop} {h : Nat} {l : Bytes}
set_option maxRecDepth 100000 in
theorem live_any (hp : Hp w0 w F h l) (hg : Good l) :
    Calls Tryz.prog 16 #[.pointer (some ⟨h, 0, none⟩)] w fun e w' => ∃ v, e = .returned v ∧ w'.ownsRow w.heap.size 3 1 v (liveL l).length ((liveL l).flatMap ncell) ∧ Below w.heap.size w w' := by
  have HC := Hidden.mk (from_any hp hg)
  have HKL : Hidden (∀ S, KeysOf (pv (fromW l)) S → S = liveL l) := ⟨fun S h => keys_live hg h⟩
  generalize liveL l = LL at *
  generalize fromW l = W at *
  clear hp hg
  go_enter Tryz.func16, Tryz.ntmps16
  go_wp2_with fail
  refine HC.out.mono ?_
  rintro e w1 ⟨mb, rfl, hf⟩
  obtain ⟨cnt, him, hc⟩ := hf.im
  have HB := Hidden.mk hf.bel
  have HS := Hidden.mk (sortedN_call mb cnt (pv W) w1 him (by omega))
  clear hf him HC
  go_wp2_with fail
  refine (keysN_call mb w1).mono ?_
  rintro e w2 ⟨rfl, rfl⟩
  go_wp2_with fail
  refine HS.out.mono ?_
  rintro e w3 ⟨v, S, rfl, hS, hown, hb⟩
  have hSL := HKL.out S hS
  subst hSL
  have HF : Hidden (w3.ownsRow w.heap.size 3 1 v S.length (S.flatMap ncell) ∧ Below w.heap.size w w3) := ⟨by
    rw [ncell_map, List.map_map]; exact own_base hown HB.out.size, HB.out.trans (hb.mono HB.out.size)⟩
  clear hS hown hb HS
  go_wp2_with fail
  go_ret
  exact ⟨v, rfl, HF.out.1, HF.out.2⟩
set_option maxRecDepth 100000 in
theorem dead_any (hp : Hp w0 w F h l) (hg : Good l) :
    Calls Tryz.prog 17 #[.pointer (some ⟨h, 0, none⟩)] w fun e w' => ∃ v, e = .returned v ∧ w'.ownsRow w.heap.size 3 1 v (deadL l).length ((deadL l).flatMap ncell) ∧ Below w.heap.size w w' := by
  obtain ⟨i0', hi0, hz0, hz1, hz2⟩ := info_parts int_infoC
  have HI := Hidden.mk (And.intro hi0 (And.intro hz0 (And.intro hz1 hz2)))
  have HC := Hidden.mk (from_any hp hg)
  have HEN : Hidden (∀ e ∈ entriesL l, ∃ k : Nat, k < 40 ∧ e = ((k : Int) + 1, rawE l k)) := ⟨fun e he => by
    obtain ⟨k, h1, -, h2⟩ := entL_mem.1 he
    exact ⟨k, h1, h2⟩⟩
  have hle : (entriesL l).length ≤ 40 := entsL_len _ _ 40
  have HD : Hidden (deadL l = deadE l (entriesL l)) := ⟨rfl⟩
  generalize deadL l = DL at *
  clear hp hg hi0 hz0 hz1 hz2
  go_enter Tryz.func17, Tryz.ntmps17
  go_wp2_with fail
  refine HC.out.mono ?_
  rintro e w1 ⟨mb, rfl, hf⟩
  have HF1 := Hidden.mk hf
  have HEC := Hidden.mk (hentries_any hf.hp)
  generalize entriesL l = E at *
  clear hf HC
  go_wp2_with fail
  refine HEC.out.mono ?_
  rintro e w2 ⟨v, rfl, hown, hb2⟩
  obtain ⟨A1, c1, rfl, hc1, -⟩ := own_split hown
  have HR := Hidden.mk (own_rdX3 (f := ecells) (fun _ => rfl) rfl hown)
  have HF2 := Hidden.mk (HF1.out.below hb2)
  generalize hm : E.length = m at *
  have HM := Hidden.mk hm
  clear hown hb2 HEC HF1 hm
  go_wp2_with fail
  go_loopg [2, 13] m (fun q v i wr => ∃ k : Nat, k ≤ m ∧ q = m - k ∧ i = .int .i64 (k : Int) ∧ Hidden (Below w2.heap.size w2 wr ∧ wr.ownsRow w2.heap.size 3 1 v (deadE l (E.take k)).length ((deadE l (E.take k)).flatMap ncell)))
  case atStart => exact ⟨0, by omega, rfl, rfl, ⟨Below.refl _ _, World.ownsRow_nil _ _ _ _⟩⟩
  case round =>
    obtain ⟨k, hk, rfl, rfl, hst⟩ := hrel
    by_cases hlt : k < m
    · have hkE : k < E.length := by rw [HM.out]; exact hlt
      obtain ⟨p, off, rfl, hcx⟩ := (HR.out.below hst.out.1) k hkE
      have x0 := hcx 0 _ rfl
      have x1 := hcx 1 _ rfl
      have x2 := hcx 2 _ rfl
      have x3 := hcx 3 _ rfl
      rw [Nat.add_zero] at x0
      have HS := Hidden.mk (deadE_succ l E k hkE)
      obtain ⟨j, hj, hej⟩ := HEN.out E[k] (List.getElem_mem hkE)
      have hdl : (deadE l (E.take k)).length ≤ 40 := Nat.le_trans (deadE_len _ _) (by rw [List.length_take]; omega)
      rw [hej] at x0 x1 x2 x3 HS
      dsimp only at x0 x1 x2 x3 HS
      rw [show ((j : Int) + 1).toNat = j + 1 by omega] at HS
      generalize rAt (rawE l j) = e1 at *
      generalize rLen (rawE l j) = e2 at *
      generalize rTag (rawE l j) = e3 at *
      have i0 : (0 : Int) ≤ k := by omega
      have i1 : (k : Int) < m := by omega
      have s3 : IntKind.i64.wrap ((k : Int) + 1) = (k : Int) + 1 := IntWalk.i64_in _ (by omega)
      have hal : Below wr.heap.size wr (wr.alloc (.cells #[.int .i64 ((j : Int) + 1), .int .i64 e1, .int .i64 e2, .int .i64 e3] 68)) := (Below.refl _ _).alloc (Nat.le_refl _) _
      have hFW := (HF2.out.below hst.out.1).below hal
      obtain ⟨lk0, lk1⟩ := hFW.look (y := j + 1) (by omega)
      rw [show ((j + 1 : Nat) : Int) = (j : Int) + 1 from by omega] at lk0 lk1
      have HN := Hidden.mk (And.intro (hst.out.1.trans (hal.mono hst.out.1.size)) (own_below hst.out.2 hal))
      generalize hDe : deadE l (E.take k) = DE at *
      clear hcx hst hej hFW hDe
      cases hw : fromW l (j + 1) with
      | some pp =>
        have lk := (lk1 pp hw).1
        rw [hw] at HS
        have HSS : Hidden (deadE l (E.take (k + 1)) = DE) := ⟨by rw [HS.out]; simp⟩
        generalize (par pp : Int) = pz at *
        clear lk0 lk1 hw HS hal
        go_wp2_with fail
        go_roundg (m - (k + 1))
        case measure => omega
        case rel => exact ⟨k + 1, by omega, rfl, by go_num, ⟨by rw [HSS.out]; exact HN.out⟩⟩
      | none =>
        have lk := lk0 hw
        rw [hw] at HS
        have HSS : Hidden (deadE l (E.take (k + 1)) = DE ++ [j + 1]) := ⟨by rw [HS.out]; simp⟩
        obtain ⟨hi0, hz0, hz1, hz2⟩ := HI.out
        clear lk0 lk1 hw HS hal
        go_wp2_with (at_builtin; refine wpList_append_lies _ rfl (.tmp 26) (.tmp 29) _ rfl w2.heap.size 3 i0' _ 1 8 Tryz.underlying27 hi0 hz0 hz1 hz2 rfl (by decide) u2 DE.length (DE.flatMap ncell) rfl (own_below HN.out.2 ((Below.refl _ _).alloc (Nat.le_refl _) _)) ⟨wr.heap.size + 1, 0, none⟩ 1 1 [.int .i64 ((j : Int) + 1)] rfl rfl (World.news_of_block (cs := #[.int .i64 ((j : Int) + 1)]) (t := 3) (fr := (0, 0)) (by have hq_ := heap_alloc_new ((wr.alloc (.cells #[.int .i64 ((j : Int) + 1), .int .i64 e1, .int .i64 e2, .int .i64 e3] 68))) (.cells #[.int .i64 ((j : Int) + 1)] 3); rwa [World.size_alloc] at hq_)) (by simp [Value.oneCell']) (by omega) (by simp only [maxLen]; omega) (by omega) (by have hz_ := HN.out.1.size; rw [World.size_alloc]; omega) (wr.heap.size + 1 + 1) (by simp) ?_; intro g8 cap8 w8 hown8 hg8 hat8 hlt8)
        have hgW := grown_trans' ((Below.refl (wr.alloc (.cells #[.int .i64 ((j : Int) + 1), .int .i64 e1, .int .i64 e2, .int .i64 e3] 68)).heap.size (wr.alloc (.cells #[.int .i64 ((j : Int) + 1), .int .i64 e1, .int .i64 e2, .int .i64 e3] 68))).alloc (Nat.le_refl _) _) hg8
        have hB8 : Below w2.heap.size w2 w8 := HN.out.1.grown hgW HN.out.1.size (fun q hq => (HN.out.2.lt q hq).1)
        have HF : Hidden (Below w2.heap.size w2 w8 ∧ w8.ownsRow w2.heap.size 3 1 (.slice (some ⟨g8, 0, none⟩) (DE.length + 1) cap8) (DE ++ [j + 1]).length ((DE ++ [j + 1]).flatMap ncell)) := ⟨hB8, by
          rw [List.length_append, List.flatMap_append]
          simpa [ncell] using hown8⟩
        clear hgW hB8 hown8 hg8 hat8 hlt8 hi0 hz0 hz1 hz2
        go_roundg (m - (k + 1))
        case measure => omega
        case rel => exact ⟨k + 1, by omega, rfl, by go_num, ⟨by rw [HSS.out]; exact HF.out⟩⟩
    · obtain rfl : m = k := by omega
      have hT := hst.out.2
      rw [List.take_of_length_le (by rw [HM.out]; exact Nat.le_refl _), ← HD.out] at hT
      have HF : Hidden (wr.ownsRow w.heap.size 3 1 u2 DL.length (DL.flatMap ncell) ∧ Below w.heap.size w wr) := ⟨own_base hT HF2.out.bel.size, HF2.out.bel.trans (hst.out.1.mono HF2.out.bel.size)⟩
      clear hT hst HD
      go_wp2_with fail
      go_ret
      exact ⟨_, rfl, HF.out.1, HF.out.2⟩
end
end Go.Proofs.YtcahgmnkphmnhaaGreatDoor
/- Package reach: Path. -/
namespace Go.Proofs.YtcahgmnkphmnhaaGreatDoor
open Go.RowKit Go.Maps Go.ChangeMaps

/-- each beginning of a way is the way to its last one -/
theorem WOk.pre {l : Bytes} {W : Ways} {D : List Nat} (h : WOk l W D) : ∀ (n : Nat) (y : Nat) (p : List Nat), p.length ≤ n → W y = some p → ∀ i (hi : i < p.length), W p[i] = some (p.take (i + 1))
  | 0, _, p, hn, _, i, hi => by omega
  | n + 1, y, p, hn, hp, i, hi => by
    obtain ⟨q, e, h1⟩ := h.ways y p hp
    subst e
    by_cases hl : i = q.length
    · subst hl
      rw [List.getElem_append_right (Nat.le_refl _)]
      simp only [Nat.sub_self, List.getElem_singleton]
      rw [hp, List.take_of_length_le (by simp)]
    · have hiq : i < q.length := by simp at hi; omega
      rcases h1 with ⟨rfl, -⟩ | ⟨x, h2, -⟩
      · simp at hiq
      · rw [List.getElem_append_left hiq, List.take_append_of_le_length (by omega)]
        exact WOk.pre h n x q (by simp at hn; omega) h2 i hiq
theorem par_take (p : List Nat) (i : Nat) (hi : i + 1 < p.length) : par (p.take (i + 2)) = p[i] := by
  have e : p.take (i + 2) = p.take i ++ [p[i], p[i + 1]] := by
    rw [List.take_succ_eq_append_getElem hi, List.take_succ_eq_append_getElem (by omega), List.append_assoc]; rfl
  rw [e]; exact par_two _ _ _
theorem par_take0 (p : List Nat) (h : 0 < p.length) : par (p.take 1) = p[0] := by
  have e : p.take 1 = [p[0]] := by
    rw [show (1 : Nat) = 0 + 1 from rfl, List.take_succ_eq_append_getElem h]; rfl
  rw [e]; rfl
theorem WOk.ne {l : Bytes} {W : Ways} {D : List Nat} (h : WOk l W D) {y : Nat} {p : List Nat} (hp : W y = some p) {i : Nat} (hi : i + 1 < p.length) : p[i] ≠ p[i + 1] := fun e => by
  have h1 := h.pre _ y p (Nat.le_refl _) hp i (by omega)
  have h2 := h.pre _ y p (Nat.le_refl _) hp (i + 1) hi
  rw [e, h2] at h1
  have := congrArg List.length (Option.some.inj h1)
  simp at this; omega
theorem own_one (w : World) (x : Value) : (w.alloc (.cells #[x] 3)).ownsRow w.heap.size 3 1 (.slice (some ⟨w.heap.size, 0, none⟩) 1 1) 1 [x] :=
  ⟨rfl, .inr ⟨w.heap.size, 1, #[x], rfl, Nat.le_refl _, heap_alloc_new w _, Nat.le_refl _, by simp [maxLen], rfl, rfl⟩⟩
section
variable {w0 w : World} {F : Nat → Prop} {h : Nat} {l : Bytes}
set_option maxRecDepth 100000 in
theorem path_no (x : Int) (hp : Hp w0 w F h l) (h0 : hE l x ≠ 0) :
    Calls Tryz.prog 13 #[.pointer (some ⟨h, 0, none⟩), .int .i64 x] w fun e w' => e = .returned (.tuple #[.slice none 0 0, errV (hE l x)]) ∧ Below w.heap.size w w' := by
  have HT := Hidden.mk (htag_any x hp)
  obtain ⟨ec, hec⟩ : ∃ ec, hE l x = ec + 1 := ⟨hE l x - 1, by omega⟩
  rw [hec, show errV (ec + 1) = .iface 79 (.int .i64 ((ec + 1 : Nat) : Int)) from rfl] at HT ⊢
  generalize gT l x = tg at *
  generalize ((ec + 1 : Nat) : Int) = ei at *
  clear hp h0 hec
  go_enter Tryz.func13, Tryz.ntmps13
  go_wp2_with fail
  refine HT.out.mono ?_
  rintro e w1 ⟨rfl, hb1⟩
  have HB := Hidden.mk hb1
  clear hb1 HT
  go_wp2_with fail
  go_ret2
  exact ⟨rfl, HB.out⟩
set_option maxRecDepth 100000 in
theorem path_none (x : Nat) (hp : Hp w0 w F h l) (hg : Good l) (h0 : hE l (x : Int) = 0) (hw : fromW l x = none) :
    Calls Tryz.prog 13 #[.pointer (some ⟨h, 0, none⟩), .int .i64 (x : Int)] w fun e w' => e = .returned (.tuple #[.slice none 0 0, errV 5]) ∧ Below w.heap.size w w' := by
  have HT := Hidden.mk (htag_any (x : Int) hp)
  rw [h0, show errV 0 = Value.nilIface from rfl] at HT
  have hx := hE_nat h0
  have HC : Hidden (∀ W, Below w.heap.size w W → Calls Tryz.prog 43 #[.pointer (some ⟨h, 0, none⟩)] W fun e w' => ∃ mb, e = .returned (.map (some mb)) ∧ FrSt w0 W w' F h mb l (fromW l)) := ⟨fun W hW => from_any (hp.below hW) hg⟩
  have HLK : Hidden (∀ W w' mb, FrSt w0 W w' F h mb l (fromW l) → (Instr.lookup 81 (.map (some mb)) (.int .i64 (x : Int)) true).run Tryz.prog w' = .ok (.tuple #[.int .i64 0, .bool false]) w') := ⟨fun W w' mb hf => (hf.look (y := x) (by omega)).1 hw⟩
  generalize gT l (x : Int) = tg at *
  clear hp h0 hg hw hx
  go_enter Tryz.func13, Tryz.ntmps13
  go_wp2_with fail
  refine HT.out.mono ?_
  rintro e w1 ⟨rfl, hb1⟩
  have HB := Hidden.mk hb1
  clear hb1 HT
  go_wp2_with fail
  refine (HC.out w1 HB.out).mono ?_
  rintro e w2 ⟨mb, rfl, hf⟩
  have lk := HLK.out _ _ _ hf
  have HB2 := Hidden.mk (HB.out.trans (hf.bel.mono HB.out.size))
  clear hf HC HLK HB
  go_wp2_with fail
  go_ret2
  exact ⟨rfl, HB2.out⟩
set_option maxRecDepth 100000 in
theorem path_ok (x : Nat) (p : List Nat) (hp : Hp w0 w F h l) (hg : Good l) (hw : fromW l x = some p) :
    Calls Tryz.prog 13 #[.pointer (some ⟨h, 0, none⟩), .int .i64 (x : Int)] w fun e w' => ∃ v, e = .returned (.tuple #[v, .nilIface]) ∧ w'.ownsRow w.heap.size 3 1 v p.length (p.flatMap ncell) ∧ Below w.heap.size w w' := by
  obtain ⟨i0', hi0, hz0, hz1, hz2⟩ := info_parts int_infoC
  have HI := Hidden.mk (And.intro hi0 (And.intro hz0 (And.intro hz1 hz2)))
  have h0 : hE l (x : Int) = 0 := way_hE hg (by rw [hw]; rfl)
  have HT := Hidden.mk (htag_any (x : Int) hp)
  rw [h0, show errV 0 = Value.nilIface from rfl] at HT
  have hx := hE_nat h0
  obtain ⟨D, hD, -⟩ := fromW_ok hg
  have hfrom : ∀ W, Below w.heap.size w W → Calls Tryz.prog 43 #[.pointer (some ⟨h, 0, none⟩)] W fun e w' => ∃ mb, e = .returned (.map (some mb)) ∧ FrSt w0 W w' F h mb l (fromW l) := fun W hW => from_any (hp.below hW) hg
  generalize fromW l = WW at *
  have hplast : ∃ q, p = q ++ [x] := by
    obtain ⟨q, e, -⟩ := hD.ways x p hw
    exact ⟨q, e⟩
  have hpl : 1 ≤ p.length ∧ p.length ≤ 40 := by
    obtain ⟨q, e⟩ := hplast
    refine ⟨by rw [e]; simp, ?_⟩
    have hnd : p.Nodup := by
      refine List.pairwise_iff_getElem.2 fun i j hi hj hij e' => ?_
      have h1 := hD.pre _ x p (Nat.le_refl _) hw i hi
      have h2 := hD.pre _ x p (Nat.le_refl _) hw j hj
      rw [e', h2] at h1
      have := congrArg List.length (Option.some.inj h1)
      simp at this; omega
    refine nodup_le1 hnd fun k hk => ?_
    obtain ⟨i, hi, rfl⟩ := List.getElem_of_mem hk
    exact hE_nat (hD.dh _ ((hD.dk _).1 (by rw [hD.pre _ x p (Nat.le_refl _) hw i hi]; rfl)))
  have HC : Hidden (∀ W, Below w.heap.size w W → Calls Tryz.prog 43 #[.pointer (some ⟨h, 0, none⟩)] W fun e w' => ∃ mb, e = .returned (.map (some mb)) ∧ FrSt w0 W w' F h mb l WW) := ⟨hfrom⟩
  have HLK : Hidden (∀ W w' mb, FrSt w0 W w' F h mb l WW → (Instr.lookup 81 (.map (some mb)) (.int .i64 (x : Int)) true).run Tryz.prog w' = .ok (.tuple #[.int .i64 (par p : Int), .bool true]) w') := ⟨fun W w' mb hf => ((hf.look (y := x) (by omega)).2 p hw).1⟩
  have HLI : Hidden (∀ W w' mb, FrSt w0 W w' F h mb l WW → ∀ i (hi : i < p.length), (Instr.lookup 81 (.map (some mb)) (.int .i64 (p[i] : Int)) false).run Tryz.prog w' = .ok (.int .i64 ((if i = 0 then p[i] else p[i - 1] : Nat) : Int)) w') := ⟨fun W w' mb hf i hi => by
    have hwi := hD.pre _ x p (Nat.le_refl _) hw i hi
    have h41 := hD.lt41 (k := p[i]) (by rw [hwi]; rfl)
    have := ((hf.look (y := p[i]) h41).2 _ hwi).2
    rw [this]
    congr 3
    by_cases e : i = 0
    · subst e; rw [if_pos rfl]; exact congrArg Nat.cast (par_take0 p hi)
    · rw [if_neg e]
      obtain ⟨j, rfl⟩ : ∃ j, i = j + 1 := ⟨i - 1, by omega⟩
      exact congrArg Nat.cast (par_take p j hi)⟩
  have HNE : Hidden (∀ i (hi : i + 1 < p.length), p[i] ≠ p[i + 1]) := ⟨fun i hi => hD.ne hw hi⟩
  have HXL : Hidden (∀ hi : p.length - 1 < p.length, x = p[p.length - 1]) := ⟨fun hi => by
    obtain ⟨q, e⟩ := hplast
    subst e
    simp⟩
  generalize gT l (x : Int) = tg at *
  clear hp h0 hg hw hx hD hfrom hi0 hz0 hz1 hz2 hplast
  go_enter Tryz.func13, Tryz.ntmps13
  go_wp2_with fail
  refine HT.out.mono ?_
  rintro e w1 ⟨rfl, hb1⟩
  have HB := Hidden.mk hb1
  clear hb1 HT
  go_wp2_with fail
  refine (HC.out w1 HB.out).mono ?_
  rintro e w2 ⟨mb, rfl, hf⟩
  have lk := HLK.out _ _ _ hf
  have HF2 := Hidden.mk hf
  have HO2 := Hidden.mk (own_one w2 (.int .i64 (x : Int)))
  have HBA := Hidden.mk ((Below.refl w2.heap.size w2).alloc (Nat.le_refl _) (.cells #[.int .i64 (x : Int)] 3))
  generalize (par p : Int) = pz at *
  clear hf HC HLK
  go_wp2_with fail
  generalize w2.alloc (.cells #[.int .i64 (x : Int)] 3) = w3 at *
  clear lk
  go_loopg [1, 11] (p.length - 1) (fun q x' v wr => ∃ (i : Nat) (hi : i < p.length), q = i ∧ x' = .int .i64 (p[i] : Int) ∧ Hidden (Below w2.heap.size w2 wr ∧ wr.ownsRow w2.heap.size 3 1 v (p.length - i) ((p.drop i).reverse.flatMap ncell)))
  case atStart =>
    refine ⟨p.length - 1, by omega, rfl, by rw [← HXL.out (by omega)], ⟨HBA.out, ?_⟩⟩
    have e : p.drop (p.length - 1) = [x] := by
      rw [List.drop_eq_getElem_cons (by omega), HXL.out (by omega), List.drop_of_length_le (by omega)]
    rw [e, show p.length - (p.length - 1) = 1 by omega]
    exact HO2.out
  case round =>
    obtain ⟨i, hi, hqi, rfl, hst⟩ := hrel
    obtain rfl : i = _ := hqi.symm
    have hFW := HF2.out.below hst.out.1
    have lki := HLI.out _ _ _ hFW i hi
    obtain ⟨A4, c4, rfl, hc4, -⟩ := own_split hst.out.2
    by_cases h0 : i = 0
    · subst h0
      rw [if_pos rfl] at lki
      have hown := hst.out.2
      rw [List.drop_zero, Nat.sub_zero] at hown
      obtain ⟨g, hA⟩ : ∃ g, A4 = some ⟨g, 0, none⟩ := by
        rcases hown.2 with ⟨he, hz⟩ | ⟨g, cap, cur, he, -⟩
        · omega
        · injection he with he; exact ⟨g, he⟩
      subst hA
      have HRV := Hidden.mk (reverseNat_any w2.heap.size g p.length c4 p.reverse wr (by simp) (by omega) hown)
      rw [List.reverse_reverse] at HRV
      have HST := Hidden.mk hst.out
      have hself : ((p[0] : Int) != (p[0] : Int)) = false := by simp
      have hself2 : ((p[0] : Int) == (p[0] : Int)) = true := by simp
      generalize (p[0] : Int) = p0 at *
      clear hst hown hFW
      go_wp2_with fail
      refine HRV.out.mono ?_
      rintro e w5 ⟨rfl, hown5, hg5⟩
      have hlo : w2.heap.size ≤ g := (HST.out.2.lt g rfl).1
      have HF : Hidden (w5.ownsRow w.heap.size 3 1 (.slice (some ⟨g, 0, none⟩) p.length c4) p.length (p.flatMap ncell) ∧ Below w.heap.size w w5) := ⟨own_base hown5 (Nat.le_trans HB.out.size HF2.out.bel.size), (HB.out.trans (HF2.out.bel.mono HB.out.size)).trans ((HST.out.1.grown hg5 HST.out.1.size (fun q hq => by rw [← Option.some.inj hq]; exact hlo)).mono (Nat.le_trans HB.out.size HF2.out.bel.size))⟩
      clear hown5 hg5 HRV HST hlo
      go_wp2_with fail
      go_ret2
      exact ⟨_, rfl, HF.out.1, HF.out.2⟩
    · obtain ⟨j, rfl⟩ : ∃ j, i = j + 1 := ⟨i - 1, by omega⟩
      rw [if_neg h0] at lki
      simp only [Nat.add_sub_cancel] at lki
      have hne := HNE.out j hi
      have HS : Hidden ((p.drop j).reverse = (p.drop (j + 1)).reverse ++ [p[j]]) := ⟨by rw [List.drop_eq_getElem_cons (show j < p.length by omega), List.reverse_cons]⟩
      have hd : ((p[j] : Int) != (p[j + 1] : Int)) = true := by simp; omega
      have hd2 : ((p[j] : Int) == (p[j + 1] : Int)) = false := by simp; omega
      have HST := Hidden.mk hst.out
      have HPJ : Hidden ((p[j] : Int) = p[j]) := ⟨rfl⟩
      generalize hpj : p[j] = pj at *
      generalize p[j + 1] = pk at *
      obtain ⟨hi0, hz0, hz1, hz2⟩ := HI.out
      clear hst hFW h0 hne
      go_wp2_with (at_builtin; refine wpList_append_lies _ rfl (.tmp 42) (.tmp 44) _ rfl w2.heap.size 3 i0' _ 1 8 Tryz.underlying27 hi0 hz0 hz1 hz2 rfl (by decide) (.slice A4 (p.length - (j + 1)) c4) (p.length - (j + 1)) ((p.drop (j + 1)).reverse.flatMap ncell) rfl (own_below HST.out.2 ((Below.refl _ _).alloc (Nat.le_refl _) _)) ⟨(wr).heap.size, 0, none⟩ 1 1 [.int .i64 (pj : Int)] rfl rfl (World.news_of_block (cs := #[.int .i64 (pj : Int)]) (t := 3) (fr := (0, 0)) (heap_alloc_new (wr) _)) (by simp [Value.oneCell']) (by omega) (by simp only [maxLen]; omega) (by omega) (by have hz_ := HST.out.1.size; rw [World.size_alloc]; omega) ((wr).heap.size + 1) (by simp) ?_; intro g8 cap8 w8 hown8 hg8 hat8 hlt8)
      have hgW := grown_trans' ((Below.refl wr.heap.size wr).alloc (Nat.le_refl _) _) hg8
      have hB8 : Below w2.heap.size w2 w8 := HST.out.1.grown hgW HST.out.1.size (fun q hq => (HST.out.2.lt q hq).1)
      have HF : Hidden (Below w2.heap.size w2 w8 ∧ w8.ownsRow w2.heap.size 3 1 (.slice (some ⟨g8, 0, none⟩) (p.length - (j + 1) + 1) cap8) (p.length - j) ((p.drop j).reverse.flatMap ncell)) := ⟨hB8, by
        rw [HS.out, List.flatMap_append, show p.length - j = p.length - (j + 1) + 1 by omega]
        simpa [ncell] using hown8⟩
      clear hgW hB8 hown8 hg8 hat8 hlt8 hi0 hz0 hz1 hz2
      go_roundg j
      case measure => omega
      case rel => exact ⟨j, by omega, rfl, by rw [hpj], HF⟩
end
end Go.Proofs.YtcahgmnkphmnhaaGreatDoor
