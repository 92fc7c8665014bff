/- Contracts and plain laws, put together: ReachP, SweepP, RefXP, RefX1, RefX2, RefX3, RefX4, StepP, RefPO, MapI, Dev0, Dev1, RefS2, RefS3, Open5, Stat1, MoveRoomP, StatSumsP, MoveRoom1, LayK, LayR, SortI, SortJ, Dev2, Keys1, DiffA, DiffA1, Dev3, Diff3, Reach2, Reach3. -/
import Derived.Test.YtcahgmnkphmnhaaGreatStatSumsFrameM4
import Derived.Lib.SlicesCompact
import Derived.Test.YtcahgmnkphmnhaaGreatStatSumsFrameM2
import Derived.Test.YtcahgmnkphmnhaaGreatStatSumsFrameM1
import Derived.Deep.DeepCutAuto
import Derived.Deep.LoopGhost
import Derived.BigQuiet
import Derived.Deep.CutBlock
import Derived.StillTailTactics
import Derived.Maps.Own
import Derived.Maps.OwnSet
import Derived.Maps.RangeWalk
import Derived.Deep.RegionHeld3
import Derived.Deep.AppendLies
import Derived.Test.YtcahgmnkphmnhaaGreatStatSumsFrameM3
import Derived.Shelf.SlGeneric
import Derived.Shelf.SlIterI.Nil
import Derived.Shelf.SortM.Plain
import Derived.Shelf.SortM.SortNone
import Derived.Ground.GgzProg
import Derived.Ground.SlgmProg
import Derived.Shelf.Slices.CompactI
import Derived.Shelf.Slices.Reverse
/- Package reach, plain: who is led to, level by level, and by which way. -/
namespace Go.Proofs.YtcahgmnkphmnhaaGreat
open Go.RowKit

def sortNat (L : List Nat) : List Nat := L.mergeSort (fun x y => decide (x ≤ y))
theorem sortNat_mem {L : List Nat} {x : Nat} : x ∈ sortNat L ↔ x ∈ L := by unfold sortNat; exact List.mem_mergeSort
theorem sortNat_len (L : List Nat) : (sortNat L).length = L.length := by unfold sortNat; exact List.length_mergeSort _
theorem sortNat_up (L : List Nat) : (sortNat L).Pairwise (· ≤ ·) := by
  have := List.pairwise_mergeSort (le := fun x y : Nat => decide (x ≤ y)) (fun a b c h1 h2 => by simp only [decide_eq_true_eq] at *; omega) (fun a b => by simp only [Bool.or_eq_true, decide_eq_true_eq]; omega) L
  exact this.imp fun h => of_decide_eq_true h
/-- what compacting leaves, plain -/
def dedup : List Nat → List Nat
  | [] => []
  | [x] => [x]
  | x :: y :: r => if x = y then dedup (y :: r) else x :: dedup (y :: r)
theorem dedup_mem (x : Nat) : ∀ L, x ∈ dedup L ↔ x ∈ L
  | [] => Iff.rfl
  | [y] => Iff.rfl
  | y :: z :: r => by
    unfold dedup
    split
    · rename_i h
      rw [dedup_mem x (z :: r), h]; simp
    · rw [List.mem_cons, dedup_mem x (z :: r), List.mem_cons (b := y)]
theorem dedup_up : ∀ L : List Nat, L.Pairwise (· ≤ ·) → (dedup L).Pairwise (· < ·)
  | [], _ => List.Pairwise.nil
  | [y], _ => List.pairwise_singleton ..
  | y :: z :: r, h => by
    have h1 := (List.pairwise_cons.1 h)
    unfold dedup
    split
    · exact dedup_up _ h1.2
    · rename_i hn
      refine List.pairwise_cons.2 ⟨fun a ha => ?_, dedup_up _ h1.2⟩
      have ha' := (dedup_mem a _).1 ha
      have h2 := List.pairwise_cons.1 h1.2
      have hyz := h1.1 z (List.mem_cons_self ..)
      rcases List.mem_cons.1 ha' with rfl | hr
      · omega
      · have := h2.1 a hr; omega
theorem mem_compact {L : List Int} {x : Int} : x ∈ Lib.compact L ↔ x ∈ L := by
  unfold Lib.compact Lib.compactUpTo
  rw [List.mem_map]
  constructor
  · rintro ⟨j, hj, rfl⟩
    have hj' := List.mem_range.1 (List.mem_filter.1 hj).1
    rw [getElem!_pos _ j (by simpa using hj')]
    simp
  · intro hx
    have hex : ∃ j : Nat, ∃ h : j < L.length, L[j] = x := by
      obtain ⟨j, hj, he⟩ := List.getElem_of_mem hx
      exact ⟨j, hj, he⟩
    -- the first place where it stands
    have hmin : ∃ j : Nat, (∃ h : j < L.length, L[j] = x) ∧ ∀ i, i < j → ¬ ∃ h : i < L.length, L[i] = x := by
      obtain ⟨j, hj⟩ := hex
      induction j using Nat.strongRecOn with
      | ind j ih =>
        by_cases hb : ∃ i, i < j ∧ ∃ h : i < L.length, L[i] = x
        · obtain ⟨i, hi, hx'⟩ := hb; exact ih i hi hx'
        · exact ⟨j, hj, fun i hi hx' => hb ⟨i, hi, hx'⟩⟩
    obtain ⟨j, ⟨hj, he⟩, hno⟩ := hmin
    refine ⟨j, List.mem_filter.2 ⟨List.mem_range.2 hj, ?_⟩, ?_⟩
    · unfold Lib.keeps
      refine decide_eq_true ?_
      by_cases h0 : j = 0
      · exact .inl h0
      · refine .inr fun h => hno (j - 1) (by omega) ⟨by omega, ?_⟩
        rw [getElem!_pos _ j (by simpa using hj), getElem!_pos _ (j - 1) (by simp; omega)] at h
        simpa [he] using h.symm
    · rw [getElem!_pos _ j (by simpa using hj)]; simpa using he
theorem compact_up (L : List Int) (h : L.Pairwise (· ≤ ·)) : (Lib.compact L).Pairwise (· < ·) := by
  unfold Lib.compact Lib.compactUpTo
  refine List.pairwise_map.2 ?_
  refine List.Pairwise.imp_of_mem ?_ ((List.pairwise_lt_range (n := L.length)).filter _)
  intro i j hi hj hij
  have hi' := List.mem_range.1 (List.mem_filter.1 hi).1
  have hj' := List.mem_range.1 (List.mem_filter.1 hj).1
  have hk := of_decide_eq_true (List.mem_filter.1 hj).2
  have hp := List.pairwise_iff_getElem.1 h
  rw [getElem!_pos _ i (by simpa using hi'), getElem!_pos _ j (by simpa using hj')]
  rcases hk with h0 | hk
  · omega
  · rw [getElem!_pos _ j (by simpa using hj'), getElem!_pos _ (j - 1) (by simp; omega)] at hk
    have h1 : L[j - 1] ≤ L[j] := hp (j - 1) j (by omega) hj' (by omega)
    have h2 : L[i] ≤ L[j - 1] := by
      by_cases e : i = j - 1
      · subst e; exact Int.le_refl _
      · exact hp i (j - 1) hi' (by omega) (by omega)
    simp only [List.getElem_toArray] at hk ⊢
    omega
/-- two lists that rise and have the same members are one -/
theorem up_ext : ∀ {A B : List Nat}, A.Pairwise (· < ·) → B.Pairwise (· < ·) → (∀ x, x ∈ A ↔ x ∈ B) → A = B
  | [], [], _, _, _ => rfl
  | [], b :: B, _, _, h => absurd ((h b).2 (List.mem_cons_self ..)) (by simp)
  | a :: A, [], _, _, h => absurd ((h a).1 (List.mem_cons_self ..)) (by simp)
  | a :: A, b :: B, hA, hB, h => by
    have ha := List.pairwise_cons.1 hA
    have hb := List.pairwise_cons.1 hB
    have e : a = b := by
      have h1 := (h a).1 (List.mem_cons_self ..)
      have h2 := (h b).2 (List.mem_cons_self ..)
      rcases List.mem_cons.1 h1 with h1 | h1
      · exact h1
      · rcases List.mem_cons.1 h2 with h2 | h2
        · exact h2.symm
        · have := hb.1 _ h1; have := ha.1 _ h2; omega
    subst e
    congr 1
    refine up_ext ha.2 hb.2 fun x => ?_
    constructor
    · intro hx
      rcases List.mem_cons.1 ((h x).1 (List.mem_cons_of_mem _ hx)) with e | hx'
      · subst e; have := ha.1 _ hx; omega
      · exact hx'
    · intro hx
      rcases List.mem_cons.1 ((h x).2 (List.mem_cons_of_mem _ hx)) with e | hx'
      · subst e; have := hb.1 _ hx; omega
      · exact hx'
theorem compact_cast (L : List Nat) : Lib.compact ((sortNat L).map fun i : Nat => (i : Int)) = (dedup (sortNat L)).map fun i : Nat => (i : Int) := by
  have hs : ((sortNat L).map fun i : Nat => (i : Int)).Pairwise (· ≤ ·) := List.pairwise_map.2 ((sortNat_up L).imp fun h => by omega)
  have h1 := compact_up _ hs
  have hc : Lib.compact ((sortNat L).map fun i : Nat => (i : Int)) = ((Lib.compact ((sortNat L).map fun i : Nat => (i : Int))).map Int.toNat).map fun i : Nat => (i : Int) := by
    rw [List.map_map]
    conv => lhs; rw [← List.map_id (Lib.compact _)]
    refine List.map_congr_left fun x hx => ?_
    obtain ⟨k, -, rfl⟩ := List.mem_map.1 (mem_compact.1 hx)
    simp
  rw [hc]
  congr 1
  refine up_ext ?_ (dedup_up _ (sortNat_up L)) fun x => ?_
  · refine List.pairwise_map.2 (h1.imp_of_mem fun {a b} ha hb hab => ?_)
    obtain ⟨k, -, rfl⟩ := List.mem_map.1 (mem_compact.1 ha)
    obtain ⟨m, -, rfl⟩ := List.mem_map.1 (mem_compact.1 hb)
    simp only [Int.toNat_natCast]; omega
  · rw [dedup_mem, List.mem_map]
    constructor
    · rintro ⟨y, hy, rfl⟩
      obtain ⟨k, hk, rfl⟩ := List.mem_map.1 (mem_compact.1 hy)
      simpa using hk
    · intro hx
      exact ⟨(x : Int), mem_compact.2 (List.mem_map.2 ⟨x, hx, rfl⟩), by simp⟩

/-- ways: to each object that is led to, the way there -/
abbrev Ways := Nat → Option (List Nat)
/-- who is ahead of the last one; the last one, if nobody is -/
def par (p : List Nat) : Nat := p.dropLast.getLast?.getD (p.getLast?.getD 0)
theorem par_one (y : Nat) : par [y] = y := rfl
theorem par_two (q : List Nat) (x y : Nat) : par (q ++ [x, y]) = x := by
  unfold par
  rw [show q ++ [x, y] = (q ++ [x]) ++ [y] by simp, List.dropLast_concat, List.getLast?_concat]; rfl
def wset (W : Ways) (y : Nat) (p : List Nat) : Ways := fun q => if q = y then some p else W q
def wayOf (W : Ways) (x : Nat) : List Nat := (W x).getD []
def stepY (x : Nat) (s : Ways × List Nat) (y : Nat) : Ways × List Nat := if (s.1 y).isSome then s else (wset s.1 y (wayOf s.1 x ++ [y]), s.2 ++ [y])
def stepX (l : Bytes) (s : Ways × List Nat) (x : Nat) : Ways × List Nat := (sortNat (refsL l (x : Int))).foldl (stepY x) s
def lvl (l : Bytes) (s : Ways × List Nat) : Ways × List Nat := s.2.foldl (stepX l) (s.1, [])
def rootsH (l : Bytes) : List Nat := (rootsL l).map (·.2)
def startW (l : Bytes) : Ways := fun q => if q ∈ rootsH l then some [q] else none
def lvlN (l : Bytes) : Nat → Ways × List Nat
  | 0 => (startW l, dedup (sortNat (rootsH l)))
  | k + 1 => lvl l (lvlN l k)
def fromW (l : Bytes) : Ways := (lvlN l 41).1

/-- what holds of ways while they are found: D is who has one -/
structure WOk (l : Bytes) (W : Ways) (D : List Nat) : Prop where
  dn : D.Nodup
  dk : ∀ k, (W k).isSome = true ↔ k ∈ D
  dh : ∀ k ∈ D, hE l (k : Int) = 0
  ways : ∀ y p, W y = some p → ∃ q, p = q ++ [y] ∧ ((q = [] ∧ y ∈ rootsH l) ∨ ∃ x, W x = some q ∧ y ∈ refsL l (x : Int))
  roots : ∀ r ∈ rootsH l, W r = some [r]
theorem hE_nat {l : Bytes} {k : Nat} (h : hE l (k : Int) = 0) : 1 ≤ k ∧ k ≤ 40 := by
  obtain ⟨j, hj, e, -⟩ := hE_zero h
  omega
theorem nodup_le1 {D : List Nat} (hn : D.Nodup) {m : Nat} (h : ∀ k ∈ D, 1 ≤ k ∧ k ≤ m) : D.length ≤ m := by
  have hs : D ⊆ (List.range m).map (· + 1) := fun k hk => by
    have := h k hk
    exact List.mem_map.2 ⟨k - 1, List.mem_range.2 (by omega), by omega⟩
  have := hn.length_le_of_subset hs
  simpa using this
theorem WOk.le {l : Bytes} {W : Ways} {D : List Nat} (h : WOk l W D) : D.length ≤ 40 := nodup_le1 h.dn fun k hk => hE_nat (h.dh k hk)
theorem refsL_mem {l : Bytes} {x y : Int} {z : Nat} (h : z ∈ refsL l x) : hE l (z : Int) = 0 := by
  unfold refsL at h
  have := refsB_mem l (readL l x 0 (min (gL l x) (gT l x))) _ (Nat.le_refl _) z
  rw [List.take_length] at this
  exact this h
theorem rootsH_mem {l : Bytes} (hg : Good l) {r : Nat} (h : r ∈ rootsH l) : hE l (r : Int) = 0 := by
  unfold rootsH at h
  obtain ⟨x, hx, rfl⟩ := List.mem_map.1 h
  exact (good_roots hg hx).2.2
theorem startW_ok {l : Bytes} (hg : Good l) : WOk l (startW l) (dedup (sortNat (rootsH l))) where
  dn := (dedup_up _ (sortNat_up _)).imp fun h => by omega
  dk k := by
    rw [dedup_mem, sortNat_mem]; unfold startW; split <;> simp_all
  dh k hk := rootsH_mem hg (sortNat_mem.1 ((dedup_mem _ _).1 hk))
  ways y p h := by
    unfold startW at h; split at h
    · rename_i hy; cases h; exact ⟨[], rfl, .inl ⟨rfl, hy⟩⟩
    · cases h
  roots r hr := by unfold startW; rw [if_pos hr]
theorem WOk.set {l : Bytes} {W : Ways} {D : List Nat} (h : WOk l W D) {x y : Nat} (hx : x ∈ D) (hy : y ∉ D) (hr : y ∈ refsL l (x : Int)) : WOk l (wset W y (wayOf W x ++ [y])) (D ++ [y]) := by
  obtain ⟨q, hq⟩ := Option.isSome_iff_exists.1 ((h.dk x).2 hx)
  have hne : ∀ k, k ∈ D → k ≠ y := fun k hk e => hy (e ▸ hk)
  have hold : ∀ k, k ∈ D → wset W y (wayOf W x ++ [y]) k = W k := fun k hk => by unfold wset; rw [if_neg (hne k hk)]
  have hin : ∀ k p, W k = some p → k ∈ D := fun k p hk => (h.dk k).1 (by rw [hk]; rfl)
  refine ⟨?_, fun k => ?_, fun k hk => ?_, fun k p hk => ?_, fun r hr => ?_⟩
  · exact List.nodup_append.2 ⟨h.dn, by simp, fun a ha b hb => by simp only [List.mem_singleton] at hb; subst hb; exact hne a ha⟩
  · by_cases e : k = y
    · subst e; unfold wset; simp
    · unfold wset; rw [if_neg e, h.dk k]; simp [e]
  · rcases List.mem_append.1 hk with hk | hk
    · exact h.dh k hk
    · simp only [List.mem_singleton] at hk; subst hk; exact refsL_mem (y := 0) hr
  · by_cases e : k = y
    · subst e
      unfold wset at hk; rw [if_pos rfl] at hk
      cases hk
      refine ⟨_, rfl, .inr ⟨x, ?_, hr⟩⟩
      rw [hold x hx, hq]; unfold wayOf; rw [hq]; rfl
    · unfold wset at hk; rw [if_neg e] at hk
      obtain ⟨q', e1, h1⟩ := h.ways k p hk
      refine ⟨q', e1, h1.imp id fun ⟨x', e2, e3⟩ => ⟨x', ?_, e3⟩⟩
      rw [hold x' (hin _ _ e2)]; exact e2
  · rw [hold r ((h.dk r).1 (by rw [h.roots r hr]; rfl))]; exact h.roots r hr
/-- a level that is under way: ways W of D, of which N are new -/
structure LOk (l : Bytes) (s : Ways × List Nat) (D : List Nat) (W0 : Ways) (D0 : List Nat) : Prop where
  ok : WOk l s.1 D
  spl : D = D0 ++ s.2
  old : ∀ k, k ∈ D0 → s.1 k = W0 k
theorem LOk.stepY {l : Bytes} {s : Ways × List Nat} {D D0 : List Nat} {W0 : Ways} (h : LOk l s D W0 D0) {x y : Nat} (hx : x ∈ D0) (hr : y ∈ refsL l (x : Int)) :
    ∃ D', LOk l (stepY x s y) D' W0 D0 ∧ y ∈ D' ∧ (∀ k ∈ D, k ∈ D') ∧ D'.length = (if (s.1 y).isSome then D.length else D.length + 1) := by
  unfold Go.Proofs.YtcahgmnkphmnhaaGreat.stepY
  by_cases hy : (s.1 y).isSome
  · rw [if_pos hy, if_pos hy]
    exact ⟨D, h, (h.ok.dk y).1 hy, fun _ hk => hk, rfl⟩
  · rw [if_neg hy, if_neg hy]
    have hyD : y ∉ D := fun hk => hy ((h.ok.dk y).2 hk)
    have hxD : x ∈ D := by rw [h.spl]; exact List.mem_append_left _ hx
    refine ⟨D ++ [y], ⟨h.ok.set hxD hyD hr, by rw [h.spl, List.append_assoc], fun k hk => ?_⟩, by simp, fun k hk => List.mem_append_left _ hk, by simp⟩
    have hk' : k ≠ y := fun e => hyD (by rw [h.spl, ← e]; exact List.mem_append_left _ hk)
    show wset s.1 y _ k = _
    unfold wset; rw [if_neg hk']; exact h.old k hk
theorem LOk.foldY {l : Bytes} {D0 : List Nat} {W0 : Ways} {x : Nat} (hx : x ∈ D0) : ∀ (L : List Nat) (s : Ways × List Nat) (D : List Nat), LOk l s D W0 D0 → (∀ y ∈ L, y ∈ refsL l (x : Int)) →
    ∃ D', LOk l (L.foldl (Go.Proofs.YtcahgmnkphmnhaaGreat.stepY x) s) D' W0 D0 ∧ (∀ y ∈ L, y ∈ D') ∧ (∀ k ∈ D, k ∈ D')
  | [], s, D, h, _ => ⟨D, h, fun _ hy => by simp at hy, fun _ hk => hk⟩
  | y :: L, s, D, h, hL => by
    obtain ⟨D1, h1, hy1, hd1, -⟩ := h.stepY hx (hL y (List.mem_cons_self ..))
    obtain ⟨D2, h2, hy2, hd2⟩ := LOk.foldY hx L _ D1 h1 (fun z hz => hL z (List.mem_cons_of_mem _ hz))
    refine ⟨D2, h2, fun z hz => ?_, fun k hk => hd2 k (hd1 k hk)⟩
    rcases List.mem_cons.1 hz with rfl | hz
    · exact hd2 _ hy1
    · exact hy2 z hz
theorem LOk.stepX {l : Bytes} {s : Ways × List Nat} {D D0 : List Nat} {W0 : Ways} (h : LOk l s D W0 D0) {x : Nat} (hx : x ∈ D0) :
    ∃ D', LOk l (stepX l s x) D' W0 D0 ∧ (∀ y ∈ refsL l (x : Int), y ∈ D') ∧ (∀ k ∈ D, k ∈ D') := by
  obtain ⟨D', h1, h2, h3⟩ := LOk.foldY hx (sortNat (refsL l (x : Int))) s D h (fun y hy => sortNat_mem.1 hy)
  exact ⟨D', h1, fun y hy => h2 y (sortNat_mem.2 hy), h3⟩
theorem LOk.foldX {l : Bytes} {D0 : List Nat} {W0 : Ways} : ∀ (L : List Nat) (s : Ways × List Nat) (D : List Nat), LOk l s D W0 D0 → (∀ x ∈ L, x ∈ D0) →
    ∃ D', LOk l (L.foldl (Go.Proofs.YtcahgmnkphmnhaaGreat.stepX l) s) D' W0 D0 ∧ (∀ x ∈ L, ∀ y ∈ refsL l (x : Int), y ∈ D') ∧ (∀ k ∈ D, k ∈ D')
  | [], s, D, h, _ => ⟨D, h, fun _ hy => by simp at hy, fun _ hk => hk⟩
  | x :: L, s, D, h, hL => by
    obtain ⟨D1, h1, hy1, hd1⟩ := h.stepX (hL x (List.mem_cons_self ..))
    obtain ⟨D2, h2, hy2, hd2⟩ := LOk.foldX L _ D1 h1 (fun z hz => hL z (List.mem_cons_of_mem _ hz))
    refine ⟨D2, h2, fun z hz => ?_, fun k hk => hd2 k (hd1 k hk)⟩
    rcases List.mem_cons.1 hz with rfl | hz
    · exact fun y hy => hd2 _ (hy1 y hy)
    · exact hy2 z hz
/-- between two levels: D has ways, row are those that have not been asked yet -/
structure LvOk (l : Bytes) (s : Ways × List Nat) (D : List Nat) : Prop where
  ok : WOk l s.1 D
  row : ∀ x ∈ s.2, x ∈ D
  closed : ∀ x ∈ D, x ∉ s.2 → ∀ y ∈ refsL l (x : Int), y ∈ D
theorem LvOk.start {l : Bytes} (hg : Good l) : LvOk l (lvlN l 0) (dedup (sortNat (rootsH l))) := ⟨startW_ok hg, fun _ h => h, fun x h hn => absurd h hn⟩
theorem LvOk.next {l : Bytes} {s : Ways × List Nat} {D : List Nat} (h : LvOk l s D) : ∃ D', LvOk l (lvl l s) D' ∧ D'.length = D.length + (lvl l s).2.length ∧ (∀ k ∈ D, k ∈ D') := by
  obtain ⟨D', h1, h2, h3⟩ := LOk.foldX (l := l) (D0 := D) (W0 := s.1) s.2 (s.1, []) D ⟨h.ok, by simp, fun _ _ => rfl⟩ h.row
  refine ⟨D', ⟨h1.ok, fun x hx => by rw [h1.spl]; exact List.mem_append_right _ hx, fun x hx hn y hy => ?_⟩, by rw [h1.spl, List.length_append]; rfl, h3⟩
  have hxD : x ∈ D := by
    rw [h1.spl] at hx
    rcases List.mem_append.1 hx with hx | hx
    · exact hx
    · exact absurd hx hn
  by_cases hr : x ∈ s.2
  · exact h2 x hr y hy
  · exact h3 y (h.closed x hxD hr y hy)
theorem lvl_nil (l : Bytes) (W : Ways) : lvl l (W, []) = (W, []) := rfl
theorem LvOk.at_ {l : Bytes} (hg : Good l) : ∀ k, ∃ D, LvOk l (lvlN l k) D ∧ ((lvlN l k).2 = [] ∨ k < D.length)
  | 0 => by
    refine ⟨_, LvOk.start hg, ?_⟩
    by_cases h : (lvlN l 0).2 = []
    · exact .inl h
    · exact .inr (List.length_pos_iff.2 h)
  | k + 1 => by
    obtain ⟨D, h, hd⟩ := LvOk.at_ hg k
    obtain ⟨D', h', hl, -⟩ := h.next
    refine ⟨D', h', ?_⟩
    by_cases hn : (lvlN l (k + 1)).2 = []
    · exact .inl hn
    · right
      have hp : 0 < (lvl l (lvlN l k)).2.length := List.length_pos_iff.2 hn
      rcases hd with hd | hd
      · refine absurd ?_ hn
        show (lvl l (lvlN l k)).2 = []
        have e : lvlN l k = ((lvlN l k).1, []) := by rw [← hd]
        rw [e]; rfl
      · omega
theorem lvlN_end {l : Bytes} (hg : Good l) : (lvlN l 41).2 = [] := by
  obtain ⟨D, h, hd⟩ := LvOk.at_ hg 41
  rcases hd with hd | hd
  · exact hd
  · have := h.ok.le; omega
/-- once a row is empty nothing more comes -/
theorem lvlN_stop {l : Bytes} {k : Nat} (h : (lvlN l k).2 = []) : ∀ m, lvlN l (k + m) = lvlN l k
  | 0 => rfl
  | m + 1 => by
    show lvl l (lvlN l (k + m)) = _
    rw [lvlN_stop h m]
    have e : lvlN l k = ((lvlN l k).1, []) := by rw [← h]
    rw [e]; rfl
theorem fromW_of {l : Bytes} {k : Nat} (hk : k ≤ 41) (h : (lvlN l k).2 = []) : (lvlN l k).1 = fromW l := by
  unfold fromW
  rw [show 41 = k + (41 - k) by omega, lvlN_stop h]
/-- what the whole of it comes to -/
theorem fromW_ok {l : Bytes} (hg : Good l) : ∃ D, WOk l (fromW l) D ∧ ∀ x ∈ D, ∀ y ∈ refsL l (x : Int), y ∈ D := by
  obtain ⟨D, h, -⟩ := LvOk.at_ hg 41
  exact ⟨D, h.ok, fun x hx => h.closed x hx (by rw [lvlN_end hg]; simp)⟩
end Go.Proofs.YtcahgmnkphmnhaaGreat
/- Package reach, plain: the dead, and the image without them. -/
namespace Go.Proofs.YtcahgmnkphmnhaaGreat
open Go.RowKit

/-- the dead among some entries -/
def deadE (l : Bytes) (E : List Ent) : List Nat := (E.filter fun e => (fromW l e.1.toNat).isNone).map fun e => e.1.toNat
def deadL (l : Bytes) : List Nat := deadE l (entriesL l)
theorem filter_take_succ {A B : Type} (p : A → Bool) (f : A → B) (E : List A) (k : Nat) (hk : k < E.length) : ((E.take (k + 1)).filter p).map f = ((E.take k).filter p).map f ++ (if p E[k] = true then [f E[k]] else []) := by
  rw [List.take_succ_eq_append_getElem hk, List.filter_append, List.map_append]
  congr 1
  cases h : p E[k] <;> simp [h]
theorem deadE_succ (l : Bytes) (E : List Ent) (k : Nat) (hk : k < E.length) : deadE l (E.take (k + 1)) = deadE l (E.take k) ++ (if (fromW l E[k].1.toNat).isNone then [E[k].1.toNat] else []) := by
  exact filter_take_succ (fun e : Ent => (fromW l e.1.toNat).isNone) (fun e => e.1.toNat) E k hk
theorem deadE_len (l : Bytes) (E : List Ent) : (deadE l E).length ≤ E.length := by
  unfold deadE; rw [List.length_map]; exact List.length_filter_le ..
theorem deadL_mem {l : Bytes} {x : Nat} : x ∈ deadL l ↔ ∃ k, k < 40 ∧ hasE (rawE l k) = true ∧ fromW l (k + 1) = none ∧ x = k + 1 := by
  unfold deadL deadE
  simp only [List.mem_map, List.mem_filter, entL_mem]
  constructor
  · rintro ⟨e, ⟨⟨k, h1, h2, rfl⟩, h3⟩, rfl⟩
    have e1 : ((k : Int) + 1).toNat = k + 1 := by omega
    rw [e1] at h3 ⊢
    exact ⟨k, h1, h2, by simpa using h3, rfl⟩
  · rintro ⟨k, h1, h2, h3, rfl⟩
    refine ⟨((k : Int) + 1, rawE l k), ⟨⟨k, h1, h2, rfl⟩, ?_⟩, ?_⟩
    · have e1 : ((k : Int) + 1).toNat = k + 1 := by omega
      dsimp only
      rw [e1, h3]; rfl
    · dsimp only; omega
theorem deadL_nodup (l : Bytes) : (deadL l).Nodup := by
  unfold deadL deadE
  refine List.pairwise_map.2 ?_
  refine List.Pairwise.imp_of_mem ?_ ((entL_nodup l).filter _)
  intro a b ha hb hab e
  obtain ⟨k, h1, h2, rfl⟩ := entL_mem.1 (List.mem_filter.1 ha).1
  obtain ⟨m, h3, h4, rfl⟩ := entL_mem.1 (List.mem_filter.1 hb).1
  dsimp only at e hab
  omega
def sweepT (l : Bytes) (D : List Nat) : Bytes := D.foldl (fun l (x : Nat) => freeL l (x : Int)) l
def sweepL (l : Bytes) : Bytes := sweepT l (deadL l)
theorem sweepT_succ (l : Bytes) (D : List Nat) (k : Nat) (hk : k < D.length) : sweepT l (D.take (k + 1)) = freeL (sweepT l (D.take k)) (D[k] : Int) := by
  unfold sweepT; rw [List.take_succ_eq_append_getElem hk, List.foldl_append]; rfl
/-- an image without some of its objects -/
structure SwpR (l l' : Bytes) (gone : List Nat) : Prop where
  good : Good l'
  len : l'.length = l.length
  ents : ∀ j, j < 40 → rawE l' j = if j + 1 ∈ gone then List.replicate 5 0 else rawE l j
  rots : ∀ i, i < 8 → rawR l' i = rawR l i
  rest : ∀ b m, 288 ≤ b → (l'.drop b).take m = (l.drop b).take m
theorem SwpR.refl {l : Bytes} (hg : Good l) : SwpR l l [] := ⟨hg, rfl, fun j _ => by simp, fun _ _ => rfl, fun _ _ _ => rfl⟩
theorem SwpR.roots {l l' : Bytes} {gone : List Nat} (h : SwpR l l' gone) : rootsL l' = rootsL l := by
  unfold rootsL; exact rootsF_congr _ _ 8 fun j hj => h.rots j hj
theorem has_zero5 : hasE (List.replicate 5 0) = false := rfl
theorem SwpR.has {l l' : Bytes} {gone : List Nat} (h : SwpR l l' gone) {j : Nat} (hj : j < 40) : hasE (rawE l' j) = true ↔ hasE (rawE l j) = true ∧ j + 1 ∉ gone := by
  rw [h.ents j hj]
  split
  · rename_i hm; rw [has_zero5]; simp [hm]
  · rename_i hm; simp [hm]
theorem SwpR.obj {l l' : Bytes} {gone : List Nat} (h : SwpR l l' gone) (hg : Good l) {j : Nat} (hj : j < 40) (hm : j + 1 ∉ gone) : objT l' j = objT l j ∧ objS l' j = objS l j := by
  have he : rawE l' j = rawE l j := by rw [h.ents j hj, if_neg hm]
  refine obj_congr he fun hh => ?_
  have hs := strayE_false (hg.s.fit j hj hh)
  exact h.rest _ _ (by omega)
theorem SwpR.free {l l' : Bytes} {gone : List Nat} (h : SwpR l l' gone) {x : Nat} (h0 : freeE l' (x : Int) = 0) : SwpR l (freeL l' (x : Int)) (gone ++ [x]) := by
  obtain ⟨k, hx, hf⟩ := free_is h.good h0
  obtain rfl : x = k + 1 := by omega
  refine ⟨hf.good h.good, hf.len.trans h.len, fun j hj => ?_, fun i hi => (hf.rots i hi).trans (h.rots i hi), fun b m hb => (hf.rest b m hb).trans (h.rest b m hb)⟩
  rw [hf.ents j hj, h.ents j hj]
  by_cases e : j = k
  · subst e; simp
  · rw [if_neg e]
    have : (j + 1 ∈ gone ++ [k + 1]) ↔ j + 1 ∈ gone := by simp; omega
    simp only [this]
theorem free_zero {l : Bytes} {k : Nat} (hk : k < 40) (hh : hasE (rawE l k) = true) (hr : k + 1 ∉ rootsH l) : freeE l ((k : Int) + 1) = 0 := by
  unfold freeE
  rw [if_neg (by rw [(hE_has hk hh).1]; simp), if_neg]
  intro ha
  obtain ⟨r, hr1, hr2⟩ := List.any_eq_true.1 ha
  have e : (r.2 : Int) = (k : Int) + 1 := by simpa using hr2
  refine hr ?_
  unfold rootsH
  exact List.mem_map.2 ⟨r, hr1, by omega⟩
theorem root_way {l : Bytes} (hg : Good l) {r : Nat} (h : r ∈ rootsH l) : fromW l r = some [r] := by
  obtain ⟨D, hD, -⟩ := fromW_ok hg
  exact hD.roots r h
theorem sweep_at {l : Bytes} (hg : Good l) : ∀ i, i ≤ (deadL l).length → SwpR l (sweepT l ((deadL l).take i)) ((deadL l).take i)
  | 0, _ => by simpa [sweepT] using SwpR.refl hg
  | i + 1, hi => by
    have ih := sweep_at hg i (by omega)
    have hlt : i < (deadL l).length := by omega
    rw [sweepT_succ l _ i hlt, List.take_succ_eq_append_getElem hlt]
    refine ih.free ?_
    obtain ⟨k, h1, h2, h3, h4⟩ := deadL_mem.1 (List.getElem_mem hlt)
    rw [h4]
    show freeE _ ((k + 1 : Nat) : Int) = 0
    rw [show ((k + 1 : Nat) : Int) = (k : Int) + 1 by omega]
    refine free_zero h1 ?_ ?_
    · rw [ih.has h1]
      refine ⟨h2, fun hm => ?_⟩
      rw [← h4] at hm
      have hnd := deadL_nodup l
      rw [← List.take_append_drop i (deadL l)] at hnd
      have := (List.nodup_append.1 hnd).2.2 _ hm (deadL l)[i] (by rw [List.drop_eq_getElem_cons hlt]; exact List.mem_cons_self ..)
      exact this rfl
    · intro hr
      unfold rootsH at hr
      rw [ih.roots] at hr
      have := root_way hg hr
      rw [h3] at this; cases this
theorem sweep_free {l : Bytes} (hg : Good l) {i : Nat} (hi : i < (deadL l).length) : freeE (sweepT l ((deadL l).take i)) ((deadL l)[i] : Int) = 0 := by
  have ih := sweep_at hg i (by omega)
  obtain ⟨k, h1, h2, h3, h4⟩ := deadL_mem.1 (List.getElem_mem hi)
  rw [h4, show ((k + 1 : Nat) : Int) = (k : Int) + 1 by omega]
  refine free_zero h1 ?_ ?_
  · rw [ih.has h1]
    refine ⟨h2, fun hm => ?_⟩
    rw [← h4] at hm
    have hnd := deadL_nodup l
    rw [← List.take_append_drop i (deadL l)] at hnd
    have := (List.nodup_append.1 hnd).2.2 _ hm (deadL l)[i] (by rw [List.drop_eq_getElem_cons hi]; exact List.mem_cons_self ..)
    exact this rfl
  · intro hr
    unfold rootsH at hr
    rw [ih.roots] at hr
    have := root_way hg hr
    rw [h3] at this; cases this
theorem sweep_is {l : Bytes} (hg : Good l) : SwpR l (sweepL l) (deadL l) := by
  have := sweep_at hg _ (Nat.le_refl _)
  rw [List.take_length] at this
  exact this
/-- behind it nobody is dead -/
theorem refsB_congr {l l' : Bytes} (b : Bytes) (h : ∀ c ∈ b, (hE l' (c.toNat : Int) = 0 ↔ hE l (c.toNat : Int) = 0)) : refsB l' b = refsB l b := by
  unfold refsB
  have key : ∀ (b : Bytes) (o : List Nat), (∀ c ∈ b, (hE l' (c.toNat : Int) = 0 ↔ hE l (c.toNat : Int) = 0)) → b.foldl (refB l') o = b.foldl (refB l) o := by
    intro b
    induction b with
    | nil => intro o _; rfl
    | cons c r ih =>
      intro o hb
      rw [List.foldl_cons, List.foldl_cons]
      have e : refB l' o c = refB l o c := by unfold refB; simp only [hb c (List.mem_cons_self ..)]
      rw [e]
      exact ih _ fun d hd => hb d (List.mem_cons_of_mem _ hd)
  exact key b [] h
theorem foldl_refB_sub (l : Bytes) : ∀ (b : Bytes) (o : List Nat) (x : Nat), (x ∈ o ∨ (∃ c ∈ b, x = c.toNat ∧ hE l (c.toNat : Int) = 0)) → x ∈ b.foldl (refB l) o
  | [], o, x, h => by
    rcases h with h | ⟨c, hc, -⟩
    · exact h
    · cases hc
  | d :: r, o, x, h => by
    rw [List.foldl_cons]
    refine foldl_refB_sub l r _ x ?_
    rcases h with h | ⟨c, hc, rfl, h0⟩
    · left; unfold refB; split
      · exact List.mem_append_left _ h
      · exact h
    · rcases List.mem_cons.1 hc with rfl | hc
      · left; unfold refB; split
        · simp
        · rename_i hn
          by_cases hm : c.toNat ∈ o
          · exact hm
          · exact absurd ⟨h0, hm⟩ hn
      · exact .inr ⟨c, hc, rfl, h0⟩
theorem refsB_all {l b : Bytes} {c : UInt8} (hc : c ∈ b) (h0 : hE l (c.toNat : Int) = 0) : c.toNat ∈ refsB l b := foldl_refB_sub l b [] _ (.inr ⟨c, hc, rfl, h0⟩)
theorem SwpR.hE {l l' : Bytes} {gone : List Nat} (h : SwpR l l' gone) {x : Int} (hx : ∀ g ∈ gone, (g : Int) ≠ x) : hE l' x = hE l x ∧ gT l' x = gT l x ∧ gA l' x = gA l x ∧ gL l' x = gL l x := by
  have hx2 : Go.Proofs.YtcahgmnkphmnhaaGreat.hE l' x = Go.Proofs.YtcahgmnkphmnhaaGreat.hE l x ∧ (Go.Proofs.YtcahgmnkphmnhaaGreat.hE l x = 0 → hR l' x = hR l x) := by
    unfold Go.Proofs.YtcahgmnkphmnhaaGreat.hE hR
    by_cases hb : handleB x = false
    · rw [if_pos hb, if_pos hb]; exact ⟨rfl, fun e => by omega⟩
    · rw [if_neg hb, if_neg hb]
      have hb' := handleB_true.1 (by simpa using hb)
      have he : rawE l' (x - 1).toNat = rawE l (x - 1).toNat := by
        rw [h.ents _ (by omega), if_neg]
        intro hm
        exact hx _ hm (by omega)
      rw [he]; exact ⟨rfl, fun _ => rfl⟩
  obtain ⟨e1, e2⟩ := hx2
  unfold gT gA gL
  rw [e1]
  by_cases h0 : Go.Proofs.YtcahgmnkphmnhaaGreat.hE l x = 0
  · rw [e2 h0]; exact ⟨rfl, rfl, rfl, rfl⟩
  · simp [h0]
theorem SwpR.hE_gone {l l' : Bytes} {gone : List Nat} (h : SwpR l l' gone) {x : Nat} (hx : x ∈ gone) : Go.Proofs.YtcahgmnkphmnhaaGreat.hE l' (x : Int) ≠ 0 := by
  intro h0
  obtain ⟨k, hk, e, hh, -⟩ := hE_zero h0
  obtain rfl : x = k + 1 := by omega
  rw [h.ents k hk, if_pos hx, has_zero5] at hh
  cases hh
theorem live_way {l : Bytes} (hg : Good l) {x : Nat} (h : (fromW l x).isSome = true) : x ∉ deadL l ∧ ∀ y ∈ refsL l (x : Int), (fromW l y).isSome = true := by
  obtain ⟨D, hD, hc⟩ := fromW_ok hg
  refine ⟨fun hd => ?_, fun y hy => (hD.dk y).2 (hc x ((hD.dk x).1 h) y hy)⟩
  obtain ⟨k, -, -, h3, rfl⟩ := deadL_mem.1 hd
  rw [h3] at h; cases h
theorem sweep_refs {l : Bytes} (hg : Good l) {x : Nat} (h : (fromW l x).isSome = true) : refsL (sweepL l) (x : Int) = refsL l (x : Int) := by
  have hs := sweep_is hg
  obtain ⟨h1, h2⟩ := live_way hg h
  obtain ⟨e1, e2, e3, e4⟩ := hs.hE (x := (x : Int)) (fun g hm e => h1 (by rw [← show g = x by omega]; exact hm))
  have hro : readL (sweepL l) (x : Int) 0 (min (gL (sweepL l) (x : Int)) (gT (sweepL l) (x : Int))) = readL l (x : Int) 0 (min (gL l (x : Int)) (gT l (x : Int))) := by
    have hse : someE (sweepL l) (x : Int) 0 (min (gL l (x : Int)) (gT l (x : Int))) = someE l (x : Int) 0 (min (gL l (x : Int)) (gT l (x : Int))) := by
      unfold someE; rw [e1, e4]
    unfold readL
    rw [e2, e3, e4, hse]
    by_cases hz : someE l (x : Int) 0 (min (gL l (x : Int)) (gT l (x : Int))) = 0
    · rw [if_pos hz, if_pos hz]
      have := some_in hg hz
      exact hs.rest _ _ (by omega)
    · rw [if_neg hz, if_neg hz]
  unfold refsL
  rw [hro]
  refine refsB_congr _ fun c hc => ?_
  by_cases h0 : hE l (c.toNat : Int) = 0
  · have hm : c.toNat ∈ refsL l (x : Int) := refsB_all hc h0
    have hw := h2 _ hm
    have hnd := (live_way hg hw).1
    rw [(hs.hE (x := (c.toNat : Int)) (fun g hm' e => hnd (by rw [← show g = c.toNat by omega]; exact hm'))).1]
  · refine ⟨fun h' => ?_, fun h' => absurd h' h0⟩
    by_cases hd : c.toNat ∈ deadL l
    · exact absurd h' (hs.hE_gone hd)
    · rw [(hs.hE (x := (c.toNat : Int)) (fun g hm' e => hd (by rw [← show g = c.toNat by omega]; exact hm'))).1] at h'
      exact absurd h' h0
theorem foldl_congr_mem {A B : Type} {f g : B → A → B} : ∀ (L : List A) (b : B), (∀ x ∈ L, ∀ b, f b x = g b x) → L.foldl f b = L.foldl g b
  | [], _, _ => rfl
  | x :: L, b, h => by
    rw [List.foldl_cons, List.foldl_cons, h x (List.mem_cons_self ..)]
    exact foldl_congr_mem L _ fun y hy => h y (List.mem_cons_of_mem _ hy)
/-- the ways only grow -/
theorem lvl_some {l : Bytes} (hg : Good l) (k : Nat) {x : Nat} (h : ((lvlN l k).1 x).isSome = true) (hk : k ≤ 41) : (fromW l x).isSome = true := by
  have key : ∀ m, ((lvlN l (k + m)).1 x).isSome = true := by
    intro m
    induction m with
    | zero => exact h
    | succ m ih =>
      obtain ⟨D, hD, -⟩ := LvOk.at_ hg (k + m)
      obtain ⟨D', hD', -, hs⟩ := hD.next
      exact (hD'.ok.dk x).2 (hs x ((hD.ok.dk x).1 ih))
  have := key (41 - k)
  rwa [show k + (41 - k) = 41 by omega] at this
theorem sweep_lvl {l : Bytes} (hg : Good l) : ∀ k, k ≤ 41 → lvlN (sweepL l) k = lvlN l k
  | 0, _ => by
    have hr : rootsH (sweepL l) = rootsH l := by unfold rootsH; rw [(sweep_is hg).roots]
    unfold lvlN startW; rw [hr]
  | k + 1, hk => by
    show lvl (sweepL l) (lvlN (sweepL l) k) = lvl l (lvlN l k)
    rw [sweep_lvl hg k (by omega)]
    unfold lvl
    refine foldl_congr_mem _ _ fun x hx b => ?_
    obtain ⟨D, hD, -⟩ := LvOk.at_ hg k
    have hw := lvl_some hg k ((hD.ok.dk x).2 (hD.row x hx)) (by omega)
    unfold stepX
    rw [sweep_refs hg hw]
theorem sweep_from {l : Bytes} (hg : Good l) : fromW (sweepL l) = fromW l := by
  unfold fromW; rw [sweep_lvl hg 41 (Nat.le_refl _)]
theorem sweep_dead {l : Bytes} (hg : Good l) : deadL (sweepL l) = [] := by
  refine List.eq_nil_iff_forall_not_mem.2 fun x hx => ?_
  obtain ⟨k, h1, h2, h3, rfl⟩ := deadL_mem.1 hx
  have hs := sweep_is hg
  rw [sweep_from hg] at h3
  have := (hs.has h1).1 h2
  exact this.2 (deadL_mem.2 ⟨k, h1, this.1, h3, rfl⟩)
end Go.Proofs.YtcahgmnkphmnhaaGreat
/- The reference's extents, plainly: its holes are the program's. No walk here. -/
namespace Go.Proofs.YtcahgmnkphmnhaaGreat
open Go.RowKit

/-- a place that is free, behind runs -/
def addR (out : List Ext) (i : Int) : List Ext := match out.getLast? with
  | some h => if h.1 + h.2 = i then out.dropLast ++ [(h.1, h.2 + 1)] else out ++ [(i, 1)]
  | none => out ++ [(i, 1)]
def goR (T : Nat → Bool) (acc : List Ext) (i : Nat) : Nat → List Ext
  | 0 => acc
  | m + 1 => if T (i + m) = true then goR T acc i m else addR (goR T acc i m) ((i + m : Nat) : Int)
theorem goR_add (T : Nat → Bool) (acc : List Ext) (i a : Nat) : ∀ b, goR T acc i (a + b) = goR T (goR T acc i a) (i + a) b
  | 0 => rfl
  | b + 1 => by
    rw [← Nat.add_assoc, goR, goR, goR_add T acc i a b, Nat.add_assoc]
theorem goR_taken (T : Nat → Bool) (acc : List Ext) (i : Nat) : ∀ m, (∀ j, j < m → T (i + j) = true) → goR T acc i m = acc
  | 0, _ => rfl
  | m + 1, h => by rw [goR, if_pos (h m (by omega)), goR_taken T acc i m (fun j hj => h j (by omega))]
/-- the last run ends ahead of a -/
def EndsLt (acc : List Ext) (a : Int) : Prop := ∀ h, acc.getLast? = some h → h.1 + h.2 < a
theorem goR_free (T : Nat → Bool) (acc : List Ext) (i : Nat) (he : EndsLt acc i) : ∀ m, (∀ j, j < m + 1 → T (i + j) = false) → goR T acc i (m + 1) = acc ++ [((i : Int), ((m + 1 : Nat) : Int))]
  | 0, h => by
    rw [goR, goR, if_neg (by rw [h 0 (by omega)]; decide)]
    unfold addR
    cases hl : acc.getLast? with
    | none => simp
    | some x =>
      have := he x hl
      simp only
      rw [if_neg (by omega)]; simp
  | m + 1, h => by
    rw [goR, if_neg (by rw [h (m + 1) (by omega)]; decide), goR_free T acc i he m (fun j hj => h j (by omega))]
    unfold addR
    rw [List.getLast?_append]
    simp only [List.getLast?_singleton, Option.or]
    rw [if_pos (by omega), List.dropLast_concat]
    congr 1
def coverX (e : Ext) (i : Nat) : Bool := decide (e.1 ≤ i) && decide ((i : Int) < e.1 + e.2)
theorem goR_runs (T : Nat → Bool) (n : Nat) : ∀ (S : List Ext) (a : Nat) (acc : List Ext), Tidy a S n → (∀ i, a ≤ i → i < n → T i = S.any (fun e => coverX e i)) → EndsLt acc a → goR T acc a (n - a) = acc ++ runsX a S n
  | [], a, acc, ht, hT, he => by
    have ht : (a : Int) ≤ n := ht
    rw [runsX_nil]
    by_cases h : a < n
    · obtain ⟨m, hm⟩ : ∃ m, n - a = m + 1 := ⟨n - a - 1, by omega⟩
      rw [hm, goR_free T acc a he m (fun j hj => by rw [hT (a + j) (by omega) (by omega)]; rfl), if_pos (by omega)]
      rw [show ((m + 1 : Nat) : Int) = (n : Int) - a by omega]
    · rw [show n - a = 0 by omega, if_neg (by omega)]
      simp [goR]
  | e :: r, a, acc, ht, hT, he => by
    obtain ⟨h1, h2, h3⟩ := ht
    have h4 := tidy_le h3
    obtain ⟨x, y⟩ := e
    dsimp only at h1 h2 h3 h4
    obtain ⟨p, rfl⟩ := Int.eq_ofNat_of_zero_le (show 0 ≤ x by omega)
    obtain ⟨q, rfl⟩ := Int.eq_ofNat_of_zero_le (show 0 ≤ y by omega)
    have hrest : ∀ i, i < p + q → r.any (fun e => coverX e i) = false := fun i hi => by
      rw [List.any_eq_false]
      intro z hz
      have := tidy_mem h3 z hz
      simp [coverX]; omega
    have e1 : n - a = (p - a) + (q + (n - (p + q))) := by omega
    have s1 : goR T acc a (p - a) = acc ++ (if (a : Int) < (p : Int) then [((a : Int), (p : Int) - a)] else []) := by
      by_cases h : a < p
      · obtain ⟨m, hm⟩ : ∃ m, p - a = m + 1 := ⟨p - a - 1, by omega⟩
        rw [hm, goR_free T acc a he m (fun j hj => ?_), if_pos (by omega)]
        · rw [show ((m + 1 : Nat) : Int) = (p : Int) - a by omega]
        · rw [hT (a + j) (by omega) (by omega), List.any_cons, hrest (a + j) (by omega)]
          simp [coverX]; omega
      · rw [show p - a = 0 by omega, if_neg (by omega)]
        simp [goR]
    have hends : EndsLt (acc ++ (if (a : Int) < (p : Int) then [((a : Int), (p : Int) - a)] else [])) ((p + q : Nat) : Int) := by
      intro h hh
      by_cases hc : (a : Int) < (p : Int)
      · rw [if_pos hc, List.getLast?_append] at hh
        simp only [List.getLast?_singleton, Option.or, Option.some.injEq] at hh
        subst hh
        dsimp only; omega
      · rw [if_neg hc, List.append_nil] at hh
        have := he h hh; omega
    rw [e1, goR_add, s1, goR_add, goR_taken T _ (a + (p - a)) q (fun j hj => by
      rw [hT (a + (p - a) + j) (by omega) (by omega), List.any_cons]
      have : coverX ((p : Int), (q : Int)) (a + (p - a) + j) = true := by simp [coverX]; omega
      rw [this]; rfl)]
    rw [show a + (p - a) + q = p + q by omega]
    rw [goR_runs T n r (p + q) _ (by simpa using h3) (fun i h5 h6 => by
      rw [hT i (by omega) h6, List.any_cons]
      have : coverX ((p : Int), (q : Int)) i = false := by simp [coverX]; omega
      rw [this, Bool.false_or]) hends]
    rw [runsX_cons, List.append_assoc]
    simp
/-- the reference's holes are the program's -/
theorem goR_holes {n : Nat} {l : List Ext} (h : chkX n l = 0) (T : Nat → Bool) (hT : ∀ i, i < n → T i = l.any (fun e => coverX e i)) : goR T [] 0 n = holesX n l := by
  have ht := tidy_of h
  have := goR_runs T n (sortE l) 0 [] ht (fun i _ hi => by
    rw [hT i hi, Bool.eq_iff_iff, List.any_eq_true, List.any_eq_true]
    constructor
    · rintro ⟨x, h1, h2⟩; exact ⟨x, (sortE_perm l).mem_iff.2 h1, h2⟩
    · rintro ⟨x, h1, h2⟩; exact ⟨x, (sortE_perm l).mem_iff.1 h1, h2⟩) (fun h hh => by cases hh)
  rw [Nat.sub_zero, List.nil_append] at this
  rw [this, holes_runs]; rfl
/-- the reference's choice: where; how long -/
def refF (size : Int) (H : List Ext) : Int × Int := H.foldl (fun b h => if size ≤ h.2 ∧ (b.1 < 0 ∨ h.2 < b.2) then h else b) (-1, 0)
theorem refF_succ (size : Int) (H : List Ext) (k : Nat) (hk : k < H.length) : refF size (H.take (k + 1)) = if size ≤ H[k].2 ∧ ((refF size (H.take k)).1 < 0 ∨ H[k].2 < (refF size (H.take k)).2) then H[k] else refF size (H.take k) := by
  unfold refF
  rw [List.take_succ_eq_append_getElem hk, List.foldl_append]; rfl
theorem refF_best (size : Int) (H : List Ext) : (∀ h ∈ H, 0 ≤ h.1 ∧ 1 ≤ h.2) → (bestX size H = (0, 0) ∧ refF size H = (-1, 0)) ∨ (1 ≤ (bestX size H).2 ∧ 0 ≤ (bestX size H).1 ∧ refF size H = bestX size H) := by
  induction H using snocE with
  | h0 => exact fun _ => .inl ⟨rfl, rfl⟩
  | h1 L x ih =>
    intro hH
    have hx := hH x (by simp)
    rw [bestX_snoc]
    have hs : refF size (L ++ [x]) = if size ≤ x.2 ∧ ((refF size L).1 < 0 ∨ x.2 < (refF size L).2) then x else refF size L := by
      unfold refF; rw [List.foldl_append]; rfl
    rw [hs]
    rcases ih (fun h hh => hH h (List.mem_append_left _ hh)) with ⟨a, b⟩ | ⟨a, b, c⟩
    · rw [a, b]
      by_cases h : size ≤ x.2
      · rw [if_pos ⟨h, .inl rfl⟩, if_pos ⟨h, .inl (by decide)⟩]
        exact .inr ⟨hx.2, hx.1, rfl⟩
      · rw [if_neg (fun hh => h hh.1), if_neg (fun hh => h hh.1)]
        exact .inl ⟨rfl, rfl⟩
    · rw [c]
      by_cases h : size ≤ x.2 ∧ x.2 < (bestX size L).2
      · rw [if_pos ⟨h.1, .inr h.2⟩, if_pos ⟨h.1, .inr h.2⟩]
        exact .inr ⟨hx.2, hx.1, rfl⟩
      · rw [if_neg (fun hh => h ⟨hh.1, by omega⟩), if_neg (fun hh => h ⟨hh.1, by omega⟩)]
        exact .inr ⟨a, b, rfl⟩
theorem refF_fit {n : Int} {l : List Ext} (h : chkX n l = 0) (size : Int) (hs : ¬ (size < 1 ∨ 6400 < size)) : ((refF size (holesX n l)).1 < 0 ∧ fitE n l size = 4 ∧ fitA n l size = 0) ∨ (0 ≤ (refF size (holesX n l)).1 ∧ fitE n l size = 0 ∧ fitA n l size = (refF size (holesX n l)).1) := by
  have hb := refF_best size (holesX n l) (fun x hx => by have := holes_mem h x hx; omega)
  rcases hb with ⟨a, b⟩ | ⟨a, b, c⟩
  · left
    have e : fitE n l size = 4 := by unfold fitE; rw [if_pos h, if_neg hs, a]; rfl
    exact ⟨by rw [b]; decide, e, by unfold fitA; rw [e]; rfl⟩
  · right
    have e : fitE n l size = 0 := by unfold fitE; rw [if_pos h, if_neg hs, if_neg (by omega)]
    exact ⟨by rw [c]; exact b, e, by unfold fitA; rw [if_pos e, c]⟩
theorem stat_used {n : Int} {l : List Ext} (h : chkX n l = 0) : n - sumX (holesX n l) = sumX l ∧ n - sumX l = sumX (holesX n l) := by
  have := holds_sum h; omega
end Go.Proofs.YtcahgmnkphmnhaaGreat
/- The reference's extents: Extents, Holes. -/
namespace Go.Proofs.YtcahgmnkphmnhaaGreat
open Go.RowKit

/-- a cell of an own row, stored into -/
theorem own_set {w : World} {base size n g cap k : Nat} {e : TypeId} {xs : List Value} (h : w.ownsRow base e size (.slice (some ⟨g, 0, none⟩) n cap) n xs) (_hk : k < xs.length) (u : Value) :
    (w.setCell ⟨g, k, none⟩ u).ownsRow base e size (.slice (some ⟨g, 0, none⟩) n cap) n (xs.set k u) ∧ w.frozen? ⟨g, k, none⟩ = false := by
  rcases h with ⟨h0, ⟨h1, _⟩ | ⟨g', cap', cur, he, hb, hh, hn, hm, hc, ht⟩⟩
  · cases h1
  · injection he with he _ hcap
    injection he with he
    injection he with he
    subst he hcap
    refine ⟨⟨by rw [List.length_set]; exact h0, .inr ⟨g, cap, _, rfl, hb, heap_setK (k := k) hh u, hn, hm, by simp [hc], ?_⟩⟩, frozen_of_row _ g k _ _ hh⟩
    rw [← ht, Array.toList_setIfInBounds, List.take_set]
theorem loopX_step (n : Int) (l : List Ext) (k : Nat) (hk : k < l.length) (h : loopX n l k = 0) : loopX n l (k + 1) = faultX n l k l[k] := by
  rw [loopX, if_pos h]
  have hg : l.getD k (0, 0) = l[k] := by simp [hk]
  rw [hg]
theorem loopX_chk {n : Int} {l : List Ext} (hn : ¬ (n < 0 ∨ 6400 < n)) (hl : ¬ 200 < l.length) (k : Nat) (hk : k ≤ l.length) {q : Nat} (hq : loopX n l k = q) (h0 : q ≠ 0) : chkX n l = q := by
  unfold chkX
  rw [if_neg hn, if_neg hl, loopX_stop n l k (by omega) l.length hk, hq]
end Go.Proofs.YtcahgmnkphmnhaaGreat
/- The reference's extents: Holes. -/
namespace Go.Proofs.YtcahgmnkphmnhaaGreat
open Go.RowKit

theorem coverX_step (e : Ext) (j i : Nat) (h0 : 0 ≤ e.1) : (decide (e.1 ≤ i) && decide ((i : Int) < e.1 + ((j + 1 : Nat) : Int))) = ((decide (e.1 ≤ i) && decide ((i : Int) < e.1 + (j : Int))) || decide (i = e.1.toNat + j)) := by
  rw [Bool.eq_iff_iff]
  simp only [Bool.and_eq_true, Bool.or_eq_true, decide_eq_true_eq]
  omega
theorem goR_succ (T : Nat → Bool) (i : Nat) : goR T [] 0 (i + 1) = if T i = true then goR T [] 0 i else addR (goR T [] 0 i) (i : Int) := by
  rw [goR, Nat.zero_add]
theorem goR_len (T : Nat → Bool) : ∀ i, (goR T [] 0 i).length ≤ i
  | 0 => Nat.le_refl _
  | i + 1 => by
    rw [goR_succ]
    have := goR_len T i
    split
    · omega
    · unfold addR
      split
      · split <;> simp <;> omega
      · simp; omega
theorem tcells_flat (L : List Ext) : (L.flatMap tcells).length = L.length * 2 := by
  induction L with
  | nil => rfl
  | cons x r ih => rw [List.flatMap_cons, List.length_append, ih, List.length_cons]; simp [tcells]; omega
/-- runs lie within what was looked at -/
theorem goR_in (T : Nat → Bool) : ∀ i, ∀ x ∈ goR T [] 0 i, 0 ≤ x.1 ∧ 1 ≤ x.2 ∧ x.1 + x.2 ≤ i
  | 0 => fun x hx => by cases hx
  | i + 1 => fun x hx => by
    have ih := goR_in T i
    rw [goR_succ] at hx
    by_cases ht : T i = true
    · rw [if_pos ht] at hx
      have := ih x hx; omega
    · rw [if_neg ht] at hx
      unfold addR at hx
      cases hl : (goR T [] 0 i).getLast? with
      | none =>
        rw [hl] at hx
        simp only [List.mem_append, List.mem_singleton] at hx
        rcases hx with hx | rfl
        · have := ih x hx; omega
        · dsimp only; omega
      | some y =>
        rw [hl] at hx
        have hy := ih y (List.mem_of_getLast? hl)
        simp only at hx
        by_cases he : y.1 + y.2 = (i : Int)
        · rw [if_pos he] at hx
          simp only [List.mem_append, List.mem_singleton] at hx
          rcases hx with hx | rfl
          · have := ih x ((List.dropLast_sublist _).subset hx); omega
          · dsimp only; omega
        · rw [if_neg he] at hx
          simp only [List.mem_append, List.mem_singleton] at hx
          rcases hx with hx | rfl
          · have := ih x hx; omega
          · dsimp only; omega
end Go.Proofs.YtcahgmnkphmnhaaGreat
/- The reference's extents: Fit, Stat; extents that are the same. -/
namespace Go.Proofs.YtcahgmnkphmnhaaGreat
open Go.RowKit

section
variable (n : Nat) (A : Option Addr) (m c : Nat) (l : List Ext) (w : World) (hl : l.length = m) (hr : RdX tcells 2 w A l) (hc : chkX (n : Int) l = 0)
include hl hr hc
end
end Go.Proofs.YtcahgmnkphmnhaaGreat
/- The reference's extents: Stat. -/
namespace Go.Proofs.YtcahgmnkphmnhaaGreat
open Go.RowKit

theorem fiveCells {w : World} {b : Nat} {a0 a1 a2 a3 a4 : Int} {t : TypeId} (h : w.heap[b]? = some (.cells #[.int .i64 a0, .int .i64 a1, .int .i64 a2, .int .i64 a3, .int .i64 a4] t (0, 0))) : w.cell? ⟨b, 0, none⟩ = some (.int .i64 a0) ∧ w.cell? ⟨b, 1, none⟩ = some (.int .i64 a1) ∧ w.cell? ⟨b, 2, none⟩ = some (.int .i64 a2) ∧ w.cell? ⟨b, 3, none⟩ = some (.int .i64 a3) ∧ w.cell? ⟨b, 4, none⟩ = some (.int .i64 a4) ∧ ∀ q, w.frozen? ⟨b, q, none⟩ = false := by
  refine ⟨?_, ?_, ?_, ?_, ?_, fun q => frozen_of_row _ _ q _ _ h⟩ <;> simp [World.cell?, h]
theorem results_one {fn : Func} {p : Tmp} {ty : TypeId} (h : fn.results = #[.cell p ty]) (tmps : Array Value) (P : Program) (w : World) :
    (results fn tmps).run P w = ((asAddr (tmps.getD p undef)).run P w).andThen fun a w₁ => (loadVar ty a).run P w₁ := by
  simp only [results, h]
  simp [Sem.run_bind, Result.andThen]
end Go.Proofs.YtcahgmnkphmnhaaGreat
/- The reference's step of moving, plainly. No walk here. -/
namespace Go.Proofs.YtcahgmnkphmnhaaGreat
open Go.RowKit

/-- the first from a place on, so far -/
def upB (a : Nat) (b : Option Ent) (e : Ent) : Option Ent :=
  match b with
  | none => if a ≤ rAt e.2 then some e else none
  | some x => if a ≤ rAt e.2 ∧ rAt e.2 < rAt x.2 then some e else some x
def bestM (a : Nat) (E : List Ent) : Option Ent := E.foldl (upB a) none
theorem bestM_succ (a : Nat) (E : List Ent) (k : Nat) (hk : k < E.length) : bestM a (E.take (k + 1)) = upB a (bestM a (E.take k)) E[k] := by
  unfold bestM; rw [List.take_succ_eq_append_getElem hk, List.foldl_append]; rfl
theorem bestM_spec (a : Nat) (E : List Ent) : ∀ k, k ≤ E.length → (bestM a (E.take k) = none ∧ ∀ e ∈ E.take k, rAt e.2 < a) ∨ ∃ x, x ∈ E.take k ∧ bestM a (E.take k) = some x ∧ a ≤ rAt x.2 ∧ ∀ e ∈ E.take k, a ≤ rAt e.2 → rAt x.2 ≤ rAt e.2
  | 0, _ => Or.inl ⟨by simp [bestM], fun e he => by simp at he⟩
  | k + 1, hk => by
    have hk' : k < E.length := hk
    rw [bestM_succ a E k hk', List.take_succ_eq_append_getElem hk']
    rcases bestM_spec a E k (by omega) with ⟨h1, h2⟩ | ⟨x, h0, h1, h2, h3⟩
    · rw [h1]
      unfold upB
      by_cases hc : a ≤ rAt E[k].2
      · right
        refine ⟨E[k], List.mem_append_right _ (List.mem_singleton.2 rfl), by simp [hc], hc, fun e he hae => ?_⟩
        rcases List.mem_append.1 he with he | he
        · have := h2 e he; omega
        · simp only [List.mem_singleton] at he; subst he; exact Nat.le_refl _
      · left
        refine ⟨by simp [hc], fun e he => ?_⟩
        rcases List.mem_append.1 he with he | he
        · exact h2 e he
        · simp only [List.mem_singleton] at he; subst he; omega
    · rw [h1]
      unfold upB
      right
      by_cases hc : a ≤ rAt E[k].2 ∧ rAt E[k].2 < rAt x.2
      · refine ⟨E[k], List.mem_append_right _ (List.mem_singleton.2 rfl), by simp [hc], hc.1, fun e he hae => ?_⟩
        rcases List.mem_append.1 he with he | he
        · have := h3 e he hae; omega
        · simp only [List.mem_singleton] at he; subst he; exact Nat.le_refl _
      · refine ⟨x, List.mem_append_left _ h0, by simp [hc], h2, fun e he hae => ?_⟩
        rcases List.mem_append.1 he with he | he
        · exact h3 e he hae
        · simp only [List.mem_singleton] at he; subst he; omega
/-- where the scan stands: k of the sorted ones lie ahead of a -/
structure Stands (l : Bytes) (k a : Nat) : Prop where
  le : k ≤ (sortM l).length
  tidy : TidyM a ((sortM l).drop k) l.length
  ahead : ∀ e ∈ (sortM l).take k, rAt e.2 < a
  gap : gapM 288 (sortM l) = gapM a ((sortM l).drop k)
theorem stands_start {l : Bytes} (hg : Good l) : Stands l 0 288 := ⟨Nat.zero_le _, tidy_sortM hg, fun e he => by simp at he, rfl⟩
theorem Stands.none {l : Bytes} {a : Nat} (h : Stands l (sortM l).length a) : bestM a (entriesL l) = none ∧ gapM 288 (sortM l) = Option.none := by
  refine ⟨?_, by rw [h.gap, List.drop_length]; rfl⟩
  have := bestM_spec a (entriesL l) (entriesL l).length (Nat.le_refl _)
  rw [List.take_length] at this
  rcases this with ⟨h1, _⟩ | ⟨x, h0, h1, h2, h3⟩
  · exact h1
  · have := h.ahead x (by rw [List.take_length]; exact (sortM_perm l).mem_iff.2 h0); omega
theorem Stands.some {l : Bytes} {k a : Nat} (h : Stands l k a) (hk : k < (sortM l).length) : bestM a (entriesL l) = some (sortM l)[k] ∧ (sortM l)[k] ∈ entriesL l ∧ a ≤ rAt (sortM l)[k].2 ∧ (a < rAt (sortM l)[k].2 → gapM 288 (sortM l) = Option.some ((sortM l)[k], a)) ∧ (¬ a < rAt (sortM l)[k].2 → Stands l (k + 1) (a + rLen (sortM l)[k].2)) := by
  have hd := List.drop_eq_getElem_cons hk
  have htd := h.tidy
  rw [hd] at htd
  obtain ⟨t1, t2, t3⟩ := htd
  have hmem : (sortM l)[k] ∈ entriesL l := (sortM_perm l).mem_iff.1 (List.getElem_mem hk)
  refine ⟨?_, hmem, t1, fun hlt => ?_, fun hge => ?_⟩
  · have := bestM_spec a (entriesL l) (entriesL l).length (Nat.le_refl _)
    rw [List.take_length] at this
    rcases this with ⟨_, h2⟩ | ⟨x, h0, h1, h2, h3⟩
    · have := h2 _ hmem; omega
    · rw [h1]
      have hx := (sortM_perm l).mem_iff.2 h0
      rw [← List.take_append_drop k (sortM l)] at hx
      rcases List.mem_append.1 hx with hx | hx
      · have := h.ahead x hx; omega
      · rw [hd] at hx
        rcases List.mem_cons.1 hx with hx | hx
        · rw [hx]
        · have := tidyM_mem t3 x hx
          have := h3 _ hmem t1
          omega
  · rw [h.gap, hd]; unfold gapM; rw [if_pos hlt]
  · have he : rAt (sortM l)[k].2 = a := by omega
    rw [he] at t3
    refine ⟨hk, t3, fun e hx => ?_, ?_⟩
    · rw [List.take_succ_eq_append_getElem hk] at hx
      rcases List.mem_append.1 hx with hx | hx
      · have := h.ahead e hx; omega
      · simp only [List.mem_singleton] at hx; subst hx; omega
    · rw [h.gap, hd]; show gapM a (_ :: _) = _; rw [gapM, if_neg hge, he]
/-- the object's bytes laid one after the other -/
theorem splice_more (l x : Bytes) (a j : Nat) (hj : j < x.length) (h : a + x.length ≤ l.length) : (splice l a (x.take j)).set (a + j) x[j] = splice l a (x.take (j + 1)) := by
  have h1 : (x.take j).length = j := by simp; omega
  have h2 : (x.take (j + 1)).length = j + 1 := by simp; omega
  apply List.ext_getElem?
  intro p
  rw [List.getElem?_set, splice_len _ _ _ (by omega), splice_rd _ _ _ _ (by omega), splice_rd _ _ _ _ (by omega), h1, h2]
  by_cases b : a + j = p
  · subst b
    rw [if_pos rfl, if_pos (by omega), if_pos (by omega), Nat.add_sub_cancel_left, List.getElem?_take, if_pos (by omega), List.getElem?_eq_getElem hj]
  · rw [if_neg b]
    by_cases c : a ≤ p ∧ p < a + j
    · rw [if_pos c, if_pos (show a ≤ p ∧ p < a + (j + 1) from by omega), List.getElem?_take, List.getElem?_take, if_pos (by omega), if_pos (by omega)]
    · rw [if_neg c, if_neg (show ¬ (a ≤ p ∧ p < a + (j + 1)) from by omega)]
end Go.Proofs.YtcahgmnkphmnhaaGreat
/- The reference's Put and PutEntry: the row that they give is a new one. -/
namespace Go.Proofs.YtcahgmnkphmnhaaGreat
open Go.RowKit

/-- an answer: bytes in a new row, and a number -/
def RowAnsO (w w' : World) (e : Ending) (l : Bytes) (x : Value) : Prop := ∃ A' c', e = .returned (.tuple #[.slice A' l.length c', x]) ∧ (l ≠ [] → ∃ g, A' = some ⟨g, 0, none⟩ ∧ w.heap.size ≤ g ∧ Row w' 5 g c' l) ∧ Below w.heap.size w w'
set_option maxRecDepth 100000 in
set_option maxHeartbeats 1000000 in
theorem refPut_own (A : Option Addr) (n c : Nat) (l : Bytes) (at_ x size : Int) (w : World) (hn : l.length = n) (hl : n ≤ 140737488351232) (hr : Rd w A l) :
    Calls Tryz.prog 156 #[.slice A n c, .int .i64 at_, .int .i64 x, .int .i64 size] w fun e w' => RowAnsO w w' e (putF l at_ x size) (.int .i64 (putE n at_ x size)) := by
  obtain ⟨i0, hi0, hz0, hz1, hz2⟩ := info_parts byte_info
  generalize hF : putF l at_ x size = F
  generalize hE : putE n at_ x size = E
  unfold putF at hF
  rw [hn, hE] at hF
  unfold putE at hE
  by_cases hs : 1 ≤ size ∧ size ≤ 4
  · obtain ⟨h1, h4⟩ := hs
    obtain ⟨s, rfl⟩ := Int.eq_ofNat_of_zero_le (show 0 ≤ size by omega)
    have HM : Hidden (mostN (s : Int) = (2 ^ (8 * s) : Nat) - 1) := ⟨by simp [mostN]⟩
    have HE := Hidden.mk hE
    have HF := Hidden.mk hF
    clear hE hF
    go_enter Tryz.func156, Tryz.ntmps156
    go_wp2_with fail
    go_loop [10, 11] (fun mv iv => ∃ k : Nat, k ≤ s ∧ iv = .int .i64 k ∧ mv = .int .i64 ((2 ^ (8 * k) : Nat) : Int)) (fun _ iv => s - (intOf iv).toNat)
    case atStart => exact ⟨0, Nat.zero_le _, rfl, rfl⟩
    case round =>
      obtain ⟨k, hk, rfl, rfl⟩ := hrel
      by_cases hlt : k < s
      · have hp : 2 ^ (8 * k) ≤ 16777216 := by
          calc 2 ^ (8 * k) ≤ 2 ^ 24 := Nat.pow_le_pow_right (by omega) (by omega)
            _ = 16777216 := by decide
        have HD : Hidden (2 ^ (8 * k) * 256 = 2 ^ (8 * (k + 1))) := ⟨by rw [show 8 * (k + 1) = 8 * k + 8 from by omega, Nat.pow_add]⟩
        generalize 2 ^ (8 * k) = M at *
        have s1 : IntKind.i64.wrap ((M : Int) * 256) = (M : Int) * 256 := IntWalk.i64_in _ (by omega)
        go_wp2_with fail
        go_round
        case rel => exact ⟨k + 1, by omega, by go_num, int_i64 (by have := HD.out; omega)⟩
        case measure => simp [intOf]; omega
      · obtain rfl : k = s := by omega
        have hp : 2 ^ (8 * k) ≤ 4294967296 := by
          calc 2 ^ (8 * k) ≤ 2 ^ 32 := Nat.pow_le_pow_right (by omega) (by omega)
            _ = 4294967296 := by decide
        by_cases hx : 0 ≤ x ∧ x ≤ mostN (k : Int)
        · obtain ⟨X, rfl⟩ := Int.eq_ofNat_of_zero_le hx.1
          have hxm := hx.2
          rw [HM.out] at hxm
          by_cases ha : at_ < 0 ∨ (n : Int) - k < at_
          · have he : E = 3 := by rw [← HE.out, if_pos ⟨h1, h4, hx.1, hx.2⟩, if_pos ha]
            have hf : F = [] := by rw [← HF.out, if_neg (by omega)]
            subst he hf
            clear HE HF hx HM
            generalize 2 ^ (8 * k) = M at *
            by_cases h0 : at_ < 0
            · clear ha
              go_wp2_with fail
              go_ret2
              exact ⟨none, 0, rfl, fun h => absurd rfl h, Below.refl _ _⟩
            · by_cases hb : (n : Int) < at_
              · clear ha
                go_wp2_with fail
                go_ret2
                exact ⟨none, 0, rfl, fun h => absurd rfl h, Below.refl _ _⟩
              · have hc3 : (n : Int) - at_ < k := by omega
                have s1 : IntKind.i64.wrap ((n : Int) - at_) = (n : Int) - at_ := IntWalk.i64_in _ (by omega)
                clear ha
                go_wp2_with fail
                go_ret2
                exact ⟨none, 0, rfl, fun h => absurd rfl h, Below.refl _ _⟩
          · have he : E = 0 := by rw [← HE.out, if_pos ⟨h1, h4, hx.1, hx.2⟩, if_neg ha]
            have hf : F = putB l at_ X k := by rw [← HF.out, if_pos he]
            obtain ⟨a, rfl⟩ := Int.eq_ofNat_of_zero_le (show 0 ≤ at_ by omega)
            have hfa : F = splice l a (numB X k) := by rw [hf]; simp [putB]
            have HFA := Hidden.mk hfa
            subst he
            clear HE HF hx HM hf hfa
            have hfit : a + k ≤ n := by omega
            have hk1 : 1 ≤ k := by omega
            have s1 : IntKind.i64.wrap ((n : Int) - a) = (n : Int) - a := IntWalk.i64_in _ (by omega)
            have t1 : decide (n < a) = false := by simp; omega
            have t2 : decide ((n : Int) - a < k) = false := by simp; omega
            obtain ⟨p, off, rfl, _⟩ := hr.lt (by omega)
            generalize 2 ^ (8 * k) = M at *
            have t3 : decide (M ≤ X) = false := by simp; omega
            have t0 : decide ((a : Int) < 0) = false := by simp
            have t5 : decide ((X : Int) < 0) = false := by simp
            clear ha
            go_wp2_with (at_builtin; refine wpList_append_own _ rfl (.tmp 50) (.tmp 51) _ rfl w.heap.size 5 i0 _ 1 1 Tryz.underlying22 hi0 hz0 hz1 hz2 rfl (by decide) (.slice none 0 0) 0 [] rfl (World.ownsRow_nil _ _ _ _) ⟨p, off, none⟩ n c (l.map bv) rfl (by simp; omega) hr.cells one_bv (by simp only [maxLen]; omega) (by omega) (Nat.le_refl _) ?_; intro v1 w1 hown1 hg1 hnn1)
            have hb1 : Below w.heap.size w w1 := (Below.refl _ _).grown hg1 (Nat.le_refl _) (fun k hk => by simp [Value.ownBlock] at hk)
            have hO : Own w1 w.heap.size 5 v1 l := by unfold Own; simpa [hn] using hown1
            have hne : v1 ≠ .slice none 0 0 := fun h => by
              subst h
              rcases hO.2 with ⟨_, h0⟩ | ⟨g, cap, cur, h, _⟩
              · omega
              · cases h
            obtain ⟨g, cap, hv, hbg, hrow⟩ := Row.of_own hO hne
            rw [hn] at hv
            subst hv
            clear hO hne hown1 hg1 hnn1
            go_loopw [2, 13] (fun nv iv wr => ∃ j : Nat, j ≤ k ∧ iv = .int .i64 j ∧ nv = .int .i64 ((X / 2 ^ (8 * j) : Nat) : Int) ∧ Below w.heap.size w wr ∧ Row wr 5 g cap (splice l a (numB X j))) (fun _ iv _ => k - (intOf iv).toNat)
            case atStart => exact ⟨0, Nat.zero_le _, rfl, by simp, hb1, by simpa [numB, splice] using hrow⟩
            case round =>
              obtain ⟨j, hj, rfl, rfl, hbel, hrow2⟩ := hrel
              have hsl : (splice l a (numB X j)).length = n := by rw [splice_len _ _ _ (by rw [numB_length]; omega), hn]
              by_cases hlt2 : j < k
              · have hd := div_step X j
                have HD2 := Hidden.mk hd
                have hcell := hrow2.cell (a + j) (by omega)
                have hfr := hrow2.frozen (a + j)
                have hst := hrow2.store (a + j) (by omega) (UInt8.ofNat (X / 2 ^ (8 * j) % 256))
                rw [splice_put l a X j (by omega)] at hst
                have hbn := hbel.setCell (p := ⟨g, a + j, none⟩) hbg (bv (UInt8.ofNat (X / 2 ^ (8 * j) % 256)))
                have hbv : bv (UInt8.ofNat (X / 2 ^ (8 * j) % 256)) = .int .u8 ((X / 2 ^ (8 * j) : Nat) % 256 : Int) := by simp only [bv, ofNat_mod]; rfl
                have hmle : X / 2 ^ (8 * j) ≤ X := Nat.div_le_self _ _
                have hcap := hrow2.le.1
                rw [hbv] at hst hbn
                generalize X / 2 ^ (8 * j) = m at *
                have q1 : IntKind.i64.wrap ((a : Int) + j) = (a : Int) + j := IntWalk.i64_in _ (by omega)
                have k0 : (0 : Int) ≤ (a : Int) + j := by omega
                have k1 : (a : Int) + j < n := by omega
                generalize (splice l a (numB X j))[a + j] = u at hcell
                clear hd hbv hrow2 hsl
                go_wp2_with fail
                go_roundw
                case rel => exact ⟨j + 1, by omega, by go_num, int_i64 (by have := HD2.out; omega), hbn, hst⟩
                case measure => simp [intOf]; omega
              · obtain rfl : j = k := by omega
                go_wp2_with fail
                go_ret2
                refine ⟨some ⟨g, 0, none⟩, cap, ?_, fun _ => ⟨g, rfl, hbg, by rw [HFA.out]; exact hrow2⟩, hbel⟩
                rw [show F.length = n from by rw [HFA.out]; exact hsl]
                rfl
        · have he : E = 1 := by rw [← HE.out, if_neg (fun h => hx ⟨h.2.2.1, h.2.2.2⟩)]
          have hf : F = [] := by rw [← HF.out, if_neg (by omega)]
          rw [HM.out] at hx
          subst he hf
          clear HE HF HM
          generalize 2 ^ (8 * k) = M at *
          by_cases h0 : x < 0
          · clear hx
            go_wp2_with fail
            go_ret2
            exact ⟨none, 0, rfl, fun h => absurd rfl h, Below.refl _ _⟩
          · have t3 : (M : Int) ≤ x := by omega
            clear hx
            go_wp2_with fail
            go_ret2
            exact ⟨none, 0, rfl, fun h => absurd rfl h, Below.refl _ _⟩
  · have he : E = 1 := by rw [← hE, if_neg (fun h => hs ⟨h.1, h.2.1⟩)]
    have hf : F = [] := by rw [← hF, if_neg (by omega)]
    subst he hf
    clear hE hF
    by_cases h1 : size < 1
    · clear hs
      go_enter Tryz.func156, Tryz.ntmps156
      go_wp2_with fail
      go_ret2
      exact ⟨none, 0, rfl, fun h => absurd rfl h, Below.refl _ _⟩
    · have h4 : 4 < size := by omega
      clear hs
      go_enter Tryz.func156, Tryz.ntmps156
      go_wp2_with fail
      go_ret2
      exact ⟨none, 0, rfl, fun h => absurd rfl h, Below.refl _ _⟩
theorem refPut_fitO (A : Option Addr) (n c : Nat) (l : Bytes) (a x s : Nat) (w : World) (hn : l.length = n) (hl : n ≤ 140737488351232) (hr : Rd w A l) (h1 : 1 ≤ s) (h4 : s ≤ 4) (hx : (x : Int) ≤ mostN (s : Int)) (ha : a + s ≤ n) :
    Calls Tryz.prog 156 #[.slice A n c, .int .i64 (a : Int), .int .i64 (x : Int), .int .i64 (s : Int)] w fun e w' => ∃ g c', e = .returned (.tuple #[.slice (some ⟨g, 0, none⟩) n c', .int .i64 0]) ∧ w.heap.size ≤ g ∧ Row w' 5 g c' (splice l a (numB x s)) ∧ Below w.heap.size w w' := by
  have hE : putE n (a : Int) (x : Int) (s : Int) = 0 := by
    unfold putE; rw [if_pos ⟨by omega, by omega, by omega, hx⟩, if_neg (by omega)]
  have hF : putF l (a : Int) (x : Int) (s : Int) = splice l a (numB x s) := by
    unfold putF; rw [hn, if_pos hE]; rfl
  have hL : (splice l a (numB x s)).length = n := by rw [splice_len _ _ _ (by rw [numB_length]; omega)]; exact hn
  refine (refPut_own A n c l a x s w hn hl hr).mono ?_
  rintro e w' ⟨A', c', rfl, hrd, hb⟩
  rw [hF] at hrd
  obtain ⟨g, rfl, hg, hrow⟩ := hrd (fun h => by have h2 : (splice l a (numB x s)).length = 0 := (by rw [h]; rfl); omega)
  rw [hF, hE, hL]
  exact ⟨g, c', rfl, hg, hrow, hb⟩
def PutAtO (n : Nat) (o : Nat) (x s : Int) (l l' : Bytes) : Prop := ∀ (A : Option Addr) (c : Nat) (W : World), Rd W A l → Calls Tryz.prog 156 #[.slice A n c, .int .i64 (o : Int), .int .i64 x, .int .i64 s] W fun e w' => ∃ g c', e = .returned (.tuple #[.slice (some ⟨g, 0, none⟩) n c', .int .i64 0]) ∧ W.heap.size ≤ g ∧ Row w' 5 g c' l' ∧ Below W.heap.size W w'
theorem putAtO (n o x s : Nat) (l : Bytes) (hn : l.length = n) (hl : n ≤ 140737488351232) (h1 : 1 ≤ s) (h4 : s ≤ 4) (hx : (x : Int) ≤ mostN (s : Int)) (ha : o + s ≤ n) : PutAtO n o (x : Int) (s : Int) l (splice l o (numB x s)) :=
  fun A c W hW => refPut_fitO A n c l o x s W hn hl hW h1 h4 hx ha
set_option maxRecDepth 100000 in
theorem refPutEntry_walkO (A : Option Addr) (n c k o o1 o3 t tt b m : Nat) (l l1 l2 l3 : Bytes) (w : World) (hrd : Rd w A l) (hh : handleB ((k : Int) + 1) = true)
    (s0 : IntKind.i64.wrap (k : Int) = (k : Int)) (s1 : IntKind.i64.wrap (5 * (k : Int)) = (o : Int)) (s2 : IntKind.i64.wrap ((t : Int) + 1) = (tt : Int))
    (s3 : IntKind.i64.wrap ((o : Int) + 1) = (o1 : Int)) (s4 : IntKind.i64.wrap ((o : Int) + 3) = (o3 : Int)) (ht : t ≤ 15) (hm1 : 1 ≤ m) (hm : m ≤ 1000) (hb : 288 ≤ b) (hbn : b + m ≤ n) (hn : n ≤ 6400)
    (c1 : PutAtO n o tt 1 l l1) (c2 : PutAtO n o1 b 2 l1 l2) (c3 : PutAtO n o3 m 2 l2 l3) :
    Calls Tryz.prog 123 #[.slice A n c, entV ((k : Int) + 1) b m t] w fun e w' => ∃ g c', e = .returned (.tuple #[.slice (some ⟨g, 0, none⟩) n c', .int .i64 0]) ∧ w.heap.size ≤ g ∧ Row w' 5 g c' l3 ∧ Below w.heap.size w w' := by
  have hB : Below w.heap.size w (w.alloc (.cells #[.int .i64 ((k : Int) + 1), .int .i64 b, .int .i64 m, .int .i64 t] 97)) := (Below.refl _ _).alloc (Nat.le_refl _) _
  have hF0 := fourAt_one w ((k : Int) + 1) b m t 97
  have s5 : IntKind.i64.wrap ((n : Int) - b) = (n : Int) - b := IntWalk.i64_in _ (by omega)
  have t1 : decide ((t : Int) < 0) = false := by simp
  have t2 : decide (15 < (t : Int)) = false := by simp; omega
  have t2' : decide (15 < t) = false := by simp; omega
  have t3 : decide ((m : Int) < 1) = false := by simp; omega
  have t3' : decide (m < 1) = false := by simp; omega
  have t4 : decide (1000 < (m : Int)) = false := by simp; omega
  have t4' : decide (1000 < m) = false := by simp; omega
  have t5 : decide ((b : Int) < 288) = false := by simp; omega
  have t5' : decide (b < 288) = false := by simp; omega
  have t6 : decide ((n : Int) < b) = false := by simp; omega
  have t6' : decide (n < b) = false := by simp; omega
  have t7 : decide ((n : Int) - b < m) = false := by simp; omega
  have hr0 := hrd.below hB
  have C1 := Hidden.mk c1
  have C2 := Hidden.mk c2
  have C3 := Hidden.mk c3
  clear ht hm1 hm hb hbn hn c1 c2 c3 hrd
  unfold entV
  go_enter Tryz.func123, Tryz.ntmps123
  go_wp2_with fail
  refine (ref_handle_any _ _).mono ?_
  rintro e w1 ⟨rfl, rfl⟩
  rw [hh]
  clear hh
  go_wp2_with fail
  generalize w.alloc (.cells #[.int .i64 ((k : Int) + 1), .int .i64 (b : Int), .int .i64 (m : Int), .int .i64 (t : Int)] 97) = w0 at *
  refine (C1.out A c _ hr0).mono ?_
  rintro e w1 ⟨g1, c1, rfl, hg1, hr1, hb1⟩
  have hF1 := hF0.below hb1
  have hB1 := hB.trans (hb1.mono hB.size)
  have HF1 := Hidden.mk hF1
  obtain ⟨x0, x1, x2, x3⟩ := hF1
  clear hb1 hF0
  go_wp2_with fail
  refine (C2.out _ c1 _ hr1.rd).mono ?_
  rintro e w2 ⟨g2, c2, rfl, hg2, hr2, hb2⟩
  have hF2 := HF1.out.below hb2
  have hB2 := hB1.trans (hb2.mono hB1.size)
  obtain ⟨y0, y1, y2, y3⟩ := hF2
  clear hb2 x0 x1 x2 x3
  go_wp2_with fail
  refine (C3.out _ c2 _ hr2.rd).mono ?_
  rintro e w3 ⟨g3, c3, rfl, hg3, hr3, hb3⟩
  have hB3 := hB2.trans (hb3.mono hB2.size)
  have HG3 : Hidden (w.heap.size ≤ g3) := ⟨Nat.le_trans hB2.size hg3⟩
  clear hg1 hg2 hg3 hb3 y0 y1 y2 y3
  go_wp2_with fail
  go_ret2
  exact ⟨g3, c3, rfl, HG3.out, hr3, hB3⟩
theorem refPutEntry_own (A : Option Addr) (n c : Nat) (l : Bytes) (h a len tag : Int) (w : World) (hln : l.length = n) (hr : rightB n = true) (hrd : Rd w A l) (hh : handleB h = true) (ht : tagB tag = true) (hl : lenB len = true) (hw : withinB n a len = true) :
    Calls Tryz.prog 123 #[.slice A n c, entV h a len tag] w fun e w' => ∃ g c', e = .returned (.tuple #[.slice (some ⟨g, 0, none⟩) n c', .int .i64 0]) ∧ w.heap.size ≤ g ∧ Row w' 5 g c' (putEnt l h a len tag) ∧ Below w.heap.size w w' := by
  have htb := tagB_true.1 ht
  have hlb := lenB_true.1 hl
  have hhb := handleB_true.1 hh
  have hwb := withinB_true.1 hw
  have hnb := rightB_true.1 hr
  obtain ⟨k, rfl⟩ : ∃ k : Nat, h = (k : Int) + 1 := ⟨(h - 1).toNat, by omega⟩
  obtain ⟨t, rfl⟩ := Int.eq_ofNat_of_zero_le (show 0 ≤ tag by omega)
  obtain ⟨b, rfl⟩ := Int.eq_ofNat_of_zero_le (show 0 ≤ a by omega)
  obtain ⟨m, rfl⟩ := Int.eq_ofNat_of_zero_le (show 0 ≤ len by omega)
  rw [putEnt_three l k t b m (by omega) (by omega)]
  have hl1 : (splice l (5 * k) (numB (t + 1) 1)).length = n := by rw [splice_len _ _ _ (by rw [numB_length]; omega)]; exact hln
  have hl2 : (splice (splice l (5 * k) (numB (t + 1) 1)) (5 * k + 1) (numB b 2)).length = n := by rw [splice_len _ _ _ (by rw [numB_length, hl1]; omega)]; exact hl1
  have hm1 : mostN ((1 : Nat) : Int) = 255 := rfl
  have hm2 : mostN ((2 : Nat) : Int) = 65535 := rfl
  exact refPutEntry_walkO A n c k (5 * k) (5 * k + 1) (5 * k + 3) t (t + 1) b m l _ _ _ w hrd hh (IntWalk.i64_in _ (by omega)) (by rw [IntWalk.i64_in _ (by omega)]; omega) (by rw [IntWalk.i64_in _ (by omega)]; omega) (by rw [IntWalk.i64_in _ (by omega)]; omega) (by rw [IntWalk.i64_in _ (by omega)]; omega)
    (by omega) (by omega) (by omega) (by omega) (by omega) (by omega)
    (putAtO n (5 * k) (t + 1) 1 l hln (by omega) (by omega) (by omega) (by rw [hm1]; omega) (by omega))
    (putAtO n (5 * k + 1) b 2 _ hl1 (by omega) (by omega) (by omega) (by rw [hm2]; omega) (by omega))
    (putAtO n (5 * k + 3) m 2 _ hl2 (by omega) (by omega) (by omega) (by rw [hm2]; omega) (by omega))
end Go.Proofs.YtcahgmnkphmnhaaGreat
/- Maps told by a function from keys to values: lookup, store, len, clear as equations; over whatever program. -/
namespace Go.Proofs.YtcahgmnkphmnhaaGreat
open Go.RowKit Go.Maps Go.ChangeMaps

/-- any value, as it stands -/
def heldR (v : Value) : Option (DataW Value × List MemPlace) := some (.held v, [])
section
variable {P : Program} {T K E : TypeId} {κ : Type} {kl : κ → Lit} {w w' : World} {b cnt : Nat} {f : κ → Option Value}
/-- what a datum has at each key -/
def Has (kl : κ → Lit) (D : DataW Value) (f : κ → Option Value) : Prop := (∀ k, (f k = none → Maps.has D (kl k) = false) ∧ ∀ v, f k = some v → Maps.has D (kl k) = true ∧ ∀ z, D.atKey (kl k) z = .held v) ∧ ∀ l, Maps.has D l = true → ∃ k, l = kl k ∧ (f k).isSome = true
/-- block b is a map of cnt entries: at each key what f says -/
def IM (P : Program) (K : TypeId) (kl : κ → Lit) (w : World) (b : Nat) (f : κ → Option Value) (cnt : Nat) : Prop :=
  ∃ D : DataW Value, w.ownsMap P K heldR b cnt D ∧ Maps.size D = cnt ∧ Has kl D f
theorem ownsMap_tight {D : DataW Value} {n : Nat} (h : w.ownsMap P K heldR b n D) : w.ownsMap P K heldR b (Maps.size D) D := by
  obtain ⟨es, clock, hb, F, _, rfl⟩ := h
  refine ⟨es, clock, hb, F, ?_, rfl⟩
  simp [Maps.size, length_sorted]
theorem IM.made (w : World) : IM P K kl (w.alloc (.map #[] 0)) w.heap.size (fun _ => none) 0 :=
  ⟨_, World.ownsMap_made w P K heldR, rfl, fun k => ⟨fun _ => rfl, fun v h => by cases h⟩, fun l h => by cases h⟩
theorem IM.block (h : IM P K kl w b f cnt) (hb : w'.heap[b]? = w.heap[b]?) : IM P K kl w' b f cnt := by
  obtain ⟨D, ⟨es, clock, h1, h2⟩, h3⟩ := h
  exact ⟨D, ⟨es, clock, hb.trans h1, h2⟩, h3⟩
theorem IM.lt (h : IM P K kl w b f cnt) : b < w.heap.size := by
  obtain ⟨D, h, _⟩ := h
  exact h.lt
theorem IM.isMap (h : IM P K kl w b f cnt) : ∃ es clock, w.heap[b]? = some (.map es clock) := by
  obtain ⟨D, ⟨es, clock, hb, _⟩, _⟩ := h
  exact ⟨es, clock, hb⟩
theorem IM.look_some (h : IM P K kl w b f cnt) (KL : Keyed P K) (ht : P.underlying T = some (.map K E)) {z : Value} (hz : (zeroValue E).run P w = .ok z w) {key : Value} {k : κ} (hkey : keyOf P K key = some (kl k)) {v : Value} (hf : f k = some v) :
    (Instr.lookup T (.map (some b)) key true).run P w = .ok (.tuple #[v, .bool true]) w ∧ (Instr.lookup T (.map (some b)) key false).run P w = .ok v w := by
  obtain ⟨D, h, _, hh⟩ := h
  obtain ⟨h1, h2⟩ := (hh.1 k).2 v hf
  constructor
  · obtain ⟨v', ps, hrun, hv⟩ := h.look_ok KL ht hz (zd := .held z) (zp := []) rfl hkey
    rw [h2, heldR] at hv
    simp only [Option.some.injEq, Prod.mk.injEq, DataW.held.injEq] at hv
    rw [h1, hv.1] at hrun
    exact hrun
  · obtain ⟨v', ps, hrun, hv⟩ := h.lookup KL ht hz (zd := .held z) (zp := []) rfl hkey
    rw [h2, heldR] at hv
    simp only [Option.some.injEq, Prod.mk.injEq, DataW.held.injEq] at hv
    rw [hv.1] at hrun
    exact hrun
theorem IM.look_none (h : IM P K kl w b f cnt) (KL : Keyed P K) (ht : P.underlying T = some (.map K E)) {z : Value} (hz : (zeroValue E).run P w = .ok z w) {key : Value} {k : κ} (hkey : keyOf P K key = some (kl k)) (hf : f k = none) :
    (Instr.lookup T (.map (some b)) key true).run P w = .ok (.tuple #[z, .bool false]) w ∧ (Instr.lookup T (.map (some b)) key false).run P w = .ok z w := by
  obtain ⟨D, h, _, hh⟩ := h
  have h1 := (hh.1 k).1 hf
  constructor
  · obtain ⟨v', ps, hrun, hv⟩ := h.look_ok KL ht hz (zd := .held z) (zp := []) rfl hkey
    rw [atKey_of_not_has h1, heldR] at hv
    simp only [Option.some.injEq, Prod.mk.injEq, DataW.held.injEq] at hv
    rw [h1, hv.1] at hrun
    exact hrun
  · obtain ⟨v', ps, hrun, hv⟩ := h.lookup KL ht hz (zd := .held z) (zp := []) rfl hkey
    rw [atKey_of_not_has h1, heldR] at hv
    simp only [Option.some.injEq, Prod.mk.injEq, DataW.held.injEq] at hv
    rw [hv.1] at hrun
    exact hrun
/-- f with another value at one key -/
def upd [DecidableEq κ] (f : κ → Option Value) (k : κ) (v : Value) : κ → Option Value := fun x => if x = k then some v else f x
theorem IM.store [DecidableEq κ] (h : IM P K kl w b f cnt) (KL : Keyed P K) (hinj : ∀ x y, kl x = kl y → x = y) (ht : P.underlying T = some (.map K E)) (hn : cnt < maxLen) {key : Value} {k : κ} (hkey : keyOf P K key = some (kl k)) (v : Value) :
    ∃ w', (Instr.mapUpdate T (.map (some b)) key v).run P w = .ok () w' ∧ IM P K kl w' b (upd f k v) (if (f k).isSome then cnt else cnt + 1) ∧ w.grownBy w' (some b) ∧ w'.heap.size = w.heap.size := by
  obtain ⟨D, h, hs, hh⟩ := h
  obtain ⟨w', hrun, h', ht'⟩ := h.store KL ht hn (d := .held v) (ps := []) hkey rfl
  obtain ⟨w2, hrun2, _, hg⟩ := h.update KL ht hn (d := .held v) (ps := []) hkey rfl
  have e : w' = w2 := by
    rw [hrun] at hrun2
    injection hrun2
  subst e
  have hik : WideAt.IsKeyLit (kl k) := KL.key hkey
  have hsz : Maps.size (D.put (kl k) (.held v)) = if (f k).isSome then cnt else cnt + 1 := by
    rw [size_put (h.tidy KL), hs]
    cases hf : f k with
    | none => rw [(hh.1 k).1 hf]; simp
    | some u => rw [((hh.1 k).2 u hf).1]; simp
  refine ⟨w', hrun, ⟨_, ?_, hsz, fun x => ?_, fun l hl => ?_⟩, hg, ?_⟩
  · rw [← hsz]; exact ownsMap_tight h'
  · unfold upd
    by_cases hx : x = k
    · subst hx
      rw [if_pos rfl]
      refine ⟨(fun h => by cases h), fun u hu => ?_⟩
      obtain rfl := Option.some.inj hu
      exact ⟨has_put_same h.isMap hik _, fun z => atKey_put_same h.isMap hik _ z⟩
    · rw [if_neg hx]
      have hne : kl x ≠ kl k := fun e => hx (hinj _ _ e)
      refine ⟨fun h0 => by rw [has_put_other hne]; exact (hh.1 x).1 h0, fun u hu => ?_⟩
      rw [has_put_other hne]
      exact ⟨((hh.1 x).2 u hu).1, fun z => by rw [atKey_put_other hne]; exact ((hh.1 x).2 u hu).2 z⟩
  · by_cases hx : l = kl k
    · exact ⟨k, hx, by unfold upd; rw [if_pos rfl]; rfl⟩
    · rw [has_put_other hx] at hl
      obtain ⟨x, hx', hfx⟩ := hh.2 l hl
      refine ⟨x, hx', ?_⟩
      unfold upd
      split
      · rfl
      · exact hfx
  · obtain ⟨es, clock, es', clock', _, hw⟩ := ht'
    rw [hw]; simp [setBlock]
theorem IM.len_ (h : IM P K kl w b f cnt) (ht : P.underlying T = some (.map K E)) (ty : TypeId) : (Builtin.len_ #[T] ty #[.map (some b)]).run P w = .ok (.int .i64 cnt) w := by
  obtain ⟨D, h, hs, _⟩ := h
  rw [← hs]
  exact h.len ht ty
theorem IM.clear_ (h : IM P K kl w b f cnt) (ht : P.underlying T = some (.map K E)) (ty : TypeId) :
    ∃ w', (Builtin.clear_ #[T] ty #[.map (some b)]).run P w = .ok (.tuple #[]) w' ∧ IM P K kl w' b (fun _ => none) 0 ∧ w.grownBy w' (some b) ∧ w'.heap.size = w.heap.size := by
  obtain ⟨D, ⟨es, clock, hb, F, _⟩, _⟩ := h
  refine ⟨setBlock w b (.map #[] clock), ?_, ⟨.map [], ⟨#[], clock, heap_setBlock_same hb _, ⟨by simp, ?_, by simp⟩, Nat.le_refl _, rfl⟩, rfl, fun k => ⟨fun _ => rfl, fun v h => by cases h⟩, fun l h => by cases h⟩,
    ⟨rfl, rfl, rfl, by simp [setBlock], fun i _ hi => heap_setBlock_other hb _ (fun e => hi (by rw [e]))⟩, by simp [setBlock]⟩
  · simp [Builtin.clear_, run_underlying ht, MapKept.run_getObj_map hb, MapKept.run_setObj_map _ hb, Result.andThen, setBlock]
  · exact MapKept.stamped_empty _
end
end Go.Proofs.YtcahgmnkphmnhaaGreat
/- A device in memory: what lies where. -/
namespace Go.Proofs.YtcahgmnkphmnhaaGreat
open Go.RowKit

/-- what a device is -/
structure Dv where
  S : List Bytes
  O : List Nat
  M : Nat → Bytes
  left : Int
  down : Bool
/-- where it lies -/
structure Lay where
  gs : Nat
  cs : Nat
  gm : Nat
  vo : Value
  sb : Nat → Nat
  sc : Nat → Nat
  mb : Nat → Nat
  mc : Nat → Nat
def natL (k : Nat) : Lit := .int .i64 k
theorem natL_inj (x y : Nat) (h : natL x = natL y) : x = y := by
  unfold natL at h; injection h with _ h; omega
def rowV (g c : Nat) : Value := .slice (some ⟨g, 0, none⟩) 32 c
def memF (O : List Nat) (Y : Lay) (k : Nat) : Option Value := if k ∈ O then some (rowV (Y.mb k) (Y.mc k)) else none
section
variable {w w' : World} {F F' : Nat → Prop} {d : Nat} {D : Dv} {Y : Lay} {live : Nat → Prop}
end
end Go.Proofs.YtcahgmnkphmnhaaGreat
/- The contracts of package device: Len, Down, step, Fail, forget. -/
namespace Go.Proofs.YtcahgmnkphmnhaaGreat
open Go.RowKit

theorem five {w : World} {d : Nat} {a b c e f : Value} {t : TypeId} (h : w.heap[d]? = some (.cells #[a, b, c, e, f] t (0, 0))) :
    (w.cell? ⟨d, 0, none⟩ = some a ∧ w.cell? ⟨d, 1, none⟩ = some b ∧ w.cell? ⟨d, 2, none⟩ = some c ∧ w.cell? ⟨d, 3, none⟩ = some e ∧ w.cell? ⟨d, 4, none⟩ = some f) ∧ ∀ k, w.frozen? ⟨d, k, none⟩ = false := by
  refine ⟨⟨?_, ?_, ?_, ?_, ?_⟩, fun k => by simp [World.frozen?, h]⟩ <;> simp [World.cell?, h]
theorem heap_set5 {w : World} {d k : Nat} {cur : Array Value} {t : TypeId} (h : w.heap[d]? = some (.cells cur t (0, 0))) (v : Value) : (w.setCell ⟨d, k, none⟩ v).heap[d]? = some (.cells (cur.setIfInBounds k v) t (0, 0)) := by
  rw [setCell_eq_setRow w d k cur t _ _ h]
  exact setRow_heap w d cur _ t _ h
theorem Keep.setCell {F : Nat → Prop} {w w' : World} (h : Keep F w w') {p : Addr} (hp : F p.block ∨ w.heap.size ≤ p.block) (u : Value) : Keep F w (w'.setCell p u) :=
  ⟨h.os, h.tape, h.output, by simpa using h.size, fun k hk hn => by
    have : k ≠ p.block := fun e => by rcases hp with h' | h'; exact hn (e ▸ h'); omega
    exact (Below.heap_setCell w' p u k this).trans (h.block k hk hn)⟩
/-- one step of the power -/
def stepD (D : Dv) : Dv := { D with left := max (-1) (D.left - 1), down := D.left == 0 }
end Go.Proofs.YtcahgmnkphmnhaaGreat
/- The reference on heaps: Taken, Step. -/
namespace Go.Proofs.YtcahgmnkphmnhaaGreat
open Go.RowKit

end Go.Proofs.YtcahgmnkphmnhaaGreat
/- The reference's Step of moving. -/
namespace Go.Proofs.YtcahgmnkphmnhaaGreat
open Go.RowKit

def bH : Option Ent → Int
  | none => 0
  | some x => x.1
def bA : Option Ent → Nat
  | none => 0
  | some x => rAt x.2
def bL : Option Ent → Nat
  | none => 0
  | some x => rLen x.2
def bT : Option Ent → Int
  | none => 0
  | some x => rTag x.2
def FourB (w : World) (g : Nat) (a b c d : Int) : Prop := w.heap[g]? = some (.cells #[.int .i64 a, .int .i64 b, .int .i64 c, .int .i64 d] 97 (0, 0))
theorem FourB.get {w : World} {g : Nat} {a b c d : Int} (h : FourB w g a b c d) : FourAt w g a b c d ∧ ∀ q, w.frozen? ⟨g, q, none⟩ = false := by
  refine ⟨?_, fun q => frozen_of_row _ _ q _ _ h⟩
  unfold FourAt
  simp only [World.cell?]
  rw [h]
  exact ⟨rfl, rfl, rfl, rfl⟩
theorem FourB.set {w : World} {g : Nat} {a b c d : Int} (h : FourB w g a b c d) (x0 x1 x2 x3 : Int) :
    FourB ((((w.setCell ⟨g, 0, none⟩ (.int .i64 x0)).setCell ⟨g, 1, none⟩ (.int .i64 x1)).setCell ⟨g, 2, none⟩ (.int .i64 x2)).setCell ⟨g, 3, none⟩ (.int .i64 x3)) g x0 x1 x2 x3 := by
  have e0 : (w.setCell ⟨g, 0, none⟩ (.int .i64 x0)).heap[g]? = _ := heap_setK h _
  have e1 := heap_setK (k := 1) e0 (.int .i64 x1)
  have e2 := heap_setK (k := 2) e1 (.int .i64 x2)
  exact heap_setK (k := 3) e2 (.int .i64 x3)
theorem FourB.set1 {w : World} {g : Nat} {a b c d : Int} (h : FourB w g a b c d) (x : Int) : FourB (w.setCell ⟨g, 1, none⟩ (.int .i64 x)) g a x c d := heap_setK (k := 1) h _
/-- all but one block is as it was -/
abbrev But (g : Nat) (w w' : World) : Prop := Keep (fun k => k = g) w w'
theorem But.four {g : Nat} {w w' : World} (h : But g w w') (a b c d : Value) : But g w ((((w'.setCell ⟨g, 0, none⟩ a).setCell ⟨g, 1, none⟩ b).setCell ⟨g, 2, none⟩ c).setCell ⟨g, 3, none⟩ d) :=
  (((h.setCell (p := ⟨g, 0, none⟩) (.inl rfl) _).setCell (p := ⟨g, 1, none⟩) (.inl rfl) _).setCell (p := ⟨g, 2, none⟩) (.inl rfl) _).setCell (p := ⟨g, 3, none⟩) (.inl rfl) _
theorem own_far {X : Type} {f : X → List Value} {C : Nat} {w : World} {base : Nat} {e : TypeId} {A : Option Addr} {n c g : Nat} {L : List X} (hC : ∀ x, (f x).length = C) (hn : L.length = n) (h : w.ownsRow base e C (.slice A n c) n (L.flatMap f)) (hg : g < base) (W : World) (hW : But g w W) : RdX f C W A L := by
  refine (own_rdX3 hC hn h).block fun ad he hlt => hW.block _ hlt ?_
  rcases h.2 with ⟨he', _⟩ | ⟨g', cap, cur, he', hb, _⟩
  · injection he' with h1; rw [h1] at he; cases he
  · injection he' with h1
    rw [h1] at he
    have := Option.some.inj he
    subst this
    dsimp only; omega
end Go.Proofs.YtcahgmnkphmnhaaGreat
/- What comes in: slices of ints. -/
namespace Go.Proofs.YtcahgmnkphmnhaaGreat
open Go.RowKit Go.ChangeShapes Go.WideShapes Go.ChangeAt

def icell (x : Int) : List Value := [.int .i64 x]
section
variable {H : Type} {enc : TypeId × Value → H} {w : World} {v : Value} {d : DataW H} {ps : List MemPlace} {base : Nat} {r : Reach}
set_option maxRecDepth 20000 in
theorem open_ints (hv : Value.okWide Tryz.prog w r base 24 v) (h : DataW.Trod enc Tryz.prog w 0 (fun _ => true) true 24 v d ps) (hz : (d.weights Tryz.prog 24).all (· ≤ reachBytes) = true) :
    ∃ (A : Option Addr) (c : Nat) (L : List Int), v = .slice A L.length c ∧ L.length ≤ c ∧ c ≤ 140737488351232 ∧ (∀ x ∈ L, -9223372036854775808 ≤ x ∧ x ≤ 9223372036854775807) ∧ RdX icell 1 w A L := by
  have hb : decide (1 ≤ Tryz.prog.bytesOf 3) = true := by kernel_rfl
  have hC : Tryz.prog.cellsOf 3 = 1 := by kernel_rfl
  refine open_seq (P := Tryz.prog) icell 1 (fun _ x => -9223372036854775808 ≤ x ∧ x ≤ 9223372036854775807) Tryz.underlying24 hC (by omega) (of_decide_eq_true hb) (fun n cs x hl ht hz => ?_) hv h hz
  match cs, hl with
  | [c0], _ =>
    obtain ⟨a, ha, -, wa⟩ := DataW.trod_int Tryz.underlying3 ht
    obtain ⟨lo, hi⟩ := wf_i64' wa
    exact ⟨a, by simpa [icell] using ha, lo, hi⟩
end
end Go.Proofs.YtcahgmnkphmnhaaGreat
/- Package stat: Loose, ByTag, Can. -/
namespace Go.Proofs.YtcahgmnkphmnhaaGreat
open Go.RowKit

/-- how much of what is free is not in one run -/
def looseI (fr mo : Int) : Int := if fr = 0 then 0 else (100 * (fr - mo)).tdiv fr
def freeL_ (l : Bytes) : Int := (l.length : Int) - 288 - sumX (takenL l)
def mostL (l : Bytes) : Int := mostX (holesX ((l.length : Int) - 288) (takenL l))
theorem free_bd {l : Bytes} (hg : Good l) : 0 ≤ mostL l ∧ mostL l ≤ freeL_ l ∧ freeL_ l ≤ 6400 := by
  have h1 := (mostX_mem (holesX ((l.length : Int) - 288) (takenL l))).1
  have h2 := most_free (good_chk hg)
  have h3 : 0 ≤ sumX (takenL l) := (sum_mem (fun x hx => by have := badX_false (holds_bad (good_chk hg) x hx); omega)).1
  have hb := hg.bd
  unfold mostL freeL_
  omega
theorem statH_five {l : Bytes} (hg : Good l) : statH l = .agg #[.int .i64 ((takenL l).length : Int), .int .i64 (sumX (takenL l)), .int .i64 (freeL_ l), .int .i64 (mostL l), .int .i64 ((holesX ((l.length : Int) - 288) (takenL l)).length : Int)] := statH_good hg
/-- of each tag -/
def tagF (E : List Ent) (j : Nat) : Nat := E.foldl (fun s e => if rTag e.2 = (j : Int) then s + rLen e.2 else s) 0
theorem tagF_succ (E : List Ent) (k : Nat) (hk : k < E.length) (j : Nat) : tagF (E.take (k + 1)) j = if rTag E[k].2 = (j : Int) then tagF (E.take k) j + rLen E[k].2 else tagF (E.take k) j := by
  unfold tagF; rw [List.take_succ_eq_append_getElem hk, List.foldl_append]; rfl
theorem tagF_le (E : List Ent) (j : Nat) : ∀ k, k ≤ E.length → tagF (E.take k) j ≤ 65535 * k
  | 0, _ => by simp [tagF]
  | k + 1, hk => by
    rw [tagF_succ E k hk]
    have := tagF_le E j k (by omega)
    have := rLen_le E[k].2
    split <;> omega
def tagsL (l : Bytes) : List Nat := (List.range 16).map (tagF (entriesL l))
theorem IRow.rdn {w : World} {g N : Nat} {T : Nat → Nat} {f : Nat → Int} (h : IRow w g N f) (hf : ∀ i, i < N → f i = (T i : Int)) : RdX ncell 1 w (some ⟨g, 0, none⟩) ((List.range N).map T) := fun i hi => by
  have hiN : i < N := by simpa using hi
  refine ⟨g, 0, rfl, fun q u hq => ?_⟩
  have hc := h.cell i hiN
  rw [hf i hiN] at hc
  unfold ncell at hq
  cases q with
  | zero =>
    simp only [List.getElem?_cons_zero, List.getElem_map, List.getElem_range] at hq
    have := Option.some.inj hq
    subst this
    simpa using hc
  | succ q => simp at hq
section
variable {w0 w : World} {F : Nat → Prop} {h : Nat} {l : Bytes}
set_option maxRecDepth 100000 in
theorem loose_any (hp : Hp w0 w F h l) (hg : Good l) :
    Calls Tryz.prog 26 #[.pointer (some ⟨h, 0, none⟩)] w fun e w' => e = .returned (.tuple #[.int .i64 (looseI (freeL_ l) (mostL l)), .nilIface]) ∧ Below w.heap.size w w' := by
  have HC := Hidden.mk (sheap_any hp hg)
  rw [statH_five hg] at HC
  have hbd := free_bd hg
  generalize (sumX (takenL l)) = a1 at *
  generalize ((holesX ((l.length : Int) - 288) (takenL l)).length : Int) = a4 at *
  generalize ((takenL l).length : Int) = a0 at *
  generalize freeL_ l = fr at *
  generalize mostL l = mo at *
  have s1 : IntKind.i64.wrap (fr - mo) = fr - mo := IntWalk.i64_in _ (by omega)
  have s2 : IntKind.i64.wrap (100 * (fr - mo)) = 100 * (fr - mo) := IntWalk.i64_in _ (by omega)
  clear hp hg
  go_enter Tryz.func26, Tryz.ntmps26
  go_wp2_with fail
  refine HC.out.mono ?_
  rintro e w1 ⟨rfl, hb1⟩
  have HB1 : Hidden (Below w.heap.size w (w1.alloc (.cells #[.int .i64 a0, .int .i64 a1, .int .i64 fr, .int .i64 mo, .int .i64 a4] 57))) := ⟨hb1.alloc hb1.size _⟩
  have hbk := heap_alloc_new w1 (.cells #[.int .i64 a0, .int .i64 a1, .int .i64 fr, .int .i64 mo, .int .i64 a4] 57)
  obtain ⟨z0, z1, z2, z3, z4, -⟩ := fiveCells hbk
  clear hb1 hbk HC
  by_cases h0 : fr = 0
  · have hl : looseI fr mo = 0 := by unfold looseI; rw [if_pos h0]
    subst h0
    go_wp2_with fail
    go_ret2
    exact ⟨by rw [hl]; rfl, HB1.out⟩
  · have hl : looseI fr mo = (100 * (fr - mo)).tdiv fr := by unfold looseI; rw [if_neg h0]
    have d0 : decide (fr = 0) = false := by simpa using h0
    have d0' : (fr == 0) = false := by simpa using h0
    have s3 : IntKind.i64.wrap ((100 * (fr - mo)).tdiv fr) = (100 * (fr - mo)).tdiv fr := IntWalk.i64_in _ (by
      have h1 : (100 * (fr - mo)).tdiv fr = (100 * (fr - mo)) / fr := Int.tdiv_eq_ediv_of_nonneg (by omega)
      have h2 : 0 ≤ (100 * (fr - mo)) / fr := Int.ediv_nonneg (by omega) (by omega)
      have h3 : (100 * (fr - mo)) / fr ≤ 100 * (fr - mo) := Int.ediv_le_self _ (by omega)
      rw [h1]; omega)
    go_wp2_with fail
    go_ret2
    exact ⟨by rw [hl]; rfl, HB1.out⟩
/-- how many of them could be had -/
def canF : Bytes → List Int → Nat
  | _, [] => 0
  | l, x :: r => if allocE l x 0 = 0 then canF (allocL l x 0) r + 1 else 0
def canE (S : List Int) : Nat := if 200 < S.length then 4 else if S.all (fun x => lenB x) = true then 0 else 1
def canN (l : Bytes) (S : List Int) : Nat := if canE S = 0 then canF l S else 0
theorem canF_drop (l : Bytes) (S : List Int) (k : Nat) (hk : k < S.length) : canF l (S.drop k) = if allocE l S[k] 0 = 0 then canF (allocL l S[k] 0) (S.drop (k + 1)) + 1 else 0 := by
  rw [List.drop_eq_getElem_cons hk]; rfl
theorem canF_le : ∀ (S : List Int) (l : Bytes), canF l S ≤ S.length
  | [], _ => Nat.le_refl _
  | x :: r, l => by
    unfold canF
    have := canF_le r (allocL l x 0)
    split <;> simp <;> omega
set_option maxRecDepth 100000 in
theorem bytag_any (hp : Hp w0 w F h l) (hg : Good l) :
    Calls Tryz.prog 25 #[.pointer (some ⟨h, 0, none⟩)] w fun e w' => ∃ g, e = .returned (.slice (some ⟨g, 0, none⟩) 16 16) ∧ RdX ncell 1 w' (some ⟨g, 0, none⟩) (tagsL l) ∧ Below w.heap.size w w' := by
  have HTG : Hidden (∀ e ∈ entriesL l, ∃ t : Nat, t ≤ 15 ∧ rTag e.2 = (t : Int)) := ⟨fun e he => by
    obtain ⟨k, hk, hh, rfl⟩ := entL_mem.1 he
    have := strayE_false (hg.s.fit k hk hh)
    exact ⟨(rTag (rawE l k)).toNat, by omega, by dsimp only; omega⟩⟩
  have hmk := mk_ints 16 (by omega) w
  rw [show ((16 : Nat) : Int) = 16 from rfl] at hmk
  have HI0 : Hidden (IRow (w.alloc (.cells (Array.replicate 16 (.int .i64 0)) 3)) w.heap.size 16 (fun _ => 0)) := ⟨IRow.new w 16⟩
  have HB0 : Hidden (Below w.heap.size w (w.alloc (.cells (Array.replicate 16 (.int .i64 0)) 3)) ∧ (w.alloc (.cells (Array.replicate 16 (.int .i64 0)) 3)).heap.size = w.heap.size + 1) := ⟨(Below.refl _ _).alloc (Nat.le_refl _) _, by simp⟩
  have HC := Hidden.mk (hentries_any (hp.below HB0.out.1))
  have hle : (entriesL l).length ≤ 40 := entsL_len _ _ 40
  have HTL : Hidden (tagsL l = (List.range 16).map (tagF (entriesL l))) := ⟨rfl⟩
  generalize tagsL l = TL at *
  generalize entriesL l = E at *
  generalize hm : E.length = m at *
  have HM := Hidden.mk hm
  clear hp hg hm
  go_enter Tryz.func25, Tryz.ntmps25
  go_wp2_with fail
  generalize w.alloc (.cells (Array.replicate 16 (.int .i64 0)) 3) = wa at *
  generalize hgd : w.heap.size = g at *
  have HGD := Hidden.mk hgd
  refine HC.out.mono ?_
  rintro e w1 ⟨v, rfl, hown, hb1⟩
  obtain ⟨A1, c1, rfl, hc1, -⟩ := own_split hown
  have HR : Hidden (∀ W, But g w1 W → RdX ecells 4 W A1 E) := ⟨fun W hW => own_far (f := ecells) (fun _ => rfl) HM.out hown (by have := HB0.out.2; omega) W hW⟩
  have HI1 := Hidden.mk (HI0.out.below hb1)
  have HB1 : Hidden (Below g w w1) := ⟨HB0.out.1.trans (hb1.mono (by have := HB0.out.2; omega))⟩
  clear hown hb1 HC HI0 hmk hgd
  go_wp2_with fail
  go_loopg [10] m (fun q iv wr => ∃ k : Nat, k ≤ m ∧ q = m - k ∧ iv = .int .i64 (k : Int) ∧ Hidden (But g w1 wr ∧ IRow wr g 16 (fun i => (tagF (E.take k) i : Int))))
  case atStart => exact ⟨0, by omega, rfl, rfl, ⟨Keep.refl _ _, HI1.out⟩⟩
  case round =>
    obtain ⟨k, hk, rfl, rfl, hst⟩ := hrel
    by_cases hlt : k < m
    · have hkE : k < E.length := by rw [HM.out]; exact hlt
      obtain ⟨pp, oo, rfl, hcx⟩ := (HR.out _ hst.out.1) k hkE
      have x0 := hcx 0 _ rfl
      have x1 := hcx 1 _ rfl
      have x2 := hcx 2 _ rfl
      have x3 := hcx 3 _ rfl
      rw [Nat.add_zero] at x0
      obtain ⟨t, ht, het⟩ := HTG.out E[k] (List.getElem_mem hkE)
      have HS := Hidden.mk (tagF_succ E k hkE)
      have hbt := tagF_le E t k (by omega)
      have b2 := rLen_le E[k].2
      rw [het] at x3 HS
      generalize E[k].1 = e0 at *
      generalize rAt E[k].2 = e1 at *
      generalize rLen E[k].2 = e2 at *
      have i0 : (0 : Int) ≤ k := by omega
      have i1 : (k : Int) < m := by omega
      have t0 : (0 : Int) ≤ t := by omega
      have t1 : (t : Int) < 16 := by omega
      have t1' : t < 16 := by omega
      have s1 : IntKind.i64.wrap ((tagF (E.take k) t : Int) + e2) = (tagF (E.take k) t : Int) + e2 := IntWalk.i64_in _ (by omega)
      have s3 : IntKind.i64.wrap ((k : Int) + 1) = (k : Int) + 1 := IntWalk.i64_in _ (by omega)
      have hal : Below wr.heap.size wr (wr.alloc (.cells #[.int .i64 e0, .int .i64 e1, .int .i64 e2, .int .i64 t] 97)) := (Below.refl _ _).alloc (Nat.le_refl _) _
      have HN : Hidden (But g w1 (wr.alloc (.cells #[.int .i64 e0, .int .i64 e1, .int .i64 e2, .int .i64 t] 97)) ∧ IRow (wr.alloc (.cells #[.int .i64 e0, .int .i64 e1, .int .i64 e2, .int .i64 t] 97)) g 16 (fun i => (tagF (E.take k) i : Int))) := ⟨hst.out.1.trans (Keep.of_below (F := fun k => k = g) hal) (fun x hx => .inl hx), hst.out.2.below hal⟩
      have hgt := HN.out.2.cell t (by omega)
      have hgf := HN.out.2.frozen t
      obtain ⟨z0, z1, z2, z3⟩ := fourAt_one wr e0 e1 e2 t 97
      have HST : Hidden (∀ W, But g w1 W → IRow W g 16 (fun i => (tagF (E.take k) i : Int)) → But g w1 (W.setCell ⟨g, t, none⟩ (.int .i64 ((tagF (E.take k) t : Int) + e2))) ∧ IRow (W.setCell ⟨g, t, none⟩ (.int .i64 ((tagF (E.take k) t : Int) + e2))) g 16 (fun i => (tagF (E.take (k + 1)) i : Int))) := ⟨fun W h1 h2 => ⟨h1.setCell (p := ⟨g, t, none⟩) (.inl rfl) _, (h2.set t _).congr fun i _ => by
        rw [HS.out i]
        unfold updI
        by_cases hi : i = t
        · subst hi; rw [if_pos rfl, if_pos rfl]; omega
        · rw [if_neg hi, if_neg (by omega)]⟩⟩
      clear hcx hst hal HS hbt b2 het
      generalize tagF (E.take k) t = tt at *
      go_upto_region 5 with (fail)
      generalize wr.alloc (.cells #[.int .i64 e0, .int .i64 e1, .int .i64 e2, .int .i64 t] 97) = wb at *
      go_still_tail 10, (by kernel_rfl)
      change wpList _ _ _ _ _ wb.drew
      have HN2 : Hidden (But g w1 wb.drew ∧ IRow wb.drew g 16 (fun i => (tagF (E.take k) i : Int))) := ⟨HN.out.1.drewN 1, HN.out.2.block rfl⟩
      have hgt2 : wb.drew.cell? ⟨g, t, none⟩ = some (.int .i64 tt) := hgt
      have hgf2 : wb.drew.frozen? ⟨g, t, none⟩ = false := hgf
      have HQ := Hidden.mk (HST.out _ HN2.out.1 HN2.out.2)
      clear x0 x1 x2 x3 z0 z1 z2 z3 hgt hgf HN HST HN2
      generalize wb.drew = wd at *
      go_wp2_with fail
      go_roundg (m - (k + 1))
      case measure => omega
      case rel => exact ⟨k + 1, by omega, rfl, by go_num, HQ⟩
    · obtain rfl : m = k := by omega
      have hT := hst.out
      rw [List.take_of_length_le (by rw [HM.out]; exact Nat.le_refl _)] at hT
      have HF : Hidden (RdX ncell 1 wr (some ⟨g, 0, none⟩) TL ∧ Below g w wr) := ⟨by rw [HTL.out]; exact hT.2.rdn (fun _ _ => rfl), HB1.out.trans (hT.1.below (by have := HB1.out.size; have := HGD.out; omega) (fun k e => by rw [e]; exact Nat.le_refl _))⟩
      clear hT hst
      go_wp2_with fail
      go_ret
      exact ⟨g, rfl, HF.out.1, by rw [HGD.out]; exact HF.out.2⟩
set_option maxRecDepth 100000 in
theorem can_any (A : Option Addr) (c : Nat) (S : List Int) (hA : RdX icell 1 w A S) (hp : Hp w0 w F h l) (hg : Good l) :
    Calls Tryz.prog 27 #[.pointer (some ⟨h, 0, none⟩), .slice A S.length c] w fun e w' => e = .returned (.tuple #[.int .i64 (canN l S : Int), errV (canE S)]) ∧ Below w.heap.size w w' := by
  have HA := Hidden.mk hA
  by_cases h200 : 200 < S.length
  · have he : canE S = 4 := by unfold canE; rw [if_pos h200]
    have hn : canN l S = 0 := by unfold canN; rw [he]; rfl
    rw [he, hn]
    have d1 : decide ((200 : Int) < S.length) = true := by simp; omega
    have d1' : decide (200 < S.length) = true := by simpa using h200
    clear hp hg hA he hn
    go_enter Tryz.func27, Tryz.ntmps27
    go_wp2_with fail
    go_ret2
    exact ⟨rfl, Below.refl _ _⟩
  · have d1 : decide ((200 : Int) < S.length) = false := by simp; omega
    have d1' : decide (200 < S.length) = false := by simpa using h200
    have HEB : Hidden (∀ k (hk : k < S.length), lenB S[k] = false → canE S = 1 ∧ canN l S = 0) := ⟨fun k hk hb => by
      have h0 : canE S = 1 := by
        unfold canE
        rw [if_neg h200, if_neg (fun hall => by have := List.all_eq_true.1 hall _ (List.getElem_mem hk); rw [hb] at this; cases this)]
      exact ⟨h0, by unfold canN; rw [h0]; rfl⟩⟩
    have HEA : Hidden ((∀ x ∈ S, lenB x = true) → canE S = 0 ∧ canN l S = canF l S) := ⟨fun hall => by
      have h0 : canE S = 0 := by unfold canE; rw [if_neg h200, if_pos (List.all_eq_true.2 hall)]
      exact ⟨h0, by unfold canN; rw [if_pos h0]⟩⟩
    have HCD := Hidden.mk (fun l' k hk => canF_drop l' S k hk)
    have HHB := Hidden.mk (hbytes_ok _ _ F h l hp)
    have HBE := Hidden.mk hp.bel
    have HGD := Hidden.mk hg
    have HGB := hg.bd
    have hS : S.length ≤ 200 := by omega
    generalize canE S = ce at *
    generalize canN l S = cn at *
    clear hp hg hA h200
    go_enter Tryz.func27, Tryz.ntmps27
    go_wp2_with fail
    go_loopg [20] S.length (fun q iv wr => ∃ k : Nat, k ≤ S.length ∧ q = S.length - k ∧ iv = .int .i64 (k : Int) ∧ Hidden (wr = w ∧ ∀ x ∈ S.take k, lenB x = true))
    case atStart => exact ⟨0, by omega, rfl, rfl, ⟨rfl, fun x hx => by simp at hx⟩⟩
    case round =>
      obtain ⟨k, hk, rfl, rfl, hst⟩ := hrel
      obtain ⟨⟨rfl, hall⟩⟩ := hst
      have HALL := Hidden.mk hall
      clear hall
      by_cases hlt : k < S.length
      · obtain ⟨pp, oo, rfl, hcx⟩ := HA.out k hlt
        have x0 : wr.cell? ⟨pp, oo + k, none⟩ = some (.int .i64 S[k]) := by simpa using hcx 0 _ rfl
        have i0 : (0 : Int) ≤ k := by omega
        have i1 : (k : Int) < S.length := by omega
        have s3 : IntKind.i64.wrap ((k : Int) + 1) = (k : Int) + 1 := IntWalk.i64_in _ (by omega)
        have HL := Hidden.mk (len_any S[k] wr)
        have HNX : Hidden (lenB S[k] = true → ∀ x ∈ S.take (k + 1), lenB x = true) := ⟨fun hb x hx => by
          rw [List.take_succ_eq_append_getElem hlt] at hx
          rcases List.mem_append.1 hx with hx | hx
          · exact HALL.out x hx
          · simp only [List.mem_singleton] at hx; subst hx; exact hb⟩
        have HBD := Hidden.mk (HEB.out k hlt)
        generalize S[k] = sz at *
        clear hcx HCD HHB HEA
        cases hb : lenB sz with
        | true =>
          rw [hb] at HL
          have HX := Hidden.mk (HNX.out hb)
          clear HNX HBD hb
          go_wp2_with fail
          refine HL.out.mono ?_
          rintro e w2 ⟨rfl, rfl⟩
          go_wp2_with fail
          go_roundg (S.length - (k + 1))
          case measure => omega
          case rel => exact ⟨k + 1, by omega, rfl, by go_num, ⟨rfl, HX.out⟩⟩
        | false =>
          rw [hb] at HL
          obtain ⟨e1, e2⟩ := HBD.out hb
          subst e1 e2
          clear HNX HBD hb
          go_wp2_with fail
          refine HL.out.mono ?_
          rintro e w2 ⟨rfl, rfl⟩
          go_wp2_with fail
          go_ret2
          exact ⟨rfl, Below.refl _ _⟩
      · obtain rfl : k = S.length := by omega
        have hal := HALL.out
        rw [List.take_length] at hal
        obtain ⟨e1, e2⟩ := HEA.out hal
        subst e1 e2
        clear hal HALL HEA HEB
        go_wp2_with fail
        refine HHB.out.mono ?_
        rintro e w1 ⟨g, cap, rfl, hg1, hrow1, hb1⟩
        have HLD := Hidden.mk (hload_ok (some ⟨g, 0, none⟩) l.length cap l wr w1 rfl HGD.out hrow1.le.1 hrow1.rd hb1)
        have HB1 := Hidden.mk hb1
        clear hg1 hrow1 hb1 HHB
        go_wp2_with fail
        refine HLD.out.mono ?_
        rintro e w2 ⟨x, F2, rfl, hp2, -, -⟩
        have HP2 := Hidden.mk hp2
        clear hp2 HLD
        go_wp2_with fail
        go_loopg [40] S.length (fun q iv ws => ∃ (k : Nat) (F' : Nat → Prop) (l' : Bytes), k ≤ S.length ∧ q = S.length - k ∧ iv = .int .i64 (k : Int) ∧ Hidden (Hp wr ws F' x l' ∧ Good l' ∧ canF l S = k + canF l' (S.drop k)))
        case atStart => exact ⟨0, F2, l, by omega, rfl, rfl, ⟨HP2.out, HGD.out, by rw [List.drop_zero]; omega⟩⟩
        case round =>
          obtain ⟨k, F', l', hk2, rfl, rfl, hst⟩ := hrel
          have HST := Hidden.mk hst.out
          clear hst
          by_cases hlt : k < S.length
          · obtain ⟨pp, oo, rfl, hcx⟩ := (HA.out.below HST.out.1.bel) k hlt
            have x0 : wr.cell? ⟨pp, oo + k, none⟩ = some (.int .i64 S[k]) := by simpa using hcx 0 _ rfl
            have i0 : (0 : Int) ≤ k := by omega
            have i1 : (k : Int) < S.length := by omega
            have s3 : IntKind.i64.wrap ((k : Int) + 1) = (k : Int) + 1 := IntWalk.i64_in _ (by omega)
            have HAL := Hidden.mk (halloc_any S[k] 0 HST.out.1)
            have HCK := Hidden.mk (HCD.out l' k hlt)
            by_cases h0 : allocE l' S[k] 0 = 0
            · rw [h0, show errV 0 = Value.nilIface from rfl] at HAL
              have hck := HCK.out
              rw [if_pos h0] at hck
              have HN : Hidden (Good (allocL l' S[k] 0) ∧ canF l S = (k + 1) + canF (allocL l' S[k] 0) (S.drop (k + 1))) := ⟨alloc_good HST.out.2.1 _ _, by rw [HST.out.2.2, hck]; omega⟩
              generalize allocL l' S[k] 0 = l2 at *
              generalize allocH l' S[k] 0 = ah at *
              generalize S[k] = sz at *
              clear hcx h0 hck HCK HST HCD
              go_wp2_with fail
              refine HAL.out.mono ?_
              rintro e w3 ⟨rfl, F3, hm⟩
              have HM := Hidden.mk hm.hp
              clear hm HAL
              go_wp2_with fail
              go_roundg (S.length - (k + 1))
              case measure => omega
              case rel => exact ⟨k + 1, F3, l2, by omega, rfl, by go_num, ⟨HM.out, HN.out.1, HN.out.2⟩⟩
            · obtain ⟨ec, hec⟩ : ∃ ec, allocE l' S[k] 0 = ec + 1 := ⟨allocE l' S[k] 0 - 1, by omega⟩
              have hck := HCK.out
              rw [if_neg h0] at hck
              have hcf : Hidden (canF l S = k) := ⟨by rw [HST.out.2.2, hck]; rfl⟩
              rw [hec, show errV (ec + 1) = .iface 88 (.int .i64 ((ec + 1 : Nat) : Int)) from rfl] at HAL
              generalize allocL l' S[k] 0 = l2 at *
              generalize allocH l' S[k] 0 = ah at *
              generalize S[k] = sz at *
              clear hcx h0 hck hec HCK HST HCD
              go_wp2_with fail
              refine HAL.out.mono ?_
              rintro e w3 ⟨rfl, F3, hm⟩
              have HM := Hidden.mk hm.hp.bel
              clear hm HAL
              go_wp2_with fail
              go_ret2
              exact ⟨by rw [hcf.out]; rfl, HM.out⟩
          · have hkS : k = S.length := by omega
            have hcf : Hidden (canF l S = S.length) := ⟨by rw [HST.out.2.2, hkS, List.drop_length]; rfl⟩
            have HM := Hidden.mk HST.out.1.bel
            have dk : decide ((k : Int) < S.length) = false := by simp; omega
            have dk' : decide (k < S.length) = false := by simp; omega
            clear HST HCD
            go_wp2_with fail
            go_ret2
            exact ⟨by rw [hcf.out]; rfl, HM.out⟩
end
end Go.Proofs.YtcahgmnkphmnhaaGreat
/- MoveRoom, the plain law: what is free behind All can be had at once. No walk here. -/
namespace Go.Proofs.YtcahgmnkphmnhaaGreat
open Go.RowKit

def sumJ (g : Nat → Int) : Nat → Int
  | 0 => 0
  | n + 1 => sumJ g n + g n
theorem sumJ_upd (g g' : Nat → Int) (k : Nat) (h : ∀ j, j ≠ k → g' j = g j) : ∀ n, sumJ g' n = sumJ g n + (if k < n then g' k - g k else 0)
  | 0 => by simp [sumJ]
  | n + 1 => by
    rw [sumJ, sumJ, sumJ_upd g g' k h n]
    by_cases e : n = k
    · subst e
      rw [if_neg (by omega), if_pos (by omega)]; omega
    · rw [h n e]
      by_cases hk : k < n
      · rw [if_pos hk, if_pos (by omega)]; omega
      · rw [if_neg hk, if_neg (by omega)]; omega
def lenJ (l : Bytes) (j : Nat) : Int := if hasE (rawE l j) = true then (rLen (rawE l j) : Int) else 0
theorem sumX_snoc (L : List Ext) (x : Ext) : sumX (L ++ [x]) = sumX L + x.2 := by
  rw [sumX_append]
  have : sumX [x] = x.2 := by show (0 : Int) + x.2 = x.2; omega
  rw [this]
theorem sum_taken (l : Bytes) : sumX (takenL l) = sumJ (lenJ l) 40 := by
  have key : ∀ m, sumX ((entsL (fun k => hasE (rawE l k)) (rawE l) m).map takeX) = sumJ (lenJ l) m := by
    intro m
    induction m with
    | zero => rfl
    | succ m ih =>
      rw [entsL_succ, List.map_append, sumJ]
      by_cases h : hasE (rawE l m) = true
      · rw [if_pos h, List.map_cons, List.map_nil, sumX_snoc, ih]
        unfold lenJ; rw [if_pos h]; rfl
      · rw [if_neg h, List.map_nil, List.append_nil, ih]
        unfold lenJ; rw [if_neg h]; omega
  exact key 40
theorem AllocIs.sum {l l' : Bytes} {k a n t : Nat} (h : AllocIs l l' k a n t) (hg : Good l) : sumX (takenL l') = sumX (takenL l) + n := by
  obtain ⟨e1, e2, e3, e4⟩ := h.ent hg.bd.2
  rw [sum_taken, sum_taken]
  have key : ∀ m, m ≤ 40 → sumJ (lenJ l') m = sumJ (lenJ l) m + (if k < m then (n : Int) else 0) := by
    intro m
    induction m with
    | zero => intro _; simp [sumJ]
    | succ m ih =>
      intro hm
      rw [sumJ, sumJ, ih (by omega)]
      by_cases e : m = k
      · subst e
        rw [if_neg (by omega), if_pos (by omega)]
        unfold lenJ
        rw [if_pos e1, e3, if_neg (by rw [h.none]; decide)]
      · have : lenJ l' m = lenJ l m := by unfold lenJ; rw [h.ents m (by omega), if_neg e]
        rw [this]
        by_cases hk : k < m
        · rw [if_pos hk, if_pos (by omega)]; omega
        · rw [if_neg hk, if_neg (by omega)]; omega
  rw [key 40 (Nat.le_refl _), if_pos h.k40]
theorem all_forty {l : Bytes} (h : ∀ k, k < 40 → hasE (rawE l k) = true) : (takenL l).length = 40 := by
  unfold takenL entriesL entsL
  rw [List.length_map, List.length_map, List.filter_eq_self.2 (fun k hk => h k (List.mem_range.1 hk)), List.length_range]
/-- what the law asks -/
structure RoomIs (l : Bytes) (M : Int) : Prop where
  most : mostX (holesX ((allL l).length - 288 : Int) (takenL (allL l))) = M
  free : (l.length : Int) - 288 - sumX (takenL l) = M
  many : ((takenL (allL l)).length : Int) = (takenL l).length
theorem room_is {l : Bytes} (hg : Good l) : RoomIs l ((l.length : Int) - 288 - sumX (takenL l)) := by
  obtain ⟨hm, hgap, -⟩ := all_done hg
  obtain ⟨-, h2⟩ := packed_holes hm.good hgap
  refine ⟨?_, rfl, by rw [hm.many]⟩
  rw [h2, hm.sum, hm.len]
theorem room_alloc {L : Bytes} (hg : Good L) (h800 : L.length ≤ 1288) (hmost : mostX (holesX ((L.length : Int) - 288) (takenL L)) = (L.length : Int) - 288 - sumX (takenL L)) (h0 : mostX (holesX ((L.length : Int) - 288) (takenL L)) ≠ 0) (h40 : (takenL L).length ≠ 40) :
    allocE L (mostX (holesX ((L.length : Int) - 288) (takenL L))) 0 = 0 ∧ 0 < allocH L (mostX (holesX ((L.length : Int) - 288) (takenL L))) 0 ∧ Good (allocL L (mostX (holesX ((L.length : Int) - 288) (takenL L))) 0) ∧
    statH (allocL L (mostX (holesX ((L.length : Int) - 288) (takenL L))) 0) = statV (takenL (allocL L (mostX (holesX ((L.length : Int) - 288) (takenL L))) 0)).length (sumX (takenL (allocL L (mostX (holesX ((L.length : Int) - 288) (takenL L))) 0))) 0 (mostX (holesX (((allocL L (mostX (holesX ((L.length : Int) - 288) (takenL L))) 0).length : Int) - 288) (takenL (allocL L (mostX (holesX ((L.length : Int) - 288) (takenL L))) 0)))) 0 := by
  have hb := hg.bd
  have hc := good_chk hg
  have hmf := most_free hc
  have hm0 := (mostX_mem (holesX ((L.length : Int) - 288) (takenL L))).1
  have hs0 : 0 ≤ sumX (takenL L) := (sum_mem (fun x hx => by have := badX_false (holds_bad hc x hx); omega)).1
  generalize hM : mostX (holesX ((L.length : Int) - 288) (takenL L)) = M at *
  have hfit : fitE ((L.length : Int) - 288) (takenL L) M = 0 := by
    refine Classical.byContradiction fun hf => ?_
    have := fit_most hc hf
    rw [hM] at this
    omega
  have hfh : fH L 40 ≠ 0 := fun e => by
    rcases fH_spec L 40 (Nat.le_refl _) with ⟨_, hall⟩ | ⟨q, _, k2, k3, k4, k5⟩
    · exact h40 (all_forty (fun k hk => hall k (by omega) hk))
    · omega
  have hE : allocE L M 0 = 0 := by
    unfold allocE
    rw [if_neg (by rw [lenB_true.2 (by omega), tagB_true.2 (by omega)]; simp), if_neg (by omega)]
  obtain ⟨k, a, n', t', hn, ht, hH, _, hi⟩ := alloc_is hg hE
  have hg2 := hi.good hg
  have hc2 := good_chk hg2
  have hsum := hi.sum hg
  have hln := hi.len
  have hhs := holds_sum hc2
  refine ⟨hE, by omega, hg2, ?_⟩
  rw [statH_good hg2]
  have hz : ((allocL L M 0).length : Int) - 288 - sumX (takenL (allocL L M 0)) = 0 := by rw [hsum, hln]; omega
  have hm2 := holes_mem hc2
  have hnil : holesX (((allocL L M 0).length : Int) - 288) (takenL (allocL L M 0)) = [] := by
    generalize holesX (((allocL L M 0).length : Int) - 288) (takenL (allocL L M 0)) = H at *
    cases H with
    | nil => rfl
    | cons x r =>
      have hx := hm2 x (by simp)
      rw [sumX_cons] at hhs
      have hr : 0 ≤ sumX r := (sum_mem (fun y hy => by have := hm2 y (by simp [hy]); omega)).1
      omega
  rw [hz, hnil]
  rfl
end Go.Proofs.YtcahgmnkphmnhaaGreat
/- StatSums: the plain law. -/
namespace Go.Proofs.YtcahgmnkphmnhaaGreat
open Go.RowKit

/-- an image of 1000 bytes with no root -/
structure StS (l : Bytes) : Prop where
  good : Good l
  len : l.length = 1000
  rots : ∀ i, i < 8 → zeroE (rawR l i) = true
theorem StS.zero : StS (List.replicate 1000 0) := ⟨good_zero' rfl, List.length_replicate, fun i hi => by
  unfold rawR; rw [zeros_cut 1000 _ _ (by omega)]; rfl⟩
theorem StS.alloc {l : Bytes} (h : StS l) (n t : Int) : StS (allocL l n t) := by
  by_cases h0 : allocE l n t = 0
  · obtain ⟨k, a, n', t', _, _, _, _, hi⟩ := alloc_is h.good h0
    exact ⟨hi.good h.good, hi.len.trans h.len, fun i h8 => by rw [hi.rots i h8]; exact h.rots i h8⟩
  · have : allocL l n t = l := by unfold allocL; rw [if_neg h0]
    rw [this]; exact h
theorem StS.free {l : Bytes} (h : StS l) (x : Int) : StS (freeL l x) := by
  by_cases h0 : freeE l x = 0
  · obtain ⟨k, _, hi⟩ := free_is h.good h0
    exact ⟨hi.good h.good, hi.len.trans h.len, fun i h8 => by rw [hi.rots i h8]; exact h.rots i h8⟩
  · have : freeL l x = l := by unfold freeL; rw [if_neg h0]
    rw [this]; exact h
theorem StS.moved {l l' : Bytes} (h : StS l) (hm : MovedR l l') : StS l' := ⟨hm.good, hm.len.trans h.len, fun i h8 => by rw [hm.rots i h8]; exact h.rots i h8⟩
theorem StS.noroots {l : Bytes} (h : StS l) : rootsL l = [] := by
  refine List.eq_nil_iff_forall_not_mem.2 fun x hx => ?_
  obtain ⟨i, h8, hz, -⟩ := rootsL_mem.1 hx
  rw [h.rots i h8] at hz; cases hz
theorem runs_len : ∀ (S : List Ext) (a n : Int), (runsX a S n).length ≤ S.length + 1
  | [], a, n => by rw [runsX_nil]; split <;> simp
  | e :: r, a, n => by
    rw [runsX_cons, List.length_append, List.length_cons]
    have := runs_len r (e.1 + e.2) n
    split <;> simp <;> omega
/-- the five numbers hold together -/
theorem stat_four {l : Bytes} (hg : Good l) : 0 ≤ mostL l ∧ mostL l ≤ freeL_ l ∧ freeL_ l ≤ 6400 ∧ (holesX ((l.length : Int) - 288) (takenL l)).length ≤ (takenL l).length + 1 ∧ (freeL_ l = 0 ↔ (holesX ((l.length : Int) - 288) (takenL l)).length = 0) ∧ (freeL_ l ≠ 0 → 1 ≤ mostL l) := by
  obtain ⟨h1, h2, h3⟩ := free_bd hg
  have hc := good_chk hg
  have hs := holds_sum hc
  have hm := holes_mem hc
  have hfr : freeL_ l = sumX (holesX ((l.length : Int) - 288) (takenL l)) := by unfold freeL_; omega
  have hlen : (holesX ((l.length : Int) - 288) (takenL l)).length ≤ (takenL l).length + 1 := by
    rw [holes_runs]
    have := runs_len (sortE (takenL l)) 0 ((l.length : Int) - 288)
    rwa [(sortE_perm (takenL l)).length_eq] at this
  have hsm := sum_mem (H := holesX ((l.length : Int) - 288) (takenL l)) (fun x hx => by have := hm x hx; omega)
  have hmx := mostX_mem (holesX ((l.length : Int) - 288) (takenL l))
  have hmo : mostL l = mostX (holesX ((l.length : Int) - 288) (takenL l)) := rfl
  refine ⟨h1, h2, h3, hlen, ?_, ?_⟩
  · rw [hfr, List.length_eq_zero_iff]
    constructor
    · intro h0
      refine List.eq_nil_iff_forall_not_mem.2 fun x hx => ?_
      have := hsm.2 x hx; have := hm x hx; omega
    · intro h0; rw [h0]; rfl
  · intro hne
    rw [hmo]
    cases hH : holesX ((l.length : Int) - 288) (takenL l) with
    | nil => rw [hfr, hH] at hne; exact absurd rfl hne
    | cons x r =>
      rw [hH] at hmx hm
      have := hmx.2.1 x (List.mem_cons_self ..)
      have := hm x (List.mem_cons_self ..)
      omega
theorem loose_bd {fr mo : Int} (_h0 : 0 ≤ mo) (h1 : mo ≤ fr) (h2 : fr ≠ 0 → 1 ≤ mo) : 0 ≤ looseI fr mo ∧ looseI fr mo ≤ 99 := by
  unfold looseI
  split
  · omega
  · rename_i hne
    have h3 := h2 hne
    rw [Int.tdiv_eq_ediv_of_nonneg (by omega)]
    refine ⟨Int.ediv_nonneg (by omega) (by omega), ?_⟩
    have : 100 * (fr - mo) / fr < 100 := Int.ediv_lt_of_lt_mul (by omega) (by omega)
    omega
theorem sum_upd (f : Nat → Nat) (t r : Nat) : ∀ n, ((List.range n).map fun j : Nat => if (t : Int) = (j : Int) then f j + r else f j).sum = ((List.range n).map f).sum + (if t < n then r else 0)
  | 0 => by simp
  | n + 1 => by
    rw [List.range_succ, List.map_append, List.map_append, List.sum_append, List.sum_append, sum_upd f t r n]
    simp only [List.map_cons, List.map_nil, List.sum_cons, List.sum_nil]
    by_cases h : t = n
    · subst h; simp
      omega
    · rw [if_neg (by omega : ¬ (t : Int) = (n : Int))]
      by_cases h2 : t < n
      · rw [if_pos h2, if_pos (by omega)]; omega
      · rw [if_neg h2, if_neg (by omega)]; omega
theorem tags_sum {l : Bytes} (hg : Good l) : ∀ k, k ≤ (entriesL l).length → ((List.range 16).map (tagF ((entriesL l).take k))).sum = (((entriesL l).take k).map fun e => rLen e.2).sum
  | 0, _ => by
    have : ∀ j, tagF [] j = 0 := fun _ => rfl
    simp [this]; rfl
  | k + 1, hk => by
    have hk' : k < (entriesL l).length := by omega
    obtain ⟨q, hq, hh, he⟩ := entL_mem.1 (List.getElem_mem hk')
    have hs := strayE_false (hg.s.fit q hq hh)
    obtain ⟨t, ht⟩ := Int.eq_ofNat_of_zero_le (show 0 ≤ rTag (entriesL l)[k].2 by rw [he]; dsimp only; omega)
    have ht15 : t < 16 := by rw [he] at ht; dsimp only at ht; omega
    have e1 : (List.range 16).map (tagF ((entriesL l).take (k + 1))) = (List.range 16).map (fun j : Nat => if (t : Int) = (j : Int) then tagF ((entriesL l).take k) j + rLen (entriesL l)[k].2 else tagF ((entriesL l).take k) j) := by
      refine List.map_congr_left fun j _ => ?_
      rw [tagF_succ _ _ hk', ht]
    rw [e1, sum_upd, tags_sum hg k (by omega), if_pos ht15, List.take_succ_eq_append_getElem hk', List.map_append, List.sum_append]
    simp
theorem sumX_map (E : List Ent) : sumX (E.map takeX) = ((E.map fun e => rLen e.2).sum : Nat) := by
  induction E with
  | nil => rfl
  | cons e r ih =>
    rw [List.map_cons, sumX_cons, ih, List.map_cons, List.sum_cons]
    show (rLen e.2 : Int) + _ = _
    omega
theorem tags_all {l : Bytes} (hg : Good l) : ((tagsL l).sum : Int) = sumX (takenL l) := by
  have := tags_sum hg _ (Nat.le_refl _)
  rw [List.take_length] at this
  unfold tagsL takenL
  rw [this, sumX_map]
/-- the image when some have been allocated -/
def canI (l : Bytes) (S : List Int) : Bytes := S.foldl (fun l x => allocL l x 0) l
theorem canI_succ (l : Bytes) (S : List Int) (k : Nat) (hk : k < S.length) : canI l (S.take (k + 1)) = allocL (canI l (S.take k)) S[k] 0 := by
  unfold canI; rw [List.take_succ_eq_append_getElem hk, List.foldl_append]; rfl
theorem canI_sts {l : Bytes} (h : StS l) : ∀ (S : List Int), StS (canI l S) := fun S => by
  induction S generalizing l with
  | nil => exact h
  | cons x r ih => exact ih (h.alloc x 0)
theorem can_split (l : Bytes) (S : List Int) : ∀ i, i ≤ canF l S → i ≤ S.length → canF l S = i + canF (canI l (S.take i)) (S.drop i)
  | 0, _, _ => by simp [canI]
  | i + 1, h, hl => by
    have ih := can_split l S i (by omega) (by omega)
    have hi : i < S.length := by omega
    rw [canF_drop _ _ i hi] at ih
    rw [canI_succ l S i hi]
    split at ih
    · omega
    · omega
theorem can_step {l : Bytes} {S : List Int} {i : Nat} (hi : i < S.length) (h : i ≤ canF l S) : allocE (canI l (S.take i)) S[i] 0 = 0 ↔ i < canF l S := by
  have := can_split l S i h (by omega)
  rw [canF_drop _ _ i hi] at this
  constructor
  · intro h0; rw [if_pos h0] at this; omega
  · intro hlt
    by_cases h0 : allocE (canI l (S.take i)) S[i] 0 = 0
    · exact h0
    · rw [if_neg h0] at this; omega
/-- with no root all are dead -/
theorem lvl_none {l : Bytes} (h : rootsL l = []) : ∀ k, lvlN l k = (fun _ => none, [])
  | 0 => by
    have hr : rootsH l = [] := by unfold rootsH; rw [h]; rfl
    unfold lvlN startW; rw [hr]
    refine Prod.ext (funext fun q => ?_) ?_
    · simp
    · simp [sortNat, dedup]
  | k + 1 => by
    show lvl l (lvlN l k) = _
    rw [lvl_none h k]; rfl
theorem sweep_all {l : Bytes} (h : StS l) : StS (sweepL l) ∧ takenL (sweepL l) = [] := by
  have hs := sweep_is h.good
  have hf : fromW l = fun _ => none := by unfold fromW; rw [lvl_none h.noroots 41]
  refine ⟨⟨hs.good, hs.len.trans h.len, fun i h8 => by rw [hs.rots i h8]; exact h.rots i h8⟩, ?_⟩
  unfold takenL
  rw [List.map_eq_nil_iff]
  refine List.eq_nil_iff_forall_not_mem.2 fun x hx => ?_
  obtain ⟨k, hk, hh, -⟩ := entL_mem.1 hx
  have := (hs.has hk).1 hh
  exact this.2 (deadL_mem.2 ⟨k, hk, this.1, by rw [hf], rfl⟩)
theorem stat_none {l : Bytes} (h : StS l) (ht : takenL l = []) : statH l = .agg #[.int .i64 0, .int .i64 0, .int .i64 712, .int .i64 712, .int .i64 1] := by
  rw [statH_five h.good]
  unfold freeL_ mostL
  rw [ht, h.len]
  have hs : sortE [] = [] := List.Perm.eq_nil (sortE_perm [])
  have hh : holesX (((1000 : Nat) : Int) - 288) [] = [(0, 712)] := by
    rw [holes_runs, hs, runsX_nil]; rfl
  rw [hh]; rfl
end Go.Proofs.YtcahgmnkphmnhaaGreat
/- MoveRoom: the walk. -/
namespace Go.Proofs.YtcahgmnkphmnhaaGreat
open Go.RowKit

theorem alloc_len {l : Bytes} (hg : Good l) (n t : Int) : (allocL l n t).length = l.length := by
  by_cases h0 : allocE l n t = 0
  · obtain ⟨k, a, n', t', _, _, _, _, h⟩ := alloc_is hg h0
    exact h.len
  · have : allocL l n t = l := by unfold allocL; rw [if_neg h0]
    rw [this]
theorem free_len {l : Bytes} (hg : Good l) (x : Int) : (freeL l x).length = l.length := by
  by_cases h0 : freeE l x = 0
  · obtain ⟨k, _, h⟩ := free_is hg h0
    exact h.len
  · have : freeL l x = l := by unfold freeL; rw [if_neg h0]
    rw [this]
/-- a block of five numbers beside a heap -/
structure Five (w : World) (F : Nat → Prop) (b : Nat) (a0 a1 a2 a3 a4 : Int) : Prop where
  blk : w.heap[b]? = some (.cells #[.int .i64 a0, .int .i64 a1, .int .i64 a2, .int .i64 a3, .int .i64 a4] 57 (0, 0))
  out : ¬ F b
section
variable {w w' : World} {F F' : Nat → Prop} {b : Nat} {a0 a1 a2 a3 a4 : Int}
theorem Five.lt (h : Five w F b a0 a1 a2 a3 a4) : b < w.heap.size := (Array.getElem?_eq_some_iff.1 h.blk).1
theorem Five.below (h : Five w F b a0 a1 a2 a3 a4) (hb : Below w.heap.size w w') : Five w' F b a0 a1 a2 a3 a4 := ⟨(hb.block _ h.lt).trans h.blk, h.out⟩
theorem Five.moved {w0 : World} {hh : Nat} {l : Bytes} (h : Five w F b a0 a1 a2 a3 a4) (hm : HpM w0 w w' F F' hh l) : Five w' F' b a0 a1 a2 a3 a4 :=
  ⟨(hm.kp.block _ h.lt h.out).trans h.blk, fun hk => by rcases hm.nw _ hk with h' | h'; exact h.out h'; have := h.lt; omega⟩
theorem Five.cells (h : Five w F b a0 a1 a2 a3 a4) : w.cell? ⟨b, 0, none⟩ = some (.int .i64 a0) ∧ w.cell? ⟨b, 1, none⟩ = some (.int .i64 a1) ∧ w.cell? ⟨b, 2, none⟩ = some (.int .i64 a2) ∧ w.cell? ⟨b, 3, none⟩ = some (.int .i64 a3) ∧ w.cell? ⟨b, 4, none⟩ = some (.int .i64 a4) := by
  have := h.blk
  refine ⟨?_, ?_, ?_, ?_, ?_⟩ <;> simp [World.cell?, this]
theorem Five.made {w0 : World} {hh : Nat} {l : Bytes} (hp : Hp w0 w F hh l) : Five (w.alloc (.cells #[.int .i64 a0, .int .i64 a1, .int .i64 a2, .int .i64 a3, .int .i64 a4] 57)) F w.heap.size a0 a1 a2 a3 a4 :=
  ⟨heap_alloc_new w _, fun hk => by have := hp.flt _ hk; omega⟩
end
end Go.Proofs.YtcahgmnkphmnhaaGreat
/- Laid: library functions whose contracts are proved over whatever program: the table of numbers, and a field a function or a type. -/
namespace Go.Proofs.YtcahgmnkphmnhaaGreat
open Go.Shelf
def sortedI_ren : Go.Shelf.Ren := ⟨fun | 6 => 65 | 8 => 105 | 9 => 106 | 11 => 144 | 13 => 142 | 12 => 145 | 23 => 169 | 24 => 170 | 14 => 171 | 15 => 172 | 16 => 173 | 17 => 174 | 18 => 175 | 19 => 176 | 20 => 177 | 21 => 178 | 22 => 179 | 25 => 197 | 26 => 193 | 27 => 194 | 28 => 198 | 29 => 199 | 30 => 143 | 31 => 213 | n => n, fun | 26 => 3 | 28 => 120 | 24 => 24 | 0 => 0 | 3 => 3 | 37 => 195 | 48 => 217 | 50 => 219 | 4 => 4 | 40 => 211 | 39 => 210 | 45 => 129 | 5 => 5 | 9 => 9 | 51 => 234 | 55 => 238 | 57 => 250 | 58 => 113 | 33 => 81 | n => n, fun | n => n⟩
theorem sortedI : Go.Proofs.SlLaysZI.n6 Tryz.prog sortedI_ren := {
  mixed := by kernel_rfl
  f6 := ⟨Tryz.f65.name, by decide, Tryz.func65.trans (congrArg some (by kernel_rfl))⟩
  f8 := ⟨Tryz.f105.name, by decide, Tryz.func105.trans (congrArg some (by kernel_rfl))⟩
  f11 := ⟨Tryz.f144.name, by decide, Tryz.func144.trans (congrArg some (by kernel_rfl))⟩
  t0 := Tryz.underlying0
  a0 := Tryz.isAgg0
  z0 := Tryz.sizeOf0
  v0 := Tryz.zeroValue0
  t24 := Tryz.underlying24
  a24 := Tryz.isAgg24
  z24 := Tryz.sizeOf24
  v24 := Tryz.zeroValue24
  t26 := Tryz.underlying3
  a26 := Tryz.isAgg3
  z26 := Tryz.sizeOf3
  v26 := Tryz.zeroValue3
  t28 := Tryz.underlying120
  a28 := Tryz.isAgg120
  z28 := Tryz.sizeOf120
  v28 := Tryz.zeroValue120
  i26 := by kernel_rfl }
def sortI_ren : Go.Shelf.Ren := ⟨fun | 5 => 106 | 8 => 142 | 7 => 145 | 19 => 169 | 20 => 170 | 10 => 171 | 11 => 172 | 12 => 173 | 13 => 174 | 14 => 175 | 15 => 176 | 16 => 177 | 17 => 178 | 18 => 179 | 30 => 197 | 31 => 193 | 32 => 194 | 33 => 198 | 34 => 199 | 35 => 143 | 40 => 213 | n => n, fun | 23 => 24 | 25 => 3 | 3 => 3 | 32 => 195 | 22 => 24 | 0 => 0 | 44 => 217 | 46 => 219 | 4 => 4 | 36 => 211 | 35 => 210 | 41 => 129 | 5 => 5 | 9 => 9 | 53 => 234 | 57 => 238 | 63 => 250 | 64 => 113 | n => n, fun | n => n⟩
theorem sortI : Go.Proofs.SlLaysM.n5 Tryz.prog sortI_ren := {
  mixed := by kernel_rfl
  f5 := ⟨Tryz.f106.name, by decide, Tryz.func106.trans (congrArg some (by kernel_rfl))⟩
  f7 := ⟨Tryz.f145.name, by decide, Tryz.func145.trans (congrArg some (by kernel_rfl))⟩
  f8 := Tryz.func142.trans (congrArg some (by kernel_rfl))
  f10 := ⟨Tryz.f171.name, by decide, Tryz.func171.trans (congrArg some (by kernel_rfl))⟩
  f11 := ⟨Tryz.f172.name, by decide, Tryz.func172.trans (congrArg some (by kernel_rfl))⟩
  f12 := ⟨Tryz.f173.name, by decide, Tryz.func173.trans (congrArg some (by kernel_rfl))⟩
  f13 := ⟨Tryz.f174.name, by decide, Tryz.func174.trans (congrArg some (by kernel_rfl))⟩
  f14 := ⟨Tryz.f175.name, by decide, Tryz.func175.trans (congrArg some (by kernel_rfl))⟩
  f15 := ⟨Tryz.f176.name, by decide, Tryz.func176.trans (congrArg some (by kernel_rfl))⟩
  f16 := ⟨Tryz.f177.name, by decide, Tryz.func177.trans (congrArg some (by kernel_rfl))⟩
  f17 := ⟨Tryz.f178.name, by decide, Tryz.func178.trans (congrArg some (by kernel_rfl))⟩
  f18 := ⟨Tryz.f179.name, by decide, Tryz.func179.trans (congrArg some (by kernel_rfl))⟩
  f19 := Tryz.func169.trans (congrArg some (by kernel_rfl))
  f20 := Tryz.func170.trans (congrArg some (by kernel_rfl))
  f30 := ⟨Tryz.f197.name, by decide, Tryz.func197.trans (congrArg some (by kernel_rfl))⟩
  f31 := Tryz.func193.trans (congrArg some (by kernel_rfl))
  f32 := Tryz.func194.trans (congrArg some (by kernel_rfl))
  f33 := ⟨Tryz.f198.name, by decide, Tryz.func198.trans (congrArg some (by kernel_rfl))⟩
  f34 := ⟨Tryz.f199.name, by decide, Tryz.func199.trans (congrArg some (by kernel_rfl))⟩
  f35 := ⟨Tryz.f143.name, by decide, Tryz.func143.trans (congrArg some (by kernel_rfl))⟩
  f40 := ⟨Tryz.f213.name, by decide, Tryz.func213.trans (congrArg some (by kernel_rfl))⟩
  t0 := Tryz.underlying0
  a0 := Tryz.isAgg0
  z0 := Tryz.sizeOf0
  v0 := Tryz.zeroValue0
  t3 := Tryz.underlying3
  a3 := Tryz.isAgg3
  z3 := Tryz.sizeOf3
  v3 := Tryz.zeroValue3
  t4 := Tryz.underlying4
  a4 := Tryz.isAgg4
  z4 := Tryz.sizeOf4
  v4 := Tryz.zeroValue4
  t5 := Tryz.underlying5
  a5 := Tryz.isAgg5
  z5 := Tryz.sizeOf5
  v5 := Tryz.zeroValue5
  t9 := Tryz.underlying9
  a9 := Tryz.isAgg9
  z9 := Tryz.sizeOf9
  v9 := Tryz.zeroValue9
  t22 := Tryz.underlying24
  a22 := Tryz.isAgg24
  z22 := Tryz.sizeOf24
  v22 := Tryz.zeroValue24
  t23 := Tryz.underlying24
  a23 := Tryz.isAgg24
  z23 := Tryz.sizeOf24
  v23 := Tryz.zeroValue24
  t25 := Tryz.underlying3
  a25 := Tryz.isAgg3
  z25 := Tryz.sizeOf3
  v25 := Tryz.zeroValue3
  t32 := Tryz.underlying195
  a32 := Tryz.isAgg195
  z32 := Tryz.sizeOf195
  v32 := Tryz.zeroValue195
  t35 := Tryz.underlying210
  a35 := Tryz.isAgg210
  z35 := Tryz.sizeOf210
  v35 := Tryz.zeroValue210
  t36 := Tryz.underlying211
  a36 := Tryz.isAgg211
  z36 := Tryz.sizeOf211
  v36 := Tryz.zeroValue211
  t41 := Tryz.underlying129
  a41 := Tryz.isAgg129
  z41 := Tryz.sizeOf129
  v41 := Tryz.zeroValue129
  t44 := Tryz.underlying217
  a44 := Tryz.isAgg217
  z44 := Tryz.sizeOf217
  v44 := Tryz.zeroValue217
  t46 := Tryz.underlying219
  a46 := Tryz.isAgg219
  z46 := Tryz.sizeOf219
  v46 := Tryz.zeroValue219
  t53 := Tryz.underlying234
  a53 := Tryz.isAgg234
  z53 := Tryz.sizeOf234
  v53 := Tryz.zeroValue234
  t57 := Tryz.underlying238
  a57 := Tryz.isAgg238
  z57 := Tryz.sizeOf238
  v57 := Tryz.zeroValue238
  t63 := Tryz.underlying250
  a63 := Tryz.isAgg250
  z63 := Tryz.sizeOf250
  v63 := Tryz.zeroValue250
  t64 := Tryz.underlying113
  a64 := Tryz.isAgg113
  z64 := Tryz.sizeOf113
  v64 := Tryz.zeroValue113 }
end Go.Proofs.YtcahgmnkphmnhaaGreat
/- Laid by hand: slices.Compact and slices.Reverse at ints. -/
namespace Go.Proofs.YtcahgmnkphmnhaaGreat
open Go.Shelf
def compactI_ren : Go.Shelf.Ren := ⟨fun | 20 => 110 | n => n, fun | 0 => 0 | 3 => 3 | 4 => 4 | 22 => 24 | n => n, fun | n => n⟩
theorem compactI : Go.Proofs.Lays2.n20 Tryz.prog compactI_ren := {
  mixed := by kernel_rfl
  f20 := Tryz.func110.trans (congrArg some (by kernel_rfl))
  t0 := Tryz.underlying0
  a0 := Tryz.isAgg0
  z0 := Tryz.sizeOf0
  v0 := Tryz.zeroValue0
  t3 := Tryz.underlying3
  a3 := Tryz.isAgg3
  z3 := Tryz.sizeOf3
  v3 := Tryz.zeroValue3
  t4 := Tryz.underlying4
  a4 := Tryz.isAgg4
  z4 := Tryz.sizeOf4
  v4 := Tryz.zeroValue4
  t22 := Tryz.underlying24
  a22 := Tryz.isAgg24
  z22 := Tryz.sizeOf24
  v22 := Tryz.zeroValue24
  i3 := by kernel_rfl }
def reverseI_ren : Go.Shelf.Ren := ⟨fun | 112 => 73 | n => n, fun | 0 => 0 | 3 => 3 | 4 => 4 | 28 => 24 | n => n, fun | n => n⟩
theorem reverseI : Go.Proofs.Lays.n112 Tryz.prog reverseI_ren := {
  mixed := by kernel_rfl
  f112 := Tryz.func73.trans (congrArg some (by kernel_rfl))
  t0 := Tryz.underlying0
  a0 := Tryz.isAgg0
  z0 := Tryz.sizeOf0
  v0 := Tryz.zeroValue0
  t3 := Tryz.underlying3
  a3 := Tryz.isAgg3
  z3 := Tryz.sizeOf3
  v3 := Tryz.zeroValue3
  t4 := Tryz.underlying4
  a4 := Tryz.isAgg4
  z4 := Tryz.sizeOf4
  v4 := Tryz.zeroValue4
  t28 := Tryz.underlying24
  a28 := Tryz.isAgg24
  z28 := Tryz.sizeOf24
  v28 := Tryz.zeroValue24 }
end Go.Proofs.YtcahgmnkphmnhaaGreat
/- Sorting, compacting and turning own rows of ints. -/
namespace Go.Proofs.YtcahgmnkphmnhaaGreat
open Go.RowKit Go.Sort Go.Shelf Go.Lib

theorem take_putCellsZ (enc : Int → Value) (cur : Array Value) (d : Array Int) (h : d.size ≤ cur.size) : (putCells enc 0 d cur).toList.take d.size = d.toList.map enc := by
  apply List.ext_getElem?
  intro j
  by_cases hj : j < d.size
  · rw [List.getElem?_take_of_lt hj, Array.getElem?_toList]
    simp [putCells, hj, show j < cur.size by omega]
  · rw [List.getElem?_take_eq_none (by omega), List.getElem?_eq_none (by simp; omega)]
theorem holdsZ_own {w : World} {base : Nat} {e : TypeId} {g n cap : Nat} {L : List Int} (h : w.ownsRow base e 1 (.slice (some ⟨g, 0, none⟩) n cap) n (L.map (Value.int .i64))) :
    Holds (Value.int .i64) w g 0 L.toArray ∧ g < w.heap.size := by
  rcases h.2 with ⟨h1, _⟩ | ⟨g', cap', cur, he, _, hh, _⟩
  · cases h1
  · injection he with he _ hcap
    injection he with he
    injection he with he
    subst he hcap
    refine ⟨fun j hj => ?_, (Array.getElem?_eq_some_iff.1 hh).1⟩
    have hj' : j < L.length := by simpa using hj
    have := h.cells (g := g) rfl j (.int .i64 L[j]) (by simp [hj'])
    rw [Addr.add_lit] at this
    rw [getElem!_pos _ j hj]
    exact ⟨by simpa using this, by simp [World.frozen?, hh]⟩
theorem own_putZ {w : World} {base : Nat} {e : TypeId} {g n cap m : Nat} {L : List Int} {d : Array Int} {os : Array Obj} (hd : d.size = n) (h : w.ownsRow base e 1 (.slice (some ⟨g, 0, none⟩) n cap) n (L.map (Value.int .i64))) :
    (grow (putRow (Value.int .i64) (Sort.ahead w m) g 0 d) os).ownsRow base e 1 (.slice (some ⟨g, 0, none⟩) n cap) n (d.toList.map (Value.int .i64)) ∧ w.grownBy (grow (putRow (Value.int .i64) (Sort.ahead w m) g 0 d) os) (some g) := by
  rcases h.2 with ⟨h1, _⟩ | ⟨g', cap', cur, he, hb, hh, hc, hm, hz, ht⟩
  · cases h1
  · injection he with he _ hcap
    injection he with he
    injection he with he
    subst he hcap
    have hg : g < w.heap.size := (Array.getElem?_eq_some_iff.1 hh).1
    have hheap : (grow (putRow (Value.int .i64) (Sort.ahead w m) g 0 d) os).heap[g]? = some (.cells (putCells (Value.int .i64) 0 d cur) e (0, 0)) := by
      rw [heap_grow_old _ _ (by simpa [putRow, mapBlock, Sort.ahead] using hg)]
      simp [putRow, mapBlock, Sort.ahead, Array.getElem?_modify, hh, onCells]
    refine ⟨⟨by simp [hd], .inr ⟨g, cap, _, rfl, hb, hheap, hc, hm, by simp [putCells, hz], ?_⟩⟩, ?_⟩
    · rw [Nat.mul_one, ← hd, take_putCellsZ _ _ _ (by omega)]
    · refine ⟨rfl, rfl, rfl, by simp [putRow, mapBlock, Sort.ahead], fun q hq hne => ?_⟩
      rw [heap_grow_old _ _ (by simpa [putRow, mapBlock, Sort.ahead] using hq)]
      have : g ≠ q := fun e => hne (by rw [e])
      simp [putRow, mapBlock, Sort.ahead, Array.getElem?_modify, this]
def sortZ (L : List Int) : List Int := L.mergeSort fun x y => decide (x ≤ y)
theorem sortZ_any (base g n cap : Nat) (L : List Int) (w : World) (hn : L.length = n) (hl : n ≤ 100000) (h : w.ownsRow base 3 1 (.slice (some ⟨g, 0, none⟩) n cap) n (L.map (Value.int .i64))) :
    Calls Tryz.prog 106 #[.slice (some ⟨g, 0, none⟩) n cap] w fun e w' => e = .returned (.tuple #[]) ∧ w'.ownsRow base 3 1 (.slice (some ⟨g, 0, none⟩) n cap) n ((sortZ L).map (Value.int .i64)) ∧ w.grownBy w' (some g) := by
  subst hn
  obtain ⟨hH, hg⟩ := holdsZ_own h
  have hc := AnyM.slices_Sort_int sortI g 0 cap L w hH hg (by omega)
  change Calls Tryz.prog 106 _ _ _ at hc
  refine hc.mono ?_
  rintro e w' ⟨rfl, m, os, rfl⟩
  have h2 := own_putZ (m := m) (os := os) (d := (sortZ L).toArray) (by simp [sortZ]) h
  refine ⟨rfl, ?_, h2.2⟩
  have h3 := h2.1
  rw [List.toList_toArray] at h3
  exact h3
theorem grow_none (w : World) : grow w #[] = w := by
  unfold grow; simp
theorem own_putZ0 {w : World} {base : Nat} {e : TypeId} {g n cap m : Nat} {L : List Int} {d : Array Int} (hd : d.size = n) (h : w.ownsRow base e 1 (.slice (some ⟨g, 0, none⟩) n cap) n (L.map (Value.int .i64))) :
    (putRow (Value.int .i64) (Sort.ahead w m) g 0 d).ownsRow base e 1 (.slice (some ⟨g, 0, none⟩) n cap) n (d.toList.map (Value.int .i64)) ∧ w.grownBy (putRow (Value.int .i64) (Sort.ahead w m) g 0 d) (some g) := by
  have := own_putZ (m := m) (os := #[]) hd h
  rwa [grow_none] at this
theorem own_shrinkZ {w : World} {base : Nat} {e : TypeId} {g n k cap : Nat} {L M : List Int} (hk : k ≤ n) (hM : M.length = k) (h : w.ownsRow base e 1 (.slice (some ⟨g, 0, none⟩) n cap) n ((M ++ L).map (Value.int .i64))) :
    w.ownsRow base e 1 (.slice (some ⟨g, 0, none⟩) k cap) k (M.map (Value.int .i64)) := by
  rcases h.2 with ⟨h1, _⟩ | ⟨g', cap', cur, he, hb, hh, hc, hm, hz, ht⟩
  · cases h1
  · injection he with he _ hcap
    injection he with he
    injection he with he
    subst he hcap
    refine ⟨by simp [hM], .inr ⟨g, cap, cur, rfl, hb, hh, by omega, hm, hz, ?_⟩⟩
    have h3 := congrArg (List.take k) ht
    have h4 : List.take k (M.map (Value.int .i64)) = M.map (Value.int .i64) := List.take_of_length_le (by simp [hM])
    rw [List.take_take, Nat.mul_one, Nat.min_eq_left hk, List.map_append, List.take_append_of_le_length (by simp [hM]), h4] at h3
    rw [Nat.mul_one]
    exact h3
theorem compact_le (L : List Int) : (Lib.compact L).length ≤ L.length := by
  unfold Lib.compact Lib.compactUpTo
  rw [List.length_map]
  refine Nat.le_trans (List.length_filter_le ..) ?_
  simp
theorem compactZ_any (base g n cap : Nat) (L : List Int) (w : World) (hn : L.length = n) (hl : n ≤ 100000) (hcap : n ≤ cap) (h : w.ownsRow base 3 1 (.slice (some ⟨g, 0, none⟩) n cap) n (L.map (Value.int .i64))) :
    Calls Tryz.prog 110 #[.slice (some ⟨g, 0, none⟩) n cap] w fun e w' => e = .returned (.slice (some ⟨g, 0, none⟩) (Lib.compact L).length cap) ∧ w'.ownsRow base 3 1 (.slice (some ⟨g, 0, none⟩) (Lib.compact L).length cap) (Lib.compact L).length ((Lib.compact L).map (Value.int .i64)) ∧ w.grownBy w' (some g) := by
  subst hn
  obtain ⟨hH, hg⟩ := holdsZ_own h
  have hle := compact_le L
  have hc := Any.slices_Compact_int compactI g 0 cap L w hH (by omega) hcap
  change Calls Tryz.prog 110 _ _ _ at hc
  refine hc.mono ?_
  rintro e w' ⟨rfl, q, rfl⟩
  have h2 := own_putZ0 (m := q) (d := (Lib.compact L ++ List.replicate (L.length - (Lib.compact L).length) 0).toArray) (by simp; omega) h
  refine ⟨rfl, ?_, h2.2⟩
  have h3 := h2.1
  rw [List.toList_toArray] at h3
  exact own_shrinkZ hle rfl h3
theorem reverseZ_any (base g n cap : Nat) (L : List Int) (w : World) (hn : L.length = n) (hl : n ≤ 100000) (h : w.ownsRow base 3 1 (.slice (some ⟨g, 0, none⟩) n cap) n (L.map (Value.int .i64))) :
    Calls Tryz.prog 73 #[.slice (some ⟨g, 0, none⟩) n cap] w fun e w' => e = .returned (.tuple #[]) ∧ w'.ownsRow base 3 1 (.slice (some ⟨g, 0, none⟩) n cap) n (L.reverse.map (Value.int .i64)) ∧ w.grownBy w' (some g) := by
  subst hn
  obtain ⟨hH, hg⟩ := holdsZ_own h
  have hc := Any.slices_Reverse_int reverseI g 0 cap L w hH (by omega)
  change Calls Tryz.prog 73 _ _ _ at hc
  refine hc.mono ?_
  rintro e w' ⟨rfl, q, rfl⟩
  have h2 := own_putZ0 (m := q) (d := L.reverse.toArray) (by simp) h
  refine ⟨rfl, ?_, h2.2⟩
  have h3 := h2.1
  rw [List.toList_toArray] at h3
  exact h3
end Go.Proofs.YtcahgmnkphmnhaaGreat
/- Sorting, compacting and turning own rows of numbers. -/
namespace Go.Proofs.YtcahgmnkphmnhaaGreat
open Go.RowKit Go.Sort Go.Shelf Go.Lib

theorem ncell_map (L : List Nat) : L.flatMap ncell = (L.map fun i : Nat => (i : Int)).map (Value.int .i64) := by
  rw [List.map_map, List.map_eq_flatMap]; rfl
theorem sortZ_cast (L : List Nat) : sortZ (L.map fun i : Nat => (i : Int)) = (sortNat L).map fun i : Nat => (i : Int) := by
  unfold sortZ sortNat
  rw [List.map_mergeSort]
  intro a _ b _
  simp
theorem sortNat_any (base n : Nat) (v : Value) (L : List Nat) (w : World) (hn : L.length = n) (hl : n ≤ 100000) (h : w.ownsRow base 3 1 v n (L.flatMap ncell)) :
    Calls Tryz.prog 106 #[v] w fun e w' => e = .returned (.tuple #[]) ∧ w'.ownsRow base 3 1 v n ((sortNat L).flatMap ncell) ∧ w.grownBy w' v.ownBlock := by
  rcases h.2 with ⟨rfl, h0⟩ | ⟨g, cap, cur, rfl, -⟩
  · have hL : L = [] := List.eq_nil_of_length_eq_zero (by omega)
    subst hL h0
    have hc := AnyM.slices_Sort_int_none sortI none 0 w
    change Calls Tryz.prog 106 _ _ _ at hc
    refine hc.mono ?_
    rintro e w' ⟨rfl, rfl⟩
    exact ⟨rfl, by rw [show sortNat [] = [] by simp [sortNat]]; exact h, World.grownBy.refl _ _⟩
  · have h' := h
    rw [ncell_map] at h'
    have hc := sortZ_any base g n cap _ w (by simpa using hn) hl h'
    refine hc.mono ?_
    rintro e w' ⟨rfl, h1, h2⟩
    rw [sortZ_cast, ← ncell_map] at h1
    exact ⟨rfl, h1, h2⟩
theorem reverseNat_any (base g n cap : Nat) (L : List Nat) (w : World) (hn : L.length = n) (hl : n ≤ 100000) (h : w.ownsRow base 3 1 (.slice (some ⟨g, 0, none⟩) n cap) n (L.flatMap ncell)) :
    Calls Tryz.prog 73 #[.slice (some ⟨g, 0, none⟩) n cap] w fun e w' => e = .returned (.tuple #[]) ∧ w'.ownsRow base 3 1 (.slice (some ⟨g, 0, none⟩) n cap) n (L.reverse.flatMap ncell) ∧ w.grownBy w' (some g) := by
  have h' := h
  rw [ncell_map] at h'
  have hc := reverseZ_any base g n cap _ w (by simpa using hn) hl h'
  refine hc.mono ?_
  rintro e w' ⟨rfl, h1, h2⟩
  rw [← List.map_reverse, ← ncell_map] at h1
  exact ⟨rfl, h1, h2⟩
theorem compact_none (w : World) : Calls Tryz.prog 110 #[.slice none 0 0] w fun e w' => e = .returned (.slice none 0 0) ∧ w = w' := by
  go_enter Tryz.func110, Tryz.ntmps110
  go_wp2_with fail
  go_ret
  exact ⟨rfl, rfl⟩
theorem compactNat_any (base n : Nat) (v : Value) (L : List Nat) (w : World) (hn : L.length = n) (hl : n ≤ 100000) (h : w.ownsRow base 3 1 v n ((sortNat L).flatMap ncell)) :
    Calls Tryz.prog 110 #[v] w fun e w' => ∃ v', e = .returned v' ∧ w'.ownsRow base 3 1 v' (dedup (sortNat L)).length ((dedup (sortNat L)).flatMap ncell) ∧ w.grownBy w' v.ownBlock ∧ v'.ownBlock = v.ownBlock := by
  rcases h.2 with ⟨rfl, h0⟩ | ⟨g, cap, cur, rfl, -, -, hcap, -⟩
  · have hL : L = [] := List.eq_nil_of_length_eq_zero (by omega)
    subst hL h0
    have hs : sortNat [] = [] := by unfold sortNat; simp
    rw [hs] at h ⊢
    refine (compact_none w).mono ?_
    rintro e w' ⟨rfl, rfl⟩
    exact ⟨_, rfl, h, World.grownBy.refl _ _, rfl⟩
  · have h' := h
    rw [ncell_map] at h'
    have hc := compactZ_any base g n cap _ w (by rw [List.length_map, sortNat_len]; exact hn) hl hcap h'
    refine hc.mono ?_
    rintro e w' ⟨rfl, h1, h2⟩
    rw [compact_cast] at h1 ⊢
    rw [List.length_map, ← ncell_map] at h1
    rw [List.length_map]
    exact ⟨_, rfl, h1, h2, rfl⟩
end Go.Proofs.YtcahgmnkphmnhaaGreat
/- The contracts of package device: Read and Write. -/
namespace Go.Proofs.YtcahgmnkphmnhaaGreat
open Go.RowKit Go.Maps Go.ChangeMaps

theorem wf_nat {n : Nat} (hn : n ≤ 100000) : (Lit.int .i64 (n : Int)).wf = true := by
  have : (-9223372036854775808 : Int) ≤ n ∧ (n : Int) ≤ 9223372036854775807 := by omega
  simpa [Lit.wf, IntKind.min, IntKind.max, IntKind.bits, IntKind.signed] using this
theorem int_key {n : Nat} (hn : n ≤ 100000) : keyOf Tryz.prog 3 (.int .i64 (n : Int)) = some (natL n) := keyOf_int_mk Tryz.underlying3 (wf_nat hn)
theorem int_keyed : Go.Maps.Keyed Tryz.prog 3 := Go.Maps.int_keyed Tryz.underlying3
theorem zero_bytes (w : World) : (zeroValue 22).run Tryz.prog w = .ok (.slice none 0 0) w := by kernel_rfl
theorem int_info : (Tryz.prog.info? 3).map (fun i => (i.zero, i.size, i.bytes)) = some (some (.int .i64 0), 1, 8) := by kernel_rfl
/-- what a sector reads as -/
def readD (D : Dv) (i : Nat) : Bytes := if i ∈ D.O then D.M i else D.S.getD i []
def InO (D : Dv) (i : Nat) : Prop := i ∈ D.O
/-- a device in which something more is pending -/
def putD (D : Dv) (i : Nat) (b : Bytes) : Dv := { D with O := if i ∈ D.O then D.O else D.O ++ [i], M := fun k => if k = i then b else D.M k }
def growF (F : Nat → Prop) (w w' : World) : Nat → Prop := fun k => (F k ∨ w.heap.size ≤ k) ∧ k < w'.heap.size
theorem putD_mem (D : Dv) (i : Nat) (b : Bytes) (k : Nat) : k ∈ (putD D i b).O ↔ k ∈ D.O ∨ k = i := by
  unfold putD
  by_cases hi : i ∈ D.O
  · simp only [if_pos hi]
    exact ⟨.inl, fun h => by rcases h with h | rfl; exact h; exact hi⟩
  · simp [if_neg hi]
end Go.Proofs.YtcahgmnkphmnhaaGreat
/- slices.Sorted(maps.Keys(m)) of maps from numbers to booleans. -/
namespace Go.Proofs.YtcahgmnkphmnhaaGreat
open Go.RowKit Go.Maps Go.ChangeMaps Go.Sort Go.Shelf

section
variable {P : Program} {K : TypeId} {w : World} {b cnt : Nat} {f : Nat → Option Value}
/-- the keys of a map that is told by a function -/
theorem IM.keys (h : IM P K natL w b f cnt) (hK : P.underlying K = some (.int .i64)) :
    ∃ D : DataW Value, w.ownsMap P K heldR b cnt D ∧ Maps.size D = cnt ∧ (intKeys D).Nodup ∧ (∀ x ∈ intKeys D, ∃ k : Nat, x = k ∧ (f k).isSome = true) ∧ ∀ k, (f k).isSome = true → (k : Int) ∈ intKeys D := by
  obtain ⟨D, hown, hs, hh⟩ := h
  have hK2 := Go.Maps.int_keyed hK
  refine ⟨D, hown, hs, ?_⟩
  obtain ⟨L, hD, hp, _⟩ := hown.entries hK2
  obtain ⟨L', hD', hko⟩ := hown.keysOf
  obtain rfl : L = L' := by rw [hD] at hD'; simpa using hD'
  subst hD
  have hint : ∀ p ∈ L, ∃ x, p.1 = .int .i64 x := fun p hp => by
    obtain ⟨v, hv⟩ := hko p hp
    obtain ⟨x, _, hx, _⟩ := Maps.keyOf_i64 hK hv
    exact ⟨x, hx⟩
  clear hown hD'
  have hmem : ∀ x : Int, x ∈ intKeys (.map L) ↔ has (.map L) (.int .i64 x) = true := fun x => by
    rw [has_eq, List.any_eq_true]
    show x ∈ L.map (fun p => Go.intOf p.1) ↔ _
    rw [List.mem_map]
    constructor
    · rintro ⟨p, hp', rfl⟩
      obtain ⟨a, ha⟩ := hint p hp'
      exact ⟨p, hp', by rw [ha]; simp [Lit.sameKey, Go.intOf]⟩
    · rintro ⟨p, hp', hs'⟩
      obtain ⟨a, ha⟩ := hint p hp'
      rw [ha] at hs'
      exact ⟨p, hp', by rw [ha]; simpa [Lit.sameKey, Go.intOf] using hs'⟩
  refine ⟨?_, fun x hx => ?_, fun k hk => ?_⟩
  · show (L.map fun p => Go.intOf p.1).Nodup
    refine List.pairwise_map.2 (hp.imp_of_mem fun {p q} hp' hq' hne e => hne ?_)
    obtain ⟨a, ha⟩ := hint p hp'
    obtain ⟨c, hc⟩ := hint q hq'
    rw [ha, hc] at e ⊢
    exact congrArg _ e
  · obtain ⟨k, e, hk⟩ := hh.2 _ ((hmem x).1 hx)
    unfold natL at e
    injection e with _ e
    exact ⟨k, e, hk⟩
  · obtain ⟨v, hv⟩ := Option.isSome_iff_exists.1 hk
    exact (hmem k).2 ((hh.1 k).2 v hv).1
end
/-- a list of numbers that rises, with just the keys of f -/
structure KeysOf (f : Nat → Option Value) (S : List Nat) : Prop where
  up : S.Pairwise (· < ·)
  mem : ∀ k, k ∈ S ↔ (f k).isSome = true
theorem keys_sorted {f : Nat → Option Value} {L ss : List Int} (hp : ss.Perm L) (hn : L.Nodup) (h1 : ∀ x ∈ L, ∃ k : Nat, x = k ∧ (f k).isSome = true) (h2 : ∀ k, (f k).isSome = true → (k : Int) ∈ L) :
    ∃ S : List Nat, ss.mergeSort leI = S.map (fun i : Nat => (i : Int)) ∧ KeysOf f S := by
  have tr : ∀ a b c : Int, leI a b = true → leI b c = true → leI a c = true := fun a b c h1 h2 => by simp only [leI, decide_eq_true_eq] at *; exact Int.le_trans h1 h2
  have tot : ∀ a b : Int, (leI a b || leI b a) = true := fun a b => by simp only [leI, Bool.or_eq_true, decide_eq_true_eq]; exact Int.le_total a b
  have hpm : (ss.mergeSort leI).Perm L := (List.mergeSort_perm ss leI).trans hp
  have hs := List.pairwise_mergeSort tr tot ss
  have hnd : (ss.mergeSort leI).Nodup := hpm.nodup_iff.2 hn
  have hm : ∀ x, x ∈ ss.mergeSort leI ↔ x ∈ L := fun x => hpm.mem_iff
  generalize ss.mergeSort leI = T at *
  have hcast : T = (T.map Int.toNat).map (fun i : Nat => (i : Int)) := by
    rw [List.map_map]
    conv => lhs; rw [← List.map_id T]
    refine List.map_congr_left fun x hx => ?_
    obtain ⟨k, rfl, _⟩ := h1 x ((hm x).1 hx)
    simp
  refine ⟨T.map Int.toNat, hcast, ?_, fun k => ?_⟩
  · refine List.pairwise_map.2 ?_
    refine (hs.and hnd).imp_of_mem fun {a b} ha hb hab => ?_
    obtain ⟨x, rfl, _⟩ := h1 a ((hm a).1 ha)
    obtain ⟨y, rfl, _⟩ := h1 b ((hm b).1 hb)
    have e1 := of_decide_eq_true hab.1
    have e2 := hab.2
    simp only [Int.toNat_natCast]
    omega
  · rw [List.mem_map]
    constructor
    · rintro ⟨x, hx, rfl⟩
      obtain ⟨y, rfl, hy⟩ := h1 x ((hm x).1 hx)
      simpa using hy
    · intro hk
      exact ⟨(k : Int), (hm _).2 (h2 k hk), by simp⟩
theorem sorts_int (m : Nat) : AnyZI.SortsIn Tryz.prog sortedI_ren Fence.wide m :=
  ⟨fun blk off cap ss W hH hblk hsz => callsIn_wide.2 (AnyM.slices_Sort_int sortI blk off cap ss W hH hblk hsz),
   fun p cap W => callsIn_wide.2 (AnyM.slices_Sort_int_none sortI p cap W)⟩
end Go.Proofs.YtcahgmnkphmnhaaGreat
/- Plain facts on applying changes, and turning them. No program in sight. -/
namespace Go.Proofs.YtcahgmnkphmnhaaGreat

/-- one change applied: a number of an error, or the bytes -/
def apply1 (b : Bytes) (c : Chg) : Except Int Bytes :=
  if c.at_ < 0 ∨ (b.length : Int) < c.at_ ∨ (b.length : Int) - c.at_ < c.old.length then .error 1
  else if c.old.length ≠ c.new.length then .error 3
  else if (b.drop c.at_.toNat).take c.old.length ≠ c.old then .error 6
  else .ok (splice b c.at_.toNat c.new)
/-- changes applied, one after the other -/
def applyL : Bytes → List Chg → Except Int Bytes
  | b, [] => .ok b
  | b, c :: L => match apply1 b c with
    | .error e => .error e
    | .ok b' => applyL b' L
/-- changes turned -/
def turnC (c : Chg) : Chg := ⟨c.at_, c.new, c.old⟩
def turnL (L : List Chg) : List Chg := L.reverse.map turnC

theorem apply1_len {b b' : Bytes} {c : Chg} (h : apply1 b c = .ok b') : b'.length = b.length := by
  unfold apply1 at h
  split at h
  · cases h
  · split at h
    · cases h
    · split at h
      · cases h
      · rename_i h1 h2 h3
        injection h with h
        subst h
        exact length_splice _ _ _ (by omega)
theorem apply1_ok (b old new : Bytes) (j : Nat) (hn : old.length = new.length) (hj : j + old.length ≤ b.length) (ho : (b.drop j).take old.length = old) : apply1 b ⟨j, old, new⟩ = .ok (splice b j new) := by
  unfold apply1
  simp only [Int.toNat_natCast]
  rw [if_neg (by omega), if_neg (by omega), if_neg (by simpa using ho)]
theorem applyL_append (b : Bytes) (L M : List Chg) : applyL b (L ++ M) = match applyL b L with
    | .error e => .error e
    | .ok b' => applyL b' M := by
  induction L generalizing b with
  | nil => rfl
  | cons c L ih =>
    simp only [List.cons_append, applyL]
    cases apply1 b c with
    | error e => rfl
    | ok b' => exact ih b'
theorem applyL_one (b : Bytes) (c : Chg) : applyL b [c] = apply1 b c := by
  simp only [applyL]
  cases apply1 b c <;> rfl
theorem turnL_append (L M : List Chg) : turnL (L ++ M) = turnL M ++ turnL L := by simp [turnL]
theorem turnL_length (L : List Chg) : (turnL L).length = L.length := by simp [turnL]
theorem take_drop_ext (x y : Bytes) (i r : Nat) (h : ∀ p, i ≤ p → p < i + r → x[p]? = y[p]?) : (x.drop i).take r = (y.drop i).take r := by
  apply List.ext_getElem?
  intro p
  rw [List.getElem?_take, List.getElem?_take]
  split
  · rw [List.getElem?_drop, List.getElem?_drop]; exact h _ (by omega) (by omega)
  · rfl
theorem splice_read (l x : Bytes) (o p : Nat) (h : o + x.length ≤ l.length) : (splice l o x)[p]? = if o ≤ p ∧ p < o + x.length then x[p - o]? else l[p]? := by
  split
  · rename_i hp
    have := splice_get l x o (p - o) h (by omega)
    rwa [show o + (p - o) = p from by omega] at this
  · rename_i hp
    exact (splice_same l x o p h (by omega)).symm
theorem cut_read (x : Bytes) (i r p : Nat) (h1 : i ≤ p) (h2 : p < i + r) : ((x.drop i).take r)[p - i]? = x[p]? := by
  rw [List.getElem?_take, if_pos (by omega), List.getElem?_drop]
  congr 1; omega
/-- what has changed makes of the old the new -/
theorem apply_diffF (a b : Bytes) (hl : a.length = b.length) (f : Nat) : ∀ i cur, a.length - i ≤ f → cur.length = a.length → (∀ p, cur[p]? = if p < i then b[p]? else a[p]?) → applyL cur (diffF a b f i) = .ok b := by
  have hend : ∀ i (cur : Bytes), a.length ≤ i → cur.length = a.length → (∀ p, cur[p]? = if p < i then b[p]? else a[p]?) → cur = b := by
    intro i cur hi hc hp
    apply List.ext_getElem?
    intro p
    rw [hp p]
    split
    · rfl
    · rw [List.getElem?_eq_none (by omega), List.getElem?_eq_none (by omega)]
  induction f with
  | zero =>
    intro i cur hf hc hp
    simp only [diffF, applyL]
    rw [hend i cur (by omega) hc hp]
  | succ f ih =>
    intro i cur hf hc hp
    simp only [diffF]
    by_cases hi : i < a.length
    · rw [if_pos hi]
      have hr := runAt_le a b i hl (by omega)
      have hstop : i + runAt a b i < a.length → a[i + runAt a b i]? = b[i + runAt a b i]? := runAt_stop a b i hl
      generalize runAt a b i = r at *
      by_cases h0 : 0 < r
      · rw [if_pos h0, applyL_append, applyL_one]
        have ho : ((a.drop i).take r).length = r := by simp; omega
        have hn : ((b.drop i).take r).length = r := by simp; omega
        have hm : (cur.drop i).take ((a.drop i).take r).length = (a.drop i).take r := by
          rw [ho]
          exact take_drop_ext _ _ _ _ fun p h1 h2 => by rw [hp p, if_neg (by omega)]
        rw [apply1_ok cur _ _ i (by omega) (by omega) hm]
        dsimp only
        refine ih _ _ (by omega) (by rw [length_splice _ _ _ (by omega), hc]) fun p => ?_
        rw [splice_read _ _ _ _ (by omega), hn]
        by_cases h1 : i ≤ p ∧ p < i + r
        · rw [if_pos h1, if_pos (by omega), cut_read _ _ _ _ h1.1 h1.2]
        · rw [if_neg h1, hp p]
          by_cases h2 : p < i
          · rw [if_pos h2, if_pos (by omega)]
          · rw [if_neg h2]
            by_cases h3 : p < i + r + 1
            · rw [if_pos h3]
              obtain rfl : p = i + r := by omega
              by_cases h4 : i + r < a.length
              · exact hstop h4
              · rw [List.getElem?_eq_none (by omega), List.getElem?_eq_none (by omega)]
            · rw [if_neg h3]
      · obtain rfl : r = 0 := by omega
        rw [if_neg h0, List.nil_append]
        refine ih _ _ (by omega) hc fun p => ?_
        rw [hp p]
        by_cases h2 : p < i
        · rw [if_pos h2, if_pos (by omega)]
        · rw [if_neg h2]
          by_cases h3 : p < i + 0 + 1
          · rw [if_pos h3]
            obtain rfl : p = i := by omega
            exact hstop (by omega)
          · rw [if_neg h3]
    · rw [if_neg hi]
      simp only [applyL]
      rw [hend i cur (by omega) hc hp]
theorem apply_diffL (a b : Bytes) (hl : a.length = b.length) : applyL a (diffL a b) = .ok b :=
  apply_diffF a b hl _ 0 a (by omega) rfl fun p => by rw [if_neg (by omega)]
/-- .. and turned, of the new the old -/
theorem apply_turnF (a b : Bytes) (hl : a.length = b.length) (f : Nat) : ∀ i cur, a.length - i ≤ f → cur.length = a.length → (∀ p, i ≤ p → cur[p]? = b[p]?) →
    ∃ c', applyL cur (turnL (diffF a b f i)) = .ok c' ∧ c'.length = a.length ∧ ∀ p, c'[p]? = if p < i then cur[p]? else a[p]? := by
  have hend : ∀ i (cur : Bytes), a.length ≤ i → cur.length = a.length → ∀ p, cur[p]? = if p < i then cur[p]? else a[p]? := by
    intro i cur hi hc p
    split
    · rfl
    · rw [List.getElem?_eq_none (by omega), List.getElem?_eq_none (by omega)]
  induction f with
  | zero =>
    intro i cur hf hc hp
    exact ⟨cur, rfl, hc, hend i cur (by omega) hc⟩
  | succ f ih =>
    intro i cur hf hc hp
    simp only [diffF]
    by_cases hi : i < a.length
    · rw [if_pos hi]
      have hr := runAt_le a b i hl (by omega)
      have hstop : i + runAt a b i < a.length → a[i + runAt a b i]? = b[i + runAt a b i]? := runAt_stop a b i hl
      generalize runAt a b i = r at *
      obtain ⟨c1, h1, hl1, hp1⟩ := ih (i + r + 1) cur (by omega) hc (fun p h => hp p (by omega))
      rw [turnL_append, applyL_append, h1]
      dsimp only
      by_cases h0 : 0 < r
      · rw [if_pos h0]
        have ho : ((a.drop i).take r).length = r := by simp; omega
        have hn : ((b.drop i).take r).length = r := by simp; omega
        have hm : (c1.drop i).take ((b.drop i).take r).length = (b.drop i).take r := by
          rw [hn]
          exact take_drop_ext _ _ _ _ fun p h1 h2 => by rw [hp1 p, if_pos (by omega), hp p (by omega)]
        refine ⟨splice c1 i ((a.drop i).take r), ?_, by rw [length_splice _ _ _ (by omega), hl1], fun p => ?_⟩
        · simp only [turnL, List.reverse_cons, List.reverse_nil, List.nil_append, List.map_cons, List.map_nil, turnC]
          rw [applyL_one]
          exact apply1_ok c1 _ _ i (by omega) (by omega) hm
        · rw [splice_read _ _ _ _ (by omega), ho]
          by_cases h2 : i ≤ p ∧ p < i + r
          · rw [if_pos h2, if_neg (by omega), cut_read _ _ _ _ h2.1 h2.2]
          · rw [if_neg h2, hp1 p]
            by_cases h3 : p < i
            · rw [if_pos (by omega), if_pos h3]
            · rw [if_neg h3]
              by_cases h4 : p < i + r + 1
              · rw [if_pos h4, hp p (by omega)]
                obtain rfl : p = i + r := by omega
                by_cases h5 : i + r < a.length
                · exact (hstop h5).symm
                · rw [List.getElem?_eq_none (by omega), List.getElem?_eq_none (by omega)]
              · rw [if_neg h4]
      · obtain rfl : r = 0 := by omega
        rw [if_neg h0]
        refine ⟨c1, rfl, hl1, fun p => ?_⟩
        rw [hp1 p]
        by_cases h3 : p < i
        · rw [if_pos (by omega), if_pos h3]
        · rw [if_neg h3]
          by_cases h4 : p < i + 0 + 1
          · rw [if_pos h4, hp p (by omega)]
            obtain rfl : p = i := by omega
            exact (hstop (by omega)).symm
          · rw [if_neg h4]
    · rw [if_neg hi]
      exact ⟨cur, rfl, hc, hend i cur (by omega) hc⟩
theorem apply_turnL (a b : Bytes) (hl : a.length = b.length) : applyL b (turnL (diffL a b)) = .ok a := by
  obtain ⟨c, h, hc, hp⟩ := apply_turnF a b hl a.length 0 b (by omega) hl.symm (fun _ _ => rfl)
  have : c = a := List.ext_getElem? fun p => by rw [hp p, if_neg (by omega)]
  rw [this] at h; exact h
/-- where a change begins, and that two do not touch -/
theorem diffF_apart (a b : Bytes) (hl : a.length = b.length) (f : Nat) : ∀ i, ∀ k c d, (diffF a b f i)[k]? = some c → (diffF a b f i)[k + 1]? = some d → c.at_ + (c.old.length : Int) < d.at_ := by
  induction f with
  | zero => intro i k c d h; simp [diffF] at h
  | succ f ih =>
    intro i k c d h1 h2
    simp only [diffF] at h1 h2
    split at h1
    · rename_i hi
      rw [if_pos hi] at h2
      split at h1
      · rename_i h0
        rw [if_pos h0] at h2
        cases k with
        | zero =>
          simp only [List.singleton_append, List.getElem?_cons_zero, Option.some.injEq, List.getElem?_cons_succ] at h1 h2
          obtain ⟨j, r, hj⟩ := diffF_mem a b hl f _ d (List.mem_of_getElem? h2)
          have hle := runAt_le a b i hl (by omega)
          have ho : ((a.drop i).take (runAt a b i)).length = runAt a b i := by simp; omega
          subst h1
          rw [hj.at_]
          have := hj.lo
          dsimp only
          rw [ho]
          omega
        | succ k =>
          simp only [List.singleton_append, List.getElem?_cons_succ] at h1 h2
          exact ih _ k c d h1 h2
      · rename_i h0
        rw [if_neg h0] at h2
        exact ih _ k c d h1 h2
    · simp at h1
end Go.Proofs.YtcahgmnkphmnhaaGreat
/- The contract of diff.Apply. -/
namespace Go.Proofs.YtcahgmnkphmnhaaGreat
open Go.RowKit

/-- the cells of one change, wherever its bytes lie -/
structure ChAny (w : World) (g off i : Nat) (c : Chg) (Ao An : Option Addr) (co cn : Nat) : Prop where
  at_ : w.cell? ⟨g, off + i * 3, none⟩ = some (.int .i64 c.at_)
  old : w.cell? ⟨g, off + i * 3 + 1, none⟩ = some (.slice Ao c.old.length co)
  new : w.cell? ⟨g, off + i * 3 + 2, none⟩ = some (.slice An c.new.length cn)
  rdO : Rd w Ao c.old
  rdN : Rd w An c.new
  leO : c.old.length ≤ co
  leN : c.new.length ≤ cn
/-- the slice at A has the changes L, wherever their bytes lie -/
def RdG (w : World) (A : Option Addr) (L : List Chg) : Prop := ∀ i (h : i < L.length), ∃ g off Ao An co cn, A = some ⟨g, off, none⟩ ∧ ChAny w g off i L[i] Ao An co cn
theorem RdC.rdg {w : World} {A : Option Addr} {L : List Chg} (h : RdC w A L) : RdG w A L := fun i hi => by
  obtain ⟨g, off, go, co, gn, cn, hA, hc⟩ := h i hi
  exact ⟨g, off, _, _, co, cn, hA, hc.at_, hc.old, hc.new, hc.rowO.rd, hc.rowN.rd, hc.rowO.le.1, hc.rowN.le.1⟩
theorem ChAny.below {w w' : World} {g off i : Nat} {c : Chg} {Ao An : Option Addr} {co cn : Nat} (h : ChAny w g off i c Ao An co cn) (hb : Below w.heap.size w w') : ChAny w' g off i c Ao An co cn :=
  ⟨(hb.cell (block_lt_of_cell h.at_)).trans h.at_, (hb.cell (block_lt_of_cell h.old)).trans h.old, (hb.cell (block_lt_of_cell h.new)).trans h.new, h.rdO.below hb, h.rdN.below hb, h.leO, h.leN⟩
theorem RdG.below {w w' : World} {A : Option Addr} {L : List Chg} (h : RdG w A L) (hb : Below w.heap.size w w') : RdG w' A L := fun i hi => by
  obtain ⟨g, off, Ao, An, co, cn, hA, hc⟩ := h i hi
  exact ⟨g, off, Ao, An, co, cn, hA, hc.below hb⟩

/-- b[i:k] of bytes, wherever i stands -/
theorem run_cut_any (A : Option Addr) (n c i k : Nat) (hik : i ≤ k) (hkc : k ≤ c) (W : World) :
    (Instr.sliceAt 22 (.slice A n c) (some (.int .i64 i)) (some (.int .i64 k)) none).run Tryz.prog W = .ok (.slice (if c = i then A else A.map (·.add i)) (k - i) (c - i)) W := by
  obtain ⟨i0, hi0, hz0, hz1, hz2⟩ := info_parts byte_info
  simp [Instr.sliceAt, Instr.slice, Instr.sliceBounds, Instr.sliceBound, run_underlying Tryz.underlying22, asIntOf, sizeOf, typeInfo, hi0, hz1, hik, hkc]
/-- b[i:] of bytes -/
theorem run_tail_any (A : Option Addr) (n c i : Nat) (hin : i ≤ n) (W : World) :
    (Instr.sliceAt 22 (.slice A n c) (some (.int .i64 i)) none none).run Tryz.prog W = .ok (.slice (if c = i then A else A.map (·.add i)) (n - i) (c - i)) W := by
  obtain ⟨i0, hi0, hz0, hz1, hz2⟩ := info_parts byte_info
  simp [Instr.sliceAt, Instr.slice, Instr.sliceBounds, Instr.sliceBound, run_underlying Tryz.underlying22, asIntOf, sizeOf, typeInfo, hi0, hz1, hin]

end Go.Proofs.YtcahgmnkphmnhaaGreat
/- The contract of Write. -/
namespace Go.Proofs.YtcahgmnkphmnhaaGreat
open Go.RowKit Go.Maps Go.ChangeMaps

section
variable {P : Program} {T K E : TypeId} {κ : Type} [DecidableEq κ] {kl : κ → Lit} {b cnt : Nat} {f : κ → Option Value}
theorem step_store_im (w : World) {ops : Array Oper} {o : Oper} {a : Act} {KK : Act → World → Prop} {Q : Exit → Act → World → Prop} {Z : Prop} (hgd : o.guard = none) (m x v : Operand) (hop : o.op = Op.mapUpdate T m x v)
    (KL : Keyed P K) (hinj : ∀ x y, kl x = kl y → x = y) (ht : P.underlying T = some (.map K E)) (hm : a.eval m = .map (some b)) (h : IM P K kl w b f cnt) (hn : cnt < maxLen) (key val : Value) (k : κ) (hx : a.eval x = key) (hv : a.eval v = val) (hkey : keyOf P K key = some (kl k))
    (hK : ∀ w', IM P K kl w' b (upd f k val) (if (f k).isSome then cnt else cnt + 1) → w.grownBy w' (some b) → w'.heap.size = w.heap.size → KK (a.put o.dst undef) w') :
    if Region.wanted o (yielded ops a.tmps) = true then Oper.wp P o a w KK Q else Z := by
  have hw : Region.wanted o (yielded ops a.tmps) = true := by simp [Region.wanted, hgd]
  rw [if_pos hw]
  obtain ⟨w', hrun, r1, r2, r3⟩ := h.store KL hinj ht hn hkey val
  unfold Oper.wp
  simp [execOp, hop, hm, hx, hv, hrun, Result.andThen]
  exact hK w' r1 r2 r3
end
/-- how Write's error reads -/
def powV (left : Int) : Value := if left = 0 then .iface 88 (.int .i64 9) else .nilIface
theorem memF_some (O : List Nat) (Y : Lay) (i : Nat) : (if (memF O Y i).isSome = true then O.length else O.length + 1) = (if i ∈ O then O else O ++ [i]).length := by
  unfold memF
  by_cases h : i ∈ O
  · simp [h]
  · simp [h]
theorem nodup_le : ∀ (n : Nat) (l : List Nat), l.Nodup → (∀ x ∈ l, x < n) → l.length ≤ n
  | 0, l, _, h => by
    cases l with
    | nil => simp
    | cons x r => have := h x (by simp); omega
  | n + 1, l, hd, h => by
    by_cases hm : n ∈ l
    · have h1 := nodup_le n (l.erase n) (hd.erase n) (fun x hx => by
        have h2 := (hd.mem_erase_iff).1 hx
        have := h x h2.2
        omega)
      rw [List.length_erase_of_mem hm] at h1
      omega
    · have h1 := nodup_le n l hd (fun x hx => by
        have := h x hx
        have : x ≠ n := fun e => hm (e ▸ hx)
        omega)
      omega
end Go.Proofs.YtcahgmnkphmnhaaGreat
/- The contract of diff.Pages. -/
namespace Go.Proofs.YtcahgmnkphmnhaaGreat
open Go.RowKit Go.Maps Go.ChangeMaps

/-- a set of numbers, as a map has it -/
def setF (S : Nat → Bool) (q : Nat) : Option Value := if S q = true then some (.bool true) else none
theorem setF_upd (S : Nat → Bool) (k : Nat) : upd (setF S) k (.bool true) = setF (fun q => S q || (k == q)) := by
  funext x
  unfold upd setF
  by_cases hx : x = k
  · subst hx; simp
  · rw [if_neg hx]
    have : (k == x) = false := by simpa using fun e => hx e.symm
    simp [this]
theorem IM.size_le {P : Program} {K : TypeId} {w : World} {b cnt : Nat} {f : Nat → Option Value} (h : IM P K natL w b f cnt) (hK : P.underlying K = some (.int .i64)) (n : Nat) (hn : ∀ k, (f k).isSome = true → k < n) : cnt ≤ n := by
  obtain ⟨D, hown, hs, hnd, h1, _⟩ := h.keys hK
  have hl : (intKeys D).length = cnt := by
    obtain ⟨L, hD, _⟩ := hown.entries (Go.Maps.int_keyed hK)
    subst hD
    rw [← hs]; simp [intKeys, Maps.size]
  have hm : ((intKeys D).map Int.toNat).Nodup := by
    refine List.pairwise_map.2 (hnd.imp_of_mem fun {a b} ha hb hne e => hne ?_)
    obtain ⟨x, rfl, _⟩ := h1 a ha
    obtain ⟨y, rfl, _⟩ := h1 b hb
    simp only [Int.toNat_natCast] at e
    rw [e]
  have := nodup_le n ((intKeys D).map Int.toNat) hm (fun x hx => by
    obtain ⟨y, hy, rfl⟩ := List.mem_map.1 hx
    obtain ⟨z, rfl, hz⟩ := h1 y hy
    exact hn z hz)
  rw [List.length_map, hl] at this
  exact this
/-- the pages that a change touches, of its first j bytes; that changes touch -/
def tchC (a : Nat) (j q : Nat) : Bool := (List.range j).any fun i => (a + i) / 32 == q
theorem tchC_succ (a j q : Nat) : tchC a (j + 1) q = (tchC a j q || ((a + j) / 32 == q)) := by
  unfold tchC
  rw [List.range_succ, List.any_append]; simp
def tchL (L : List Chg) (q : Nat) : Bool := L.any fun c => tchC c.at_.toNat c.new.length q
theorem tchL_succ (L : List Chg) (k q : Nat) (hk : k < L.length) : tchL (L.take (k + 1)) q = (tchL (L.take k) q || tchC L[k].at_.toNat L[k].new.length q) := by
  unfold tchL
  rw [List.take_succ_eq_append_getElem hk, List.any_append]; simp
/-- a change that lies within an image -/
def InC (c : Chg) : Prop := 0 ≤ c.at_ ∧ c.at_ < 6400 ∧ c.at_ + c.new.length ≤ 6400
theorem tchC_lt {a j q : Nat} (h : tchC a j q = true) (hj : a + j ≤ 6400) : q < 200 := by
  obtain ⟨i, hi, e⟩ := List.any_eq_true.1 h
  have := List.mem_range.1 hi
  have := beq_iff_eq.1 e
  omega
theorem tchL_lt {L : List Chg} (hL : ∀ c ∈ L, InC c) {q : Nat} (h : tchL L q = true) : q < 200 := by
  obtain ⟨c, hc, e⟩ := List.any_eq_true.1 h
  obtain ⟨a, b, d⟩ := hL c hc
  exact tchC_lt e (by omega)
structure DpSt (w wr : World) (mb : Nat) (S : Nat → Bool) : Prop where
  im : ∃ cnt, IM Tryz.prog 3 natL wr mb (setF S) cnt ∧ cnt ≤ 200
  bel : Below w.heap.size w wr
  new : w.heap.size ≤ mb
/-- what diff.Pages says -/
def DpAns (w : World) (L : List Chg) (e : Ending) (w' : World) : Prop := ∃ (v : Value) (S : List Nat), e = .returned (.tuple #[v, .nilIface]) ∧ S.Pairwise (· < ·) ∧ (∀ k, k ∈ S ↔ tchL L k = true) ∧ w'.ownsRow w.heap.size 3 1 v S.length (S.map fun i : Nat => .int .i64 (i : Int)) ∧ Below w.heap.size w w'
theorem dpAns_mk {w w' : World} {L : List Chg} {e : Ending} {v : Value} {S : List Nat} (h : e = .returned (.tuple #[v, .nilIface])) (hh : S.Pairwise (· < ·) ∧ (∀ k, k ∈ S ↔ tchL L k = true) ∧ w'.ownsRow w.heap.size 3 1 v S.length (S.map fun i : Nat => .int .i64 (i : Int)) ∧ Below w.heap.size w w') : DpAns w L e w' := ⟨v, S, h, hh⟩
theorem own_base' {w : World} {b b' : Nat} {e : TypeId} {size n : Nat} {v : Value} {xs : List Value} (h : w.ownsRow b e size v n xs) (hb : b' ≤ b) : w.ownsRow b' e size v n xs := by
  refine ⟨h.1, ?_⟩
  rcases h.2 with h1 | ⟨g, cap, cur, a1, a2, a3⟩
  · exact .inl h1
  · exact .inr ⟨g, cap, cur, a1, Nat.le_trans hb a2, a3⟩
end Go.Proofs.YtcahgmnkphmnhaaGreat
/- Package reach: from: who is led to, by the least way: what its walk holds. -/
namespace Go.Proofs.YtcahgmnkphmnhaaGreat
open Go.RowKit Go.Maps Go.ChangeMaps

def pv (W : Ways) : Nat → Option Value := fun k => (W k).map fun p => .int .i64 (par p : Int)
theorem pv_upd (W : Ways) (y : Nat) (p : List Nat) : upd (pv W) y (.int .i64 (par p : Int)) = pv (wset W y p) := by
  funext q; unfold upd pv wset
  by_cases e : q = y
  · rw [if_pos e, if_pos e]; rfl
  · rw [if_neg e, if_neg e]
theorem zero_int (w : World) : (zeroValue 3).run Tryz.prog w = .ok (.int .i64 0) w := by kernel_rfl
/-- a row of one's own beside a map -/
theorem own_map {w w' : World} {base n mb : Nat} {v : Value} {xs : List Value} (h : w.ownsRow base 3 1 v n xs) (hm : ∃ es clock, w.heap[mb]? = some (.map es clock)) (hk : Keep (fun q => q = mb) w w') : w'.ownsRow base 3 1 v n xs :=
  ownsRow_block h fun q hq => by
    refine hk.block q (h.lt q hq).2 fun e => ?_
    obtain ⟨es, clock, hm⟩ := hm
    rcases h.2 with ⟨he, -⟩ | ⟨g, cap, cur, he, -, hh, -⟩
    · rw [he] at hq; cases hq
    · rw [he] at hq
      have : g = q := by simpa [Value.ownBlock] using hq
      rw [this, e, hm] at hh; cases hh
theorem own_ne {w : World} {base n mb : Nat} {v : Value} {xs : List Value} (h : w.ownsRow base 3 1 v n xs) (hm : ∃ es clock, w.heap[mb]? = some (.map es clock)) : ∀ q, v.ownBlock = some q → q ≠ mb := fun q hq e => by
  obtain ⟨es, clock, hm⟩ := hm
  rcases h.2 with ⟨he, -⟩ | ⟨g, cap, cur, he, -, hh, -⟩
  · rw [he] at hq; cases hq
  · rw [he] at hq
    have : g = q := by simpa [Value.ownBlock] using hq
    rw [this, e, hm] at hh; cases hh
theorem own_other {w w' : World} {base n : Nat} {v : Value} {xs : List Value} {b : Option Nat} (h : w.ownsRow base 3 1 v n xs) (hg : w.grownBy w' b) (hn : ∀ q, v.ownBlock = some q → b ≠ some q) : w'.ownsRow base 3 1 v n xs :=
  ownsRow_block h fun q hq => hg.block q (h.lt q hq).2 fun e => hn q hq e.symm
section
variable {w0 w wr w' : World} {F : Nat → Prop} {h mb : Nat} {l : Bytes} {W : Ways}
/-- the map of the ways so far, beside the heap -/
structure FrSt (w0 w wr : World) (F : Nat → Prop) (h mb : Nat) (l : Bytes) (W : Ways) : Prop where
  hp : Hp w0 wr F h l
  bel : Below w.heap.size w wr
  new : w.heap.size ≤ mb
  nf : ¬ F mb
  w0w : w0.heap.size ≤ w.heap.size
  im : ∃ cnt, IM Tryz.prog 3 natL wr mb (pv W) cnt ∧ cnt ≤ 41
theorem FrSt.isMap (hs : FrSt w0 w wr F h mb l W) : ∃ es clock, wr.heap[mb]? = some (.map es clock) := by
  obtain ⟨cnt, him, -⟩ := hs.im
  exact him.isMap
theorem FrSt.below (hs : FrSt w0 w wr F h mb l W) (hb : Below wr.heap.size wr w') : FrSt w0 w w' F h mb l W := by
  obtain ⟨cnt, him, hc⟩ := hs.im
  exact ⟨hs.hp.below hb, hs.bel.trans (hb.mono hs.bel.size), hs.new, hs.nf, hs.w0w, cnt, him.block (hb.block _ him.lt), hc⟩
theorem Hp.grown (hp : Hp w0 wr F h l) {b : Option Nat} (hg : wr.grownBy w' b) (hb : ∀ q, b = some q → w0.heap.size ≤ q ∧ ¬ F q) : Hp w0 w' F h l := by
  have hk : Keep (fun q => b = some q) wr w' := ⟨hg.os, hg.tape, hg.output, hg.size, fun k hk hn => hg.block k hk (fun e => hn e.symm)⟩
  exact hp.keep hk (fun k hf e => (hb k e).2 hf) (fun k e => (hb k e).1)
theorem FrSt.grown (hs : FrSt w0 w wr F h mb l W) {b : Option Nat} (hg : wr.grownBy w' b) (hb : ∀ q, b = some q → w.heap.size ≤ q ∧ ¬ F q ∧ q ≠ mb) : FrSt w0 w w' F h mb l W := by
  obtain ⟨cnt, him, hc⟩ := hs.im
  exact ⟨hs.hp.grown hg fun q hq => ⟨Nat.le_trans hs.w0w (hb q hq).1, (hb q hq).2.1⟩, hs.bel.grown hg hs.bel.size (fun q hq => (hb q hq).1), hs.new, hs.nf, hs.w0w, cnt, him.block (hg.block _ him.lt (fun e => (hb _ e.symm).2.2 rfl)), hc⟩
theorem FrSt.store (hs : FrSt w0 w wr F h mb l W) {y x : Nat} {p : List Nat} (hy : y < 41) (hx : par p = x) (hW : ∀ k, (wset W y p k).isSome = true → k < 41) :
    ∃ w', (Instr.mapUpdate 127 (.map (some mb)) (.int .i64 (y : Int)) (.int .i64 (x : Int))).run Tryz.prog wr = .ok () w' ∧ FrSt w0 w w' F h mb l (wset W y p) ∧ Keep (fun q => q = mb) wr w' ∧ w'.heap.size = wr.heap.size := by
  obtain ⟨cnt, him, hc⟩ := hs.im
  obtain ⟨w', hrun, him', hg, hsz⟩ := him.store int_keyed natL_inj (T := 127) Tryz.underlying127 (by simp only [maxLen]; omega) (int_key (n := y) (by omega)) (.int .i64 (par p : Int))
  rw [pv_upd] at him'
  rw [hx] at hrun
  have hk : Keep (fun q => q = mb) wr w' := ⟨hg.os, hg.tape, hg.output, hg.size, fun k hk hn => hg.block k hk (fun e => hn (Option.some.inj e))⟩
  refine ⟨w', hrun, ⟨hs.hp.keep hk (fun k hf e => hs.nf (e ▸ hf)) (fun k e => e ▸ Nat.le_trans hs.w0w hs.new), hs.bel.grown hg hs.bel.size (fun q hq => by rw [← Option.some.inj hq]; exact hs.new), hs.new, hs.nf, hs.w0w, _, him', ?_⟩, hk, hsz⟩
  exact him'.size_le Tryz.underlying3 41 fun k hk' => by
    refine hW k ?_
    unfold pv at hk'
    cases e : wset W y p k with
    | none => rw [e] at hk'; cases hk'
    | some q => rfl
theorem FrSt.look (hs : FrSt w0 w wr F h mb l W) {y : Nat} (hy : y < 41) :
    (W y = none → (Instr.lookup 127 (.map (some mb)) (.int .i64 (y : Int)) true).run Tryz.prog wr = .ok (.tuple #[.int .i64 0, .bool false]) wr) ∧
    (∀ p, W y = some p → (Instr.lookup 127 (.map (some mb)) (.int .i64 (y : Int)) true).run Tryz.prog wr = .ok (.tuple #[.int .i64 (par p : Int), .bool true]) wr ∧ (Instr.lookup 127 (.map (some mb)) (.int .i64 (y : Int)) false).run Tryz.prog wr = .ok (.int .i64 (par p : Int)) wr) := by
  obtain ⟨cnt, him, -⟩ := hs.im
  constructor
  · intro hn
    exact (him.look_none int_keyed (T := 127) Tryz.underlying127 (zero_int wr) (int_key (n := y) (by omega)) (by unfold pv; rw [hn]; rfl)).1
  · intro p hp
    exact him.look_some int_keyed (T := 127) Tryz.underlying127 (zero_int wr) (int_key (n := y) (by omega)) (by unfold pv; rw [hp]; rfl)
/-- the roots laid so far -/
def partW (S : List Nat) : Ways := fun q => if q ∈ S then some [q] else none
theorem partW_succ (S : List Nat) (k : Nat) (hk : k < S.length) : wset (partW (S.take k)) S[k] [S[k]] = partW (S.take (k + 1)) := by
  funext q
  unfold wset partW
  rw [List.take_succ_eq_append_getElem hk]
  simp only [List.mem_append, List.mem_singleton]
  by_cases e : q = S[k]
  · subst e; rw [if_pos rfl, if_pos (.inr rfl)]
  · rw [if_neg e]
    by_cases hm : q ∈ S.take k
    · rw [if_pos hm, if_pos (.inl hm)]
    · rw [if_neg hm, if_neg (fun h => h.elim hm e)]
theorem partW_all (l : Bytes) : partW (sortNat (rootsH l)) = startW l := by
  funext q; unfold partW startW; simp only [sortNat_mem]
/-- within a level: the refs of one -/
theorem mid_ok {l : Bytes} {s : Ways × List Nat} {D : List Nat} (h : LvOk l s D) (i : Nat) (_hi : i ≤ s.2.length) : ∃ D', LOk l ((s.2.take i).foldl (stepX l) (s.1, [])) D' s.1 D := by
  obtain ⟨D', h1, -⟩ := LOk.foldX (l := l) (D0 := D) (W0 := s.1) (s.2.take i) (s.1, []) D ⟨h.ok, by simp, fun _ _ => rfl⟩ (fun x hx => h.row x (List.mem_of_mem_take hx))
  exact ⟨D', h1⟩
theorem mid_succ (l : Bytes) (s : Ways × List Nat) (i : Nat) (hi : i < s.2.length) : (s.2.take (i + 1)).foldl (stepX l) (s.1, []) = stepX l ((s.2.take i).foldl (stepX l) (s.1, [])) s.2[i] := by
  rw [List.take_succ_eq_append_getElem hi, List.foldl_append]; rfl
theorem in_ok {l : Bytes} {s : Ways × List Nat} {D D0 : List Nat} {W0 : Ways} (h : LOk l s D W0 D0) {x : Nat} (hx : x ∈ D0) (j : Nat) : ∃ D', LOk l (((sortNat (refsL l (x : Int))).take j).foldl (stepY x) s) D' W0 D0 := by
  obtain ⟨D', h1, -⟩ := LOk.foldY hx ((sortNat (refsL l (x : Int))).take j) s D h (fun y hy => sortNat_mem.1 (List.mem_of_mem_take hy))
  exact ⟨D', h1⟩
theorem in_succ (x : Nat) (L : List Nat) (s : Ways × List Nat) (j : Nat) (hj : j < L.length) : (L.take (j + 1)).foldl (stepY x) s = stepY x ((L.take j).foldl (stepY x) s) L[j] := by
  rw [List.take_succ_eq_append_getElem hj, List.foldl_append]; rfl
theorem LOk.next_le {l : Bytes} {s : Ways × List Nat} {D D0 : List Nat} {W0 : Ways} (h : LOk l s D W0 D0) : s.2.length ≤ 40 := by
  have := h.ok.le; rw [h.spl, List.length_append] at this; omega
theorem lvl_len {l : Bytes} (hg : Good l) : ∀ k, (lvlN l k).2.length ≤ 40
  | 0 => (startW_ok hg).le
  | k + 1 => by
    obtain ⟨D, h, -⟩ := LvOk.at_ hg k
    obtain ⟨D', h'⟩ := mid_ok h (lvlN l k).2.length (Nat.le_refl _)
    rw [List.take_length] at h'
    exact h'.next_le
/-- what a new one is led to by -/
theorem LOk.par_new {l : Bytes} {s : Ways × List Nat} {D D0 : List Nat} {W0 : Ways} (h : LOk l s D W0 D0) {x : Nat} (hx : x ∈ D0) (y : Nat) : par (wayOf s.1 x ++ [y]) = x := by
  have hxD : x ∈ D := by rw [h.spl]; exact List.mem_append_left _ hx
  obtain ⟨p, hp⟩ := Option.isSome_iff_exists.1 ((h.ok.dk x).2 hxD)
  obtain ⟨q, e, -⟩ := h.ok.ways x p hp
  unfold wayOf; rw [hp, e]
  show par (q ++ [x] ++ [y]) = x
  rw [List.append_assoc]; exact par_two q x y
theorem WOk.lt41 {l : Bytes} {W : Ways} {D : List Nat} (h : WOk l W D) {k : Nat} (hk : (W k).isSome = true) : k < 41 := by
  have := hE_nat (h.dh k ((h.dk k).1 hk)); omega
end
end Go.Proofs.YtcahgmnkphmnhaaGreat
/- Package reach: from, the walk. -/
namespace Go.Proofs.YtcahgmnkphmnhaaGreat
open Go.RowKit Go.Maps Go.ChangeMaps

section
variable {w0 w : World} {F : Nat → Prop} {h : Nat} {l : Bytes}
/-- within a level -/
structure LvSt (w0 w wX wr : World) (F : Nat → Prop) (h mb : Nat) (l : Bytes) (s : Ways × List Nat) (v : Value) : Prop where
  fr : FrSt w0 w wr F h mb l s.1
  nx : wr.ownsRow wX.heap.size 3 1 v s.2.length (s.2.flatMap ncell)
  kp : Keep (fun q => q = mb) wX wr
set_option maxRecDepth 100000 in
set_option maxHeartbeats 1000000 in
theorem from_any (hp : Hp w0 w F h l) (hg : Good l) :
    Calls Tryz.prog 71 #[.pointer (some ⟨h, 0, none⟩)] w fun e w' => ∃ mb, e = .returned (.map (some mb)) ∧ FrSt w0 w w' F h mb l (fromW l) := by
  obtain ⟨i0', hi0, hz0, hz1, hz2⟩ := info_parts int_infoC
  have HI := Hidden.mk (And.intro hi0 (And.intro hz0 (And.intro hz1 hz2)))
  have hmm := @run_makeMap Tryz.prog
  have HG := Hidden.mk hg
  have hal := (Below.refl w.heap.size w).alloc (Nat.le_refl _) (.map #[] 0)
  have HFL : Hidden (∀ q, F q → q < w.heap.size) := ⟨hp.flt⟩
  have HST : Hidden (FrSt w0 w (w.alloc (.map #[] 0)) F h w.heap.size l (fun _ => none)) := ⟨⟨hp.below hal, hal, Nat.le_refl _, fun hk => by have := hp.flt _ hk; omega, hp.bel.size, 0, IM.made w, by omega⟩⟩
  have HRT := Hidden.mk (hroots_any (hp.below hal))
  have hR8 : (rootsL l).length ≤ 8 := rootsF_len _ _
  have HRH : Hidden (rootsH l = (rootsL l).map (·.2)) := ⟨rfl⟩
  generalize rootsL l = R at *
  clear hp hal hi0 hz0 hz1 hz2 hg
  go_enter Tryz.func71, Tryz.ntmps71
  go_wp2_with fail
  clear hmm
  generalize w.alloc (.map #[] 0) = wA at *
  generalize hmb : w.heap.size = mb at HST ⊢
  clear hmb
  refine HRT.out.mono ?_
  rintro e w1 ⟨v1, rfl, hown1, hb1⟩
  have HST1 := Hidden.mk (HST.out.below hb1)
  obtain ⟨A1, c1, rfl, -, -⟩ := own_split hown1
  have HR := Hidden.mk (own_rdX3 (f := rcells) (fun _ => rfl) rfl hown1)
  generalize hm : R.length = m at *
  have HM := Hidden.mk hm
  clear hown1 hb1 HRT HST hm
  go_wp2_with fail
  go_loopg [4, 21] m (fun q v i wr => ∃ k : Nat, k ≤ m ∧ q = m - k ∧ i = .int .i64 (k : Int) ∧ Hidden (FrSt w0 w wr F h mb l (fun _ => none) ∧ Below w1.heap.size w1 wr ∧ wr.ownsRow w1.heap.size 3 1 v k (((R.map (·.2)).take k).flatMap ncell)))
  case atStart => exact ⟨0, by omega, rfl, rfl, ⟨HST1.out, Below.refl _ _, World.ownsRow_nil _ _ _ _⟩⟩
  case round =>
    obtain ⟨k, hk, rfl, rfl, hst⟩ := hrel
    by_cases hlt : k < m
    · have hkR : k < R.length := by rw [HM.out]; exact hlt
      obtain ⟨pb, ob, rfl, hcx⟩ := (HR.out.below hst.out.2.1) k hkR
      have x0 := hcx 0 _ rfl
      have x1 := hcx 1 _ rfl
      rw [Nat.add_zero] at x0
      have HS : Hidden ((R.map (·.2)).take (k + 1) = (R.map (·.2)).take k ++ [R[k].2]) := ⟨by rw [List.take_succ_eq_append_getElem (by simpa using hkR)]; simp⟩
      generalize R[k].2 = q0 at *
      generalize R[k].1 = s0 at *
      have i0 : (0 : Int) ≤ k := by omega
      have i1 : (k : Int) < m := by omega
      have s3 : IntKind.i64.wrap ((k : Int) + 1) = (k : Int) + 1 := IntWalk.i64_in _ (by omega)
      have hal : Below wr.heap.size wr (wr.alloc (.cells #[.string ⟨s0.toArray⟩, .int .i64 (q0 : Int)] 67)) := (Below.refl _ _).alloc (Nat.le_refl _) _
      have HN := Hidden.mk (And.intro (hst.out.1.below hal) (And.intro (hst.out.2.1.trans (hal.mono hst.out.2.1.size)) (own_below hst.out.2.2 hal)))
      obtain ⟨hi0, hz0, hz1, hz2⟩ := HI.out
      clear hcx hal hst
      go_wp2_with (at_builtin; refine wpList_append_lies _ rfl (.tmp 25) (.tmp 28) _ rfl w1.heap.size 3 i0' _ 1 8 Tryz.underlying24 hi0 hz0 hz1 hz2 rfl (by decide) u4 k (((R.map (·.2)).take k).flatMap ncell) rfl (own_below HN.out.2.2 ((Below.refl _ _).alloc (Nat.le_refl _) _)) ⟨wr.heap.size + 1, 0, none⟩ 1 1 [.int .i64 (q0 : Int)] rfl rfl (World.news_of_block (cs := #[.int .i64 (q0 : Int)]) (t := 3) (fr := (0, 0)) (by have hq_ := heap_alloc_new ((wr.alloc (.cells #[.string ⟨s0.toArray⟩, .int .i64 (q0 : Int)] 67))) (.cells #[.int .i64 (q0 : Int)] 3); rwa [World.size_alloc] at hq_)) (by simp [Value.oneCell']) (by omega) (by simp only [maxLen]; omega) (by omega) (by have hz_ := HN.out.2.1.size; rw [World.size_alloc]; omega) (wr.heap.size + 1 + 1) (by simp) ?_; intro g8 cap8 w8 hown8 hg8 hat8 hlt8)
      have hgW := grown_trans' ((Below.refl (wr.alloc (.cells #[.string ⟨s0.toArray⟩, .int .i64 (q0 : Int)] 67)).heap.size (wr.alloc (.cells #[.string ⟨s0.toArray⟩, .int .i64 (q0 : Int)] 67))).alloc (Nat.le_refl _) _) hg8
      have hlo : ∀ q, u4.ownBlock = some q → w1.heap.size ≤ q := fun q hq => (HN.out.2.2.lt q hq).1
      have hF8 : FrSt w0 w w8 F h mb l (fun _ => none) := HN.out.1.grown hgW fun q hq => by
        have h1 := hlo q hq
        refine ⟨Nat.le_trans HST1.out.bel.size h1, fun hf => ?_, own_ne HN.out.2.2 HN.out.1.isMap q hq⟩
        have := HST1.out.hp.flt q hf; omega
      have HF : Hidden (FrSt w0 w w8 F h mb l (fun _ => none) ∧ Below w1.heap.size w1 w8 ∧ w8.ownsRow w1.heap.size 3 1 (.slice (some ⟨g8, 0, none⟩) (k + 1) cap8) (k + 1) (((R.map (·.2)).take (k + 1)).flatMap ncell)) := ⟨hF8, HN.out.2.1.grown hgW HN.out.2.1.size hlo, by rw [HS.out]; simpa [ncell] using hown8⟩
      clear hgW hlo hF8 hown8 hg8 hat8 hlt8 hi0 hz0 hz1 hz2
      go_roundg (m - (k + 1))
      case measure => omega
      case rel => exact ⟨k + 1, by omega, rfl, by go_num, HF⟩
    · obtain rfl : m = k := by omega
      have hT := hst.out.2.2
      rw [List.take_of_length_le (by rw [List.length_map, HM.out]; exact Nat.le_refl _), ← HRH.out] at hT
      have hlen : (rootsH l).length = m := by rw [HRH.out, List.length_map]; exact HM.out
      have HSO := Hidden.mk (sortNat_any w1.heap.size m u4 (rootsH l) wr hlen (by omega) hT)
      have HO := Hidden.mk hT
      have HFR := Hidden.mk hst.out.1
      have HLN := Hidden.mk hlen
      clear hT hst hlen HRH HR
      go_wp2_with fail
      refine HSO.out.mono ?_
      rintro e w3 ⟨rfl, hown3, hg3⟩
      have hF3 : FrSt w0 w w3 F h mb l (partW ((sortNat (rootsH l)).take 0)) := by
        have := HFR.out.grown hg3 fun q hq => by
          have h1 := (HO.out.lt q hq).1
          refine ⟨Nat.le_trans HST1.out.bel.size h1, fun hf => ?_, own_ne HO.out HFR.out.isMap q hq⟩
          have := HST1.out.hp.flt q hf; omega
        have e : partW ((sortNat (rootsH l)).take 0) = fun _ => none := by funext q; simp [partW]
        rw [e]; exact this
      have HF3 := Hidden.mk hF3
      have HB1 := Hidden.mk HST1.out.bel
      obtain ⟨A3, c3, hu4, hc3, -⟩ := own_split hown3
      rw [hu4] at hown3 ⊢
      have HO3 := Hidden.mk hown3
      have HSL : Hidden ((sortNat (rootsH l)).length = m) := ⟨by rw [sortNat_len]; exact HLN.out⟩
      have HSE : Hidden (∀ x ∈ sortNat (rootsH l), x < 41) := ⟨fun x hx => by have := hE_nat (rootsH_mem HG.out (sortNat_mem.1 hx)); omega⟩
      generalize hS : sortNat (rootsH l) = S at *
      have HS := Hidden.mk hS
      clear hF3 hown3 hg3 HSO HO HFR HST1 HLN hS hu4
      go_wp2_with fail
      go_loopg [35] m (fun q i wr => ∃ k : Nat, k ≤ m ∧ q = m - k ∧ i = .int .i64 (k : Int) ∧ Hidden (FrSt w0 w wr F h mb l (partW (S.take k)) ∧ Keep (fun q => q = mb) w3 wr))
      case atStart => exact ⟨0, by omega, rfl, rfl, ⟨HF3.out, Keep.refl _ _⟩⟩
      case round =>
        obtain ⟨k, hk, rfl, rfl, hst⟩ := hrel
        by_cases hlt : k < m
        · have hkS : k < S.length := by rw [HSL.out]; exact hlt
          have hown := own_map HO3.out HF3.out.isMap hst.out.2
          obtain ⟨pb, ob, hA3, hcx⟩ := (own_rdX3 (f := ncell) (fun _ => rfl) HSL.out hown) k hkS
          have x0 : wr.cell? ⟨pb, ob + k, none⟩ = some (.int .i64 (S[k] : Int)) := by simpa using hcx 0 _ rfl
          have h41 := HSE.out S[k] (List.getElem_mem hkS)
          obtain ⟨w5, hrun, hF5, hk5, -⟩ := hst.out.1.store (y := S[k]) (x := S[k]) (p := [S[k]]) h41 rfl (fun z hz => by
            rw [partW_succ S k hkS] at hz
            unfold partW at hz
            split at hz
            · rename_i hm; exact HSE.out z (List.mem_of_mem_take hm)
            · cases hz)
          rw [partW_succ S k hkS] at hF5
          have HF5 := Hidden.mk (And.intro hF5 (hst.out.2.trans hk5 (fun _ hx => .inl hx)))
          generalize S[k] = q0 at *
          have i0 : (0 : Int) ≤ k := by omega
          have i1 : (k : Int) < m := by omega
          have s3 : IntKind.i64.wrap ((k : Int) + 1) = (k : Int) + 1 := IntWalk.i64_in _ (by omega)
          subst hA3
          clear hcx hst hown hF5 hk5
          go_wp2_with fail
          go_roundg (m - (k + 1))
          case measure => omega
          case rel => exact ⟨k + 1, by omega, rfl, by go_num, HF5⟩
        · obtain rfl : m = k := by omega
          have hown := own_map HO3.out HF3.out.isMap hst.out.2
          have hF6 := hst.out.1
          rw [List.take_of_length_le (by rw [HSL.out]; exact Nat.le_refl _), ← HS.out, partW_all] at hF6
          rw [← HS.out] at hown
          have HLN : Hidden ((rootsH l).length = m) := ⟨by rw [← sortNat_len, HS.out]; exact HSL.out⟩
          have HCP := Hidden.mk (compactNat_any w1.heap.size m (.slice A3 m c3) (rootsH l) wr HLN.out (by omega) hown)
          have HO6 := Hidden.mk hown
          have HF6 := Hidden.mk hF6
          clear hown hF6 hst HO3 HF3 HSL HSE HS
          go_wp2_with fail
          refine HCP.out.mono ?_
          rintro e w7 ⟨v7, rfl, hown7, hg7, -⟩
          have hF7 : FrSt w0 w w7 F h mb l (startW l) := HF6.out.grown hg7 fun q hq => by
            have h1 := (HO6.out.lt q hq).1
            refine ⟨Nat.le_trans HB1.out.size h1, fun hf => ?_, own_ne HO6.out HF6.out.isMap q hq⟩
            have := HFL.out q hf; have := HB1.out.size; omega
          have HL0 : Hidden (FrSt w0 w w7 F h mb l (lvlN l 0).1 ∧ w7.ownsRow w.heap.size 3 1 v7 (lvlN l 0).2.length ((lvlN l 0).2.flatMap ncell)) := ⟨hF7, own_base hown7 HB1.out.size⟩
          clear hF7 hown7 hg7 HCP HO6 HF6 HLN
          go_wp2_with fail
          go_loopg [4] 41 (fun q v wr => ∃ k : Nat, k ≤ 41 ∧ q = 41 - k ∧ Hidden (FrSt w0 w wr F h mb l (lvlN l k).1 ∧ wr.ownsRow w.heap.size 3 1 v (lvlN l k).2.length ((lvlN l k).2.flatMap ncell)))
          case atStart => exact ⟨0, by omega, rfl, HL0⟩
          case round =>
            obtain ⟨k, hk, rfl, hst⟩ := hrel
            generalize wr = wx at *
            obtain ⟨D, hLv, -⟩ := LvOk.at_ HG.out k
            obtain ⟨A4, c4, rfl, hc4, -⟩ := own_split hst.out.2
            by_cases hnil : (lvlN l k).2 = []
            · have hF := hst.out.1
              rw [fromW_of hk hnil] at hF
              have HF := Hidden.mk hF
              have e0 : (lvlN l k).2.length = 0 := by rw [hnil]; rfl
              have d0 : decide (0 < (lvlN l k).2.length) = false := decide_eq_false (by omega)
              generalize (lvlN l k).2.length = n0 at *
              clear hst hF hnil hLv e0
              go_wp2_with fail
              go_ret
              exact ⟨_, rfl, HF.out⟩
            · have hk41 : k < 41 := by
                rcases Nat.lt_or_eq_of_le hk with h | h
                · exact h
                · subst h; exact absurd (lvlN_end HG.out) hnil
              have hpos : 0 < (lvlN l k).2.length := List.length_pos_iff.2 hnil
              have d0 : decide (0 < (lvlN l k).2.length) = true := decide_eq_true hpos
              have hle := lvl_len HG.out k
              have HLS : Hidden (lvlN l (k + 1) = (lvlN l k).2.foldl (stepX l) ((lvlN l k).1, [])) := ⟨rfl⟩
              have HLV := Hidden.mk hLv
              have HST := Hidden.mk hst.out
              generalize hs : lvlN l k = s at *
              obtain ⟨W, L⟩ := s
              dsimp only at *
              clear hst hnil hLv hs hpos
              go_wp2_with fail
              go_loopg [9, 50] L.length (fun q v i ws => ∃ i0 : Nat, i0 ≤ L.length ∧ q = L.length - i0 ∧ i = .int .i64 (i0 : Int) ∧ Hidden (LvSt w0 w wx ws F h mb l ((L.take i0).foldl (stepX l) (W, [])) v))
              case atStart => exact ⟨0, by omega, rfl, rfl, ⟨HST.out.1, World.ownsRow_nil _ _ _ _, Keep.refl _ _⟩⟩
              case round =>
                obtain ⟨i, hi, rfl, rfl, hst⟩ := hrel
                generalize wr = ws at *
                by_cases hlt : i < L.length
                · have hown4 := own_map HST.out.2 HST.out.1.isMap hst.out.kp
                  obtain ⟨pb, ob, hA4, hcx⟩ := (own_rdX3 (f := ncell) (fun _ => rfl) rfl hown4) i hlt
                  have x0 : ws.cell? ⟨pb, ob + i, none⟩ = some (.int .i64 (L[i] : Int)) := by simpa using hcx 0 _ rfl
                  obtain ⟨D1, hL1⟩ := mid_ok HLV.out i hi
                  have HL1 := Hidden.mk hL1
                  have HMS := Hidden.mk (mid_succ l (W, L) i hlt)
                  have HXD := Hidden.mk (HLV.out.row L[i] (List.getElem_mem hlt))
                  have HLS1 := Hidden.mk hst.out
                  dsimp only at HL1 HMS
                  generalize L[i] = x at *
                  generalize (L.take i).foldl (stepX l) (W, []) = s1 at *
                  have i0 : (0 : Int) ≤ i := by omega
                  have i1 : (i : Int) < L.length := by omega
                  have s3 : IntKind.i64.wrap ((i : Int) + 1) = (i : Int) + 1 := IntWalk.i64_in _ (by omega)
                  have HRF := Hidden.mk (refs_any (x : Int) hst.out.fr.hp HG.out)
                  have HRL : Hidden ((refsL l (x : Int)).length ≤ 100000) := ⟨by
                    unfold refsL
                    have h1 := refsB_len l (readL l (x : Int) 0 (min (gL l (x : Int)) (gT l (x : Int)))) _ (Nat.le_refl _)
                    rw [List.take_length] at h1
                    refine Nat.le_trans h1 ?_
                    unfold readL
                    split
                    · rename_i hz
                      have := some_in HG.out hz
                      simp; omega
                    · simp⟩
                  subst hA4
                  clear hcx hst hown4 hL1
                  go_wp2_with fail
                  refine HRF.out.mono ?_
                  rintro e w5 ⟨v12, rfl, hown5, hb5⟩
                  have HSO := Hidden.mk (sortNat_any ws.heap.size _ v12 (refsL l (x : Int)) w5 rfl HRL.out hown5)
                  have HF5 := Hidden.mk (HLS1.out.fr.below hb5)
                  have HN5 := Hidden.mk (own_below HLS1.out.nx hb5)
                  have HK5 := Hidden.mk (HLS1.out.kp.trans (Keep.of_below (F := fun q => q = mb) hb5) (fun _ hx => .inl hx))
                  have HO5 := Hidden.mk hown5
                  have HSZ : Hidden (w.heap.size ≤ ws.heap.size) := ⟨HLS1.out.fr.bel.size⟩
                  have HNL : Hidden (∀ q, u9.ownBlock = some q → q < ws.heap.size) := ⟨fun q hq => (HLS1.out.nx.lt q hq).2⟩
                  have HWX : Hidden (wx.heap.size ≤ ws.heap.size) := ⟨HLS1.out.kp.size⟩
                  clear hown5 hb5 HRF HLS1
                  go_wp2_with fail
                  refine HSO.out.mono ?_
                  rintro e w6 ⟨rfl, hown6, hg6⟩
                  have hF6 : FrSt w0 w w6 F h mb l s1.1 := HF5.out.grown hg6 fun q hq => by
                    have h1 := (HO5.out.lt q hq).1
                    refine ⟨Nat.le_trans HSZ.out h1, fun hf => ?_, own_ne HO5.out HF5.out.isMap q hq⟩
                    have := HFL.out q hf; have := HSZ.out; omega
                  have hN6 := own_other HN5.out hg6 fun q hq e => by
                    have := HNL.out q hq; have := (HO5.out.lt q e).1; omega
                  have hK6 : Keep (fun q => q = mb) wx w6 := HK5.out.trans ⟨hg6.os, hg6.tape, hg6.output, hg6.size, fun k hk hn => hg6.block k hk (fun e => hn e)⟩ (fun q hq => .inr (by
                    have := (HO5.out.lt q hq.symm).1; have := HWX.out; omega))
                  obtain ⟨A12, c12, hv12, hc12, -⟩ := own_split hown6
                  have HL6 : Hidden (LvSt w0 w wx w6 F h mb l s1 u9) := ⟨hF6, hN6, hK6⟩
                  have HV12 : Hidden (∀ q, u9.ownBlock = some q → v12.ownBlock ≠ some q) := ⟨fun q hq e => by have := HNL.out q hq; have := (HO5.out.lt q e).1; omega⟩
                  have HSE : Hidden (∀ y ∈ sortNat (refsL l (x : Int)), y < 41) := ⟨fun y hy => by have := hE_nat (refsL_mem (y := 0) (sortNat_mem.1 hy)); omega⟩
                  have HSS : Hidden (stepX l s1 x = (sortNat (refsL l (x : Int))).foldl (stepY x) s1) := ⟨rfl⟩
                  have HIN : Hidden (∀ j, ∃ D', LOk l (((sortNat (refsL l (x : Int))).take j).foldl (stepY x) s1) D' W D) := ⟨fun j => in_ok HL1.out HXD.out j⟩
                  have hll : (sortNat (refsL l (x : Int))).length = (refsL l (x : Int)).length := sortNat_len _
                  rw [← hll] at hown6 hv12 HRL
                  rw [hv12] at hown6 HV12 ⊢
                  have HO6 := Hidden.mk hown6
                  generalize refsL l (x : Int) = RL at *
                  generalize hLL : sortNat RL = LL at *
                  clear hown6 hg6 hF6 hN6 hK6 HSO HF5 HN5 HK5 HO5 HSZ HNL hv12 hll hLL
                  go_wp2_with fail
                  go_loopg [9, 61] LL.length (fun q v i wq => ∃ j : Nat, j ≤ LL.length ∧ q = LL.length - j ∧ i = .int .i64 (j : Int) ∧ Hidden (LvSt w0 w wx wq F h mb l ((LL.take j).foldl (stepY x) s1) v ∧ wq.ownsRow ws.heap.size 3 1 (.slice A12 LL.length c12) LL.length (LL.flatMap ncell) ∧ ∀ q, v.ownBlock = some q → (Value.slice A12 LL.length c12).ownBlock ≠ some q))
                  case atStart => exact ⟨0, by omega, rfl, rfl, ⟨HL6.out, HO6.out, HV12.out⟩⟩
                  case round =>
                    obtain ⟨j, hj, rfl, rfl, hsq⟩ := hrel
                    generalize wr = wq at *
                    by_cases hjt : j < LL.length
                    · obtain ⟨pb2, ob2, hA12, hcx2⟩ := (own_rdX3 (f := ncell) (fun _ => rfl) rfl hsq.out.2.1) j hjt
                      have y0 : wq.cell? ⟨pb2, ob2 + j, none⟩ = some (.int .i64 (LL[j] : Int)) := by simpa using hcx2 0 _ rfl
                      obtain ⟨D2, hL2⟩ := HIN.out j
                      have HIS := Hidden.mk (in_succ x LL s1 j hjt)
                      obtain ⟨D3, hL3⟩ := HIN.out (j + 1)
                      rw [HIS.out] at hL3
                      have h41 := HSE.out LL[j] (List.getElem_mem hjt)
                      generalize LL[j] = y at *
                      generalize (LL.take j).foldl (stepY x) s1 = t at *
                      have j0 : (0 : Int) ≤ j := by omega
                      have j1 : (j : Int) < LL.length := by omega
                      have s4 : IntKind.i64.wrap ((j : Int) + 1) = (j : Int) + 1 := IntWalk.i64_in _ (by have := HRL.out; omega)
                      obtain ⟨lk0, lk1⟩ := hsq.out.1.fr.look (y := y) h41
                      have HQ := Hidden.mk hsq.out
                      subst hA12
                      clear hcx2 hsq
                      cases hty : t.1 y with
                      | some p =>
                        have lk := (lk1 p hty).1
                        have HTT : Hidden (stepY x t y = t) := ⟨by unfold stepY; rw [if_pos (by rw [hty]; rfl)]⟩
                        generalize (par p : Int) = pp at *
                        clear lk0 lk1 hty hL2 hL3
                        go_wp2_with fail
                        go_roundg (LL.length - (j + 1))
                        case measure => omega
                        case rel => exact ⟨j + 1, by omega, rfl, by go_num, ⟨by rw [HIS.out, HTT.out]; exact HQ.out⟩⟩
                      | none =>
                        have lk := lk0 hty
                        have hTT : stepY x t y = (wset t.1 y (wayOf t.1 x ++ [y]), t.2 ++ [y]) := by unfold stepY; rw [if_neg (by rw [hty]; simp)]
                        rw [hTT] at hL3
                        have hpar := hL2.par_new HXD.out y
                        have hnl := hL2.next_le
                        obtain ⟨w7, hrun, hF7, hk7, hs7⟩ := HQ.out.1.fr.store h41 hpar (fun z hz => hL3.ok.lt41 hz)
                        have HTT := Hidden.mk hTT
                        have HM := HQ.out.1.fr.isMap
                        have hN7 := own_map HQ.out.1.nx HM hk7
                        have hO7 := own_map HQ.out.2.1 HM hk7
                        have HK7 := Hidden.mk (HQ.out.1.kp.trans hk7 (fun _ hx => .inl hx))
                        have HF7 := Hidden.mk hF7
                        have HN7 := Hidden.mk hN7
                        have HO7 := Hidden.mk hO7
                        have HLQ : Hidden (∀ q, u9.ownBlock = some q → q < w7.heap.size) := ⟨fun q hq => (hN7.lt q hq).2⟩
                        have HXS : Hidden (wx.heap.size ≤ w7.heap.size) := ⟨HK7.out.size⟩
                        have HWS : Hidden (w.heap.size ≤ wx.heap.size) := ⟨HST.out.1.bel.size⟩
                        obtain ⟨hi0, hz0, hz1, hz2⟩ := HI.out
                        generalize wset t.1 y (wayOf t.1 x ++ [y]) = W2 at *
                        generalize t.2 = N at *
                        clear lk0 lk1 hty hL2 hL3 hpar hF7 hk7 hN7 hO7 hTT HM hs7
                        go_wp2_with (at_builtin; refine wpList_append_lies _ rfl (.tmp 76) (.tmp 78) _ rfl wx.heap.size 3 i0' _ 1 8 Tryz.underlying24 hi0 hz0 hz1 hz2 rfl (by decide) u9 N.length (N.flatMap ncell) rfl (own_below HN7.out ((Below.refl _ _).alloc (Nat.le_refl _) _)) ⟨(w7).heap.size, 0, none⟩ 1 1 [.int .i64 (y : Int)] rfl rfl (World.news_of_block (cs := #[.int .i64 (y : Int)]) (t := 3) (fr := (0, 0)) (heap_alloc_new (w7) _)) (by simp [Value.oneCell']) (by omega) (by simp only [maxLen]; omega) (by omega) (by have hz_ := HK7.out.size; rw [World.size_alloc]; omega) ((w7).heap.size + 1) (by simp) ?_; intro g8 cap8 w8 hown8 hg8 hat8 hlt8)
                        have hgW := grown_trans' ((Below.refl w7.heap.size w7).alloc (Nat.le_refl _) _) hg8
                        have hlo : ∀ q, u9.ownBlock = some q → wx.heap.size ≤ q := fun q hq => (HN7.out.lt q hq).1
                        have hF8 : FrSt w0 w w8 F h mb l W2 := HF7.out.grown hgW fun q hq => by
                          have h1 := hlo q hq
                          refine ⟨Nat.le_trans HWS.out h1, fun hf => ?_, own_ne HN7.out HF7.out.isMap q hq⟩
                          have := HFL.out q hf; have := HWS.out; omega
                        have hK8 : Keep (fun q => q = mb) wx w8 := HK7.out.trans (F' := fun q => u9.ownBlock = some q) ⟨hgW.os, hgW.tape, hgW.output, hgW.size, fun k hk hn => hgW.block k hk (fun e => hn e.symm)⟩ (fun q hq => .inr (hlo q hq))
                        have hO8 := own_other HO7.out hgW fun q hq e => HQ.out.2.2 q e hq
                        have HF : Hidden (LvSt w0 w wx w8 F h mb l (stepY x t y) (.slice (some ⟨g8, 0, none⟩) (N.length + 1) cap8) ∧ w8.ownsRow ws.heap.size 3 1 (.slice (some ⟨pb2, ob2, none⟩) LL.length c12) LL.length (LL.flatMap ncell) ∧ ∀ q, (Value.slice (some ⟨g8, 0, none⟩) (N.length + 1) cap8).ownBlock = some q → (Value.slice (some ⟨pb2, ob2, none⟩) LL.length c12).ownBlock ≠ some q) := ⟨by
                          rw [HTT.out]
                          exact ⟨hF8, by rw [List.length_append, List.flatMap_append]; simpa [ncell] using hown8, hK8⟩, hO8, fun q hq e => by
                          have hq' : g8 = q := by simpa [Value.ownBlock] using hq
                          subst hq'
                          rcases hat8 with h8 | h8
                          · exact HQ.out.2.2 _ h8 e
                          · have := (HO7.out.lt _ e).2; omega⟩
                        clear hgW hlo hF8 hK8 hO8 hown8 hg8 hat8 hlt8 hi0 hz0 hz1 hz2
                        go_roundg (LL.length - (j + 1))
                        case measure => omega
                        case rel => exact ⟨j + 1, by omega, rfl, by go_num, ⟨by rw [HIS.out]; exact HF.out⟩⟩
                    · obtain rfl : j = LL.length := by omega
                      have hT := hsq.out.1
                      rw [List.take_length, ← HSS.out, ← HMS.out] at hT
                      have HT := Hidden.mk hT
                      have d8 : decide ((LL.length : Int) < LL.length) = false := decide_eq_false (by omega)
                      clear hT hsq
                      go_wp2_with fail
                      go_roundg (L.length - (i + 1))
                      case measure => omega
                      case rel => exact ⟨i + 1, by omega, rfl, by go_num, HT⟩
                · obtain rfl : i = L.length := by omega
                  have hT := hst.out
                  rw [List.take_length, ← HLS.out] at hT
                  have HT : Hidden (FrSt w0 w ws F h mb l (lvlN l (k + 1)).1 ∧ ws.ownsRow w.heap.size 3 1 u9 (lvlN l (k + 1)).2.length ((lvlN l (k + 1)).2.flatMap ncell)) := ⟨hT.fr, own_base hT.nx HST.out.1.bel.size⟩
                  clear hT hst
                  go_wp2_with fail
                  go_roundg (41 - (k + 1))
                  case measure => omega
                  case rel => exact ⟨k + 1, by omega, rfl, HT⟩
end
end Go.Proofs.YtcahgmnkphmnhaaGreat
