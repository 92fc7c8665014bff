/- Contracts and plain laws, put together: ReachP, ReachQ, SweepP, RefWP, Root2, Root3, Open3, ImageBack0, RootLP, RootL1, UndoBackP, RootFullP, RootFullQ, RefRe1, RefXP, RefX1, RefX2, RefX3, RefX4, StepP, RefPO, MapI, Dev0, Dev1, RefS2, RefS3, Open5. -/
import Derived.Test.YtcahgmnkphmnhaaGreatReachHoldsFrameM4
import Derived.Lib.SlicesCompact
import Derived.Test.YtcahgmnkphmnhaaGreatReachHoldsFrameM2
import Derived.Test.YtcahgmnkphmnhaaGreatReachHoldsFrameM3
import Derived.Test.YtcahgmnkphmnhaaGreatReachHoldsFrameM1
import Derived.Deep.Grids
import Derived.Deep.DeepCutAuto
import Derived.Deep.CutBlock
import Derived.Deep.LoopGhost
import Derived.BigQuiet
import Derived.StillTailTactics
import Derived.Maps.Own
import Derived.Maps.OwnSet
import Derived.Maps.RangeWalk
import Derived.Deep.RegionHeld3
import Derived.Deep.AppendLies
/- Package reach, plain: who is led to, level by level, and by which way. -/
namespace Go.Proofs.YtcahgmnkphmnhaaGreat
open Go.RowKit

def sortNat (L : List Nat) : List Nat := L.mergeSort (fun x y => decide (x ≤ y))
theorem sortNat_mem {L : List Nat} {x : Nat} : x ∈ sortNat L ↔ x ∈ L := by unfold sortNat; exact List.mem_mergeSort
theorem sortNat_len (L : List Nat) : (sortNat L).length = L.length := by unfold sortNat; exact List.length_mergeSort _
theorem sortNat_up (L : List Nat) : (sortNat L).Pairwise (· ≤ ·) := by
  have := List.pairwise_mergeSort (le := fun x y : Nat => decide (x ≤ y)) (fun a b c h1 h2 => by simp only [decide_eq_true_eq] at *; omega) (fun a b => by simp only [Bool.or_eq_true, decide_eq_true_eq]; omega) L
  exact this.imp fun h => of_decide_eq_true h
/-- what compacting leaves, plain -/
def dedup : List Nat → List Nat
  | [] => []
  | [x] => [x]
  | x :: y :: r => if x = y then dedup (y :: r) else x :: dedup (y :: r)
theorem dedup_mem (x : Nat) : ∀ L, x ∈ dedup L ↔ x ∈ L
  | [] => Iff.rfl
  | [y] => Iff.rfl
  | y :: z :: r => by
    unfold dedup
    split
    · rename_i h
      rw [dedup_mem x (z :: r), h]; simp
    · rw [List.mem_cons, dedup_mem x (z :: r), List.mem_cons (b := y)]
theorem dedup_up : ∀ L : List Nat, L.Pairwise (· ≤ ·) → (dedup L).Pairwise (· < ·)
  | [], _ => List.Pairwise.nil
  | [y], _ => List.pairwise_singleton ..
  | y :: z :: r, h => by
    have h1 := (List.pairwise_cons.1 h)
    unfold dedup
    split
    · exact dedup_up _ h1.2
    · rename_i hn
      refine List.pairwise_cons.2 ⟨fun a ha => ?_, dedup_up _ h1.2⟩
      have ha' := (dedup_mem a _).1 ha
      have h2 := List.pairwise_cons.1 h1.2
      have hyz := h1.1 z (List.mem_cons_self ..)
      rcases List.mem_cons.1 ha' with rfl | hr
      · omega
      · have := h2.1 a hr; omega
theorem mem_compact {L : List Int} {x : Int} : x ∈ Lib.compact L ↔ x ∈ L := by
  unfold Lib.compact Lib.compactUpTo
  rw [List.mem_map]
  constructor
  · rintro ⟨j, hj, rfl⟩
    have hj' := List.mem_range.1 (List.mem_filter.1 hj).1
    rw [getElem!_pos _ j (by simpa using hj')]
    simp
  · intro hx
    have hex : ∃ j : Nat, ∃ h : j < L.length, L[j] = x := by
      obtain ⟨j, hj, he⟩ := List.getElem_of_mem hx
      exact ⟨j, hj, he⟩
    -- the first place where it stands
    have hmin : ∃ j : Nat, (∃ h : j < L.length, L[j] = x) ∧ ∀ i, i < j → ¬ ∃ h : i < L.length, L[i] = x := by
      obtain ⟨j, hj⟩ := hex
      induction j using Nat.strongRecOn with
      | ind j ih =>
        by_cases hb : ∃ i, i < j ∧ ∃ h : i < L.length, L[i] = x
        · obtain ⟨i, hi, hx'⟩ := hb; exact ih i hi hx'
        · exact ⟨j, hj, fun i hi hx' => hb ⟨i, hi, hx'⟩⟩
    obtain ⟨j, ⟨hj, he⟩, hno⟩ := hmin
    refine ⟨j, List.mem_filter.2 ⟨List.mem_range.2 hj, ?_⟩, ?_⟩
    · unfold Lib.keeps
      refine decide_eq_true ?_
      by_cases h0 : j = 0
      · exact .inl h0
      · refine .inr fun h => hno (j - 1) (by omega) ⟨by omega, ?_⟩
        rw [getElem!_pos _ j (by simpa using hj), getElem!_pos _ (j - 1) (by simp; omega)] at h
        simpa [he] using h.symm
    · rw [getElem!_pos _ j (by simpa using hj)]; simpa using he
theorem compact_up (L : List Int) (h : L.Pairwise (· ≤ ·)) : (Lib.compact L).Pairwise (· < ·) := by
  unfold Lib.compact Lib.compactUpTo
  refine List.pairwise_map.2 ?_
  refine List.Pairwise.imp_of_mem ?_ ((List.pairwise_lt_range (n := L.length)).filter _)
  intro i j hi hj hij
  have hi' := List.mem_range.1 (List.mem_filter.1 hi).1
  have hj' := List.mem_range.1 (List.mem_filter.1 hj).1
  have hk := of_decide_eq_true (List.mem_filter.1 hj).2
  have hp := List.pairwise_iff_getElem.1 h
  rw [getElem!_pos _ i (by simpa using hi'), getElem!_pos _ j (by simpa using hj')]
  rcases hk with h0 | hk
  · omega
  · rw [getElem!_pos _ j (by simpa using hj'), getElem!_pos _ (j - 1) (by simp; omega)] at hk
    have h1 : L[j - 1] ≤ L[j] := hp (j - 1) j (by omega) hj' (by omega)
    have h2 : L[i] ≤ L[j - 1] := by
      by_cases e : i = j - 1
      · subst e; exact Int.le_refl _
      · exact hp i (j - 1) hi' (by omega) (by omega)
    simp only [List.getElem_toArray] at hk ⊢
    omega
/-- two lists that rise and have the same members are one -/
theorem up_ext : ∀ {A B : List Nat}, A.Pairwise (· < ·) → B.Pairwise (· < ·) → (∀ x, x ∈ A ↔ x ∈ B) → A = B
  | [], [], _, _, _ => rfl
  | [], b :: B, _, _, h => absurd ((h b).2 (List.mem_cons_self ..)) (by simp)
  | a :: A, [], _, _, h => absurd ((h a).1 (List.mem_cons_self ..)) (by simp)
  | a :: A, b :: B, hA, hB, h => by
    have ha := List.pairwise_cons.1 hA
    have hb := List.pairwise_cons.1 hB
    have e : a = b := by
      have h1 := (h a).1 (List.mem_cons_self ..)
      have h2 := (h b).2 (List.mem_cons_self ..)
      rcases List.mem_cons.1 h1 with h1 | h1
      · exact h1
      · rcases List.mem_cons.1 h2 with h2 | h2
        · exact h2.symm
        · have := hb.1 _ h1; have := ha.1 _ h2; omega
    subst e
    congr 1
    refine up_ext ha.2 hb.2 fun x => ?_
    constructor
    · intro hx
      rcases List.mem_cons.1 ((h x).1 (List.mem_cons_of_mem _ hx)) with e | hx'
      · subst e; have := ha.1 _ hx; omega
      · exact hx'
    · intro hx
      rcases List.mem_cons.1 ((h x).2 (List.mem_cons_of_mem _ hx)) with e | hx'
      · subst e; have := hb.1 _ hx; omega
      · exact hx'
theorem compact_cast (L : List Nat) : Lib.compact ((sortNat L).map fun i : Nat => (i : Int)) = (dedup (sortNat L)).map fun i : Nat => (i : Int) := by
  have hs : ((sortNat L).map fun i : Nat => (i : Int)).Pairwise (· ≤ ·) := List.pairwise_map.2 ((sortNat_up L).imp fun h => by omega)
  have h1 := compact_up _ hs
  have hc : Lib.compact ((sortNat L).map fun i : Nat => (i : Int)) = ((Lib.compact ((sortNat L).map fun i : Nat => (i : Int))).map Int.toNat).map fun i : Nat => (i : Int) := by
    rw [List.map_map]
    conv => lhs; rw [← List.map_id (Lib.compact _)]
    refine List.map_congr_left fun x hx => ?_
    obtain ⟨k, -, rfl⟩ := List.mem_map.1 (mem_compact.1 hx)
    simp
  rw [hc]
  congr 1
  refine up_ext ?_ (dedup_up _ (sortNat_up L)) fun x => ?_
  · refine List.pairwise_map.2 (h1.imp_of_mem fun {a b} ha hb hab => ?_)
    obtain ⟨k, -, rfl⟩ := List.mem_map.1 (mem_compact.1 ha)
    obtain ⟨m, -, rfl⟩ := List.mem_map.1 (mem_compact.1 hb)
    simp only [Int.toNat_natCast]; omega
  · rw [dedup_mem, List.mem_map]
    constructor
    · rintro ⟨y, hy, rfl⟩
      obtain ⟨k, hk, rfl⟩ := List.mem_map.1 (mem_compact.1 hy)
      simpa using hk
    · intro hx
      exact ⟨(x : Int), mem_compact.2 (List.mem_map.2 ⟨x, hx, rfl⟩), by simp⟩

/-- ways: to each object that is led to, the way there -/
abbrev Ways := Nat → Option (List Nat)
/-- who is ahead of the last one; the last one, if nobody is -/
def par (p : List Nat) : Nat := p.dropLast.getLast?.getD (p.getLast?.getD 0)
theorem par_one (y : Nat) : par [y] = y := rfl
theorem par_two (q : List Nat) (x y : Nat) : par (q ++ [x, y]) = x := by
  unfold par
  rw [show q ++ [x, y] = (q ++ [x]) ++ [y] by simp, List.dropLast_concat, List.getLast?_concat]; rfl
def wset (W : Ways) (y : Nat) (p : List Nat) : Ways := fun q => if q = y then some p else W q
def wayOf (W : Ways) (x : Nat) : List Nat := (W x).getD []
def stepY (x : Nat) (s : Ways × List Nat) (y : Nat) : Ways × List Nat := if (s.1 y).isSome then s else (wset s.1 y (wayOf s.1 x ++ [y]), s.2 ++ [y])
def stepX (l : Bytes) (s : Ways × List Nat) (x : Nat) : Ways × List Nat := (sortNat (refsL l (x : Int))).foldl (stepY x) s
def lvl (l : Bytes) (s : Ways × List Nat) : Ways × List Nat := s.2.foldl (stepX l) (s.1, [])
def rootsH (l : Bytes) : List Nat := (rootsL l).map (·.2)
def startW (l : Bytes) : Ways := fun q => if q ∈ rootsH l then some [q] else none
def lvlN (l : Bytes) : Nat → Ways × List Nat
  | 0 => (startW l, dedup (sortNat (rootsH l)))
  | k + 1 => lvl l (lvlN l k)
def fromW (l : Bytes) : Ways := (lvlN l 41).1

/-- what holds of ways while they are found: D is who has one -/
structure WOk (l : Bytes) (W : Ways) (D : List Nat) : Prop where
  dn : D.Nodup
  dk : ∀ k, (W k).isSome = true ↔ k ∈ D
  dh : ∀ k ∈ D, hE l (k : Int) = 0
  ways : ∀ y p, W y = some p → ∃ q, p = q ++ [y] ∧ ((q = [] ∧ y ∈ rootsH l) ∨ ∃ x, W x = some q ∧ y ∈ refsL l (x : Int))
  roots : ∀ r ∈ rootsH l, W r = some [r]
theorem hE_nat {l : Bytes} {k : Nat} (h : hE l (k : Int) = 0) : 1 ≤ k ∧ k ≤ 40 := by
  obtain ⟨j, hj, e, -⟩ := hE_zero h
  omega
theorem nodup_le1 {D : List Nat} (hn : D.Nodup) {m : Nat} (h : ∀ k ∈ D, 1 ≤ k ∧ k ≤ m) : D.length ≤ m := by
  have hs : D ⊆ (List.range m).map (· + 1) := fun k hk => by
    have := h k hk
    exact List.mem_map.2 ⟨k - 1, List.mem_range.2 (by omega), by omega⟩
  have := hn.length_le_of_subset hs
  simpa using this
theorem WOk.le {l : Bytes} {W : Ways} {D : List Nat} (h : WOk l W D) : D.length ≤ 40 := nodup_le1 h.dn fun k hk => hE_nat (h.dh k hk)
theorem refsL_mem {l : Bytes} {x y : Int} {z : Nat} (h : z ∈ refsL l x) : hE l (z : Int) = 0 := by
  unfold refsL at h
  have := refsB_mem l (readL l x 0 (min (gL l x) (gT l x))) _ (Nat.le_refl _) z
  rw [List.take_length] at this
  exact this h
theorem rootsH_mem {l : Bytes} (hg : Good l) {r : Nat} (h : r ∈ rootsH l) : hE l (r : Int) = 0 := by
  unfold rootsH at h
  obtain ⟨x, hx, rfl⟩ := List.mem_map.1 h
  exact (good_roots hg hx).2.2
theorem startW_ok {l : Bytes} (hg : Good l) : WOk l (startW l) (dedup (sortNat (rootsH l))) where
  dn := (dedup_up _ (sortNat_up _)).imp fun h => by omega
  dk k := by
    rw [dedup_mem, sortNat_mem]; unfold startW; split <;> simp_all
  dh k hk := rootsH_mem hg (sortNat_mem.1 ((dedup_mem _ _).1 hk))
  ways y p h := by
    unfold startW at h; split at h
    · rename_i hy; cases h; exact ⟨[], rfl, .inl ⟨rfl, hy⟩⟩
    · cases h
  roots r hr := by unfold startW; rw [if_pos hr]
theorem WOk.set {l : Bytes} {W : Ways} {D : List Nat} (h : WOk l W D) {x y : Nat} (hx : x ∈ D) (hy : y ∉ D) (hr : y ∈ refsL l (x : Int)) : WOk l (wset W y (wayOf W x ++ [y])) (D ++ [y]) := by
  obtain ⟨q, hq⟩ := Option.isSome_iff_exists.1 ((h.dk x).2 hx)
  have hne : ∀ k, k ∈ D → k ≠ y := fun k hk e => hy (e ▸ hk)
  have hold : ∀ k, k ∈ D → wset W y (wayOf W x ++ [y]) k = W k := fun k hk => by unfold wset; rw [if_neg (hne k hk)]
  have hin : ∀ k p, W k = some p → k ∈ D := fun k p hk => (h.dk k).1 (by rw [hk]; rfl)
  refine ⟨?_, fun k => ?_, fun k hk => ?_, fun k p hk => ?_, fun r hr => ?_⟩
  · exact List.nodup_append.2 ⟨h.dn, by simp, fun a ha b hb => by simp only [List.mem_singleton] at hb; subst hb; exact hne a ha⟩
  · by_cases e : k = y
    · subst e; unfold wset; simp
    · unfold wset; rw [if_neg e, h.dk k]; simp [e]
  · rcases List.mem_append.1 hk with hk | hk
    · exact h.dh k hk
    · simp only [List.mem_singleton] at hk; subst hk; exact refsL_mem (y := 0) hr
  · by_cases e : k = y
    · subst e
      unfold wset at hk; rw [if_pos rfl] at hk
      cases hk
      refine ⟨_, rfl, .inr ⟨x, ?_, hr⟩⟩
      rw [hold x hx, hq]; unfold wayOf; rw [hq]; rfl
    · unfold wset at hk; rw [if_neg e] at hk
      obtain ⟨q', e1, h1⟩ := h.ways k p hk
      refine ⟨q', e1, h1.imp id fun ⟨x', e2, e3⟩ => ⟨x', ?_, e3⟩⟩
      rw [hold x' (hin _ _ e2)]; exact e2
  · rw [hold r ((h.dk r).1 (by rw [h.roots r hr]; rfl))]; exact h.roots r hr
/-- a level that is under way: ways W of D, of which N are new -/
structure LOk (l : Bytes) (s : Ways × List Nat) (D : List Nat) (W0 : Ways) (D0 : List Nat) : Prop where
  ok : WOk l s.1 D
  spl : D = D0 ++ s.2
  old : ∀ k, k ∈ D0 → s.1 k = W0 k
theorem LOk.stepY {l : Bytes} {s : Ways × List Nat} {D D0 : List Nat} {W0 : Ways} (h : LOk l s D W0 D0) {x y : Nat} (hx : x ∈ D0) (hr : y ∈ refsL l (x : Int)) :
    ∃ D', LOk l (stepY x s y) D' W0 D0 ∧ y ∈ D' ∧ (∀ k ∈ D, k ∈ D') ∧ D'.length = (if (s.1 y).isSome then D.length else D.length + 1) := by
  unfold Go.Proofs.YtcahgmnkphmnhaaGreat.stepY
  by_cases hy : (s.1 y).isSome
  · rw [if_pos hy, if_pos hy]
    exact ⟨D, h, (h.ok.dk y).1 hy, fun _ hk => hk, rfl⟩
  · rw [if_neg hy, if_neg hy]
    have hyD : y ∉ D := fun hk => hy ((h.ok.dk y).2 hk)
    have hxD : x ∈ D := by rw [h.spl]; exact List.mem_append_left _ hx
    refine ⟨D ++ [y], ⟨h.ok.set hxD hyD hr, by rw [h.spl, List.append_assoc], fun k hk => ?_⟩, by simp, fun k hk => List.mem_append_left _ hk, by simp⟩
    have hk' : k ≠ y := fun e => hyD (by rw [h.spl, ← e]; exact List.mem_append_left _ hk)
    show wset s.1 y _ k = _
    unfold wset; rw [if_neg hk']; exact h.old k hk
theorem LOk.foldY {l : Bytes} {D0 : List Nat} {W0 : Ways} {x : Nat} (hx : x ∈ D0) : ∀ (L : List Nat) (s : Ways × List Nat) (D : List Nat), LOk l s D W0 D0 → (∀ y ∈ L, y ∈ refsL l (x : Int)) →
    ∃ D', LOk l (L.foldl (Go.Proofs.YtcahgmnkphmnhaaGreat.stepY x) s) D' W0 D0 ∧ (∀ y ∈ L, y ∈ D') ∧ (∀ k ∈ D, k ∈ D')
  | [], s, D, h, _ => ⟨D, h, fun _ hy => by simp at hy, fun _ hk => hk⟩
  | y :: L, s, D, h, hL => by
    obtain ⟨D1, h1, hy1, hd1, -⟩ := h.stepY hx (hL y (List.mem_cons_self ..))
    obtain ⟨D2, h2, hy2, hd2⟩ := LOk.foldY hx L _ D1 h1 (fun z hz => hL z (List.mem_cons_of_mem _ hz))
    refine ⟨D2, h2, fun z hz => ?_, fun k hk => hd2 k (hd1 k hk)⟩
    rcases List.mem_cons.1 hz with rfl | hz
    · exact hd2 _ hy1
    · exact hy2 z hz
theorem LOk.stepX {l : Bytes} {s : Ways × List Nat} {D D0 : List Nat} {W0 : Ways} (h : LOk l s D W0 D0) {x : Nat} (hx : x ∈ D0) :
    ∃ D', LOk l (stepX l s x) D' W0 D0 ∧ (∀ y ∈ refsL l (x : Int), y ∈ D') ∧ (∀ k ∈ D, k ∈ D') := by
  obtain ⟨D', h1, h2, h3⟩ := LOk.foldY hx (sortNat (refsL l (x : Int))) s D h (fun y hy => sortNat_mem.1 hy)
  exact ⟨D', h1, fun y hy => h2 y (sortNat_mem.2 hy), h3⟩
theorem LOk.foldX {l : Bytes} {D0 : List Nat} {W0 : Ways} : ∀ (L : List Nat) (s : Ways × List Nat) (D : List Nat), LOk l s D W0 D0 → (∀ x ∈ L, x ∈ D0) →
    ∃ D', LOk l (L.foldl (Go.Proofs.YtcahgmnkphmnhaaGreat.stepX l) s) D' W0 D0 ∧ (∀ x ∈ L, ∀ y ∈ refsL l (x : Int), y ∈ D') ∧ (∀ k ∈ D, k ∈ D')
  | [], s, D, h, _ => ⟨D, h, fun _ hy => by simp at hy, fun _ hk => hk⟩
  | x :: L, s, D, h, hL => by
    obtain ⟨D1, h1, hy1, hd1⟩ := h.stepX (hL x (List.mem_cons_self ..))
    obtain ⟨D2, h2, hy2, hd2⟩ := LOk.foldX L _ D1 h1 (fun z hz => hL z (List.mem_cons_of_mem _ hz))
    refine ⟨D2, h2, fun z hz => ?_, fun k hk => hd2 k (hd1 k hk)⟩
    rcases List.mem_cons.1 hz with rfl | hz
    · exact fun y hy => hd2 _ (hy1 y hy)
    · exact hy2 z hz
/-- between two levels: D has ways, row are those that have not been asked yet -/
structure LvOk (l : Bytes) (s : Ways × List Nat) (D : List Nat) : Prop where
  ok : WOk l s.1 D
  row : ∀ x ∈ s.2, x ∈ D
  closed : ∀ x ∈ D, x ∉ s.2 → ∀ y ∈ refsL l (x : Int), y ∈ D
theorem LvOk.start {l : Bytes} (hg : Good l) : LvOk l (lvlN l 0) (dedup (sortNat (rootsH l))) := ⟨startW_ok hg, fun _ h => h, fun x h hn => absurd h hn⟩
theorem LvOk.next {l : Bytes} {s : Ways × List Nat} {D : List Nat} (h : LvOk l s D) : ∃ D', LvOk l (lvl l s) D' ∧ D'.length = D.length + (lvl l s).2.length ∧ (∀ k ∈ D, k ∈ D') := by
  obtain ⟨D', h1, h2, h3⟩ := LOk.foldX (l := l) (D0 := D) (W0 := s.1) s.2 (s.1, []) D ⟨h.ok, by simp, fun _ _ => rfl⟩ h.row
  refine ⟨D', ⟨h1.ok, fun x hx => by rw [h1.spl]; exact List.mem_append_right _ hx, fun x hx hn y hy => ?_⟩, by rw [h1.spl, List.length_append]; rfl, h3⟩
  have hxD : x ∈ D := by
    rw [h1.spl] at hx
    rcases List.mem_append.1 hx with hx | hx
    · exact hx
    · exact absurd hx hn
  by_cases hr : x ∈ s.2
  · exact h2 x hr y hy
  · exact h3 y (h.closed x hxD hr y hy)
theorem lvl_nil (l : Bytes) (W : Ways) : lvl l (W, []) = (W, []) := rfl
theorem LvOk.at_ {l : Bytes} (hg : Good l) : ∀ k, ∃ D, LvOk l (lvlN l k) D ∧ ((lvlN l k).2 = [] ∨ k < D.length)
  | 0 => by
    refine ⟨_, LvOk.start hg, ?_⟩
    by_cases h : (lvlN l 0).2 = []
    · exact .inl h
    · exact .inr (List.length_pos_iff.2 h)
  | k + 1 => by
    obtain ⟨D, h, hd⟩ := LvOk.at_ hg k
    obtain ⟨D', h', hl, -⟩ := h.next
    refine ⟨D', h', ?_⟩
    by_cases hn : (lvlN l (k + 1)).2 = []
    · exact .inl hn
    · right
      have hp : 0 < (lvl l (lvlN l k)).2.length := List.length_pos_iff.2 hn
      rcases hd with hd | hd
      · refine absurd ?_ hn
        show (lvl l (lvlN l k)).2 = []
        have e : lvlN l k = ((lvlN l k).1, []) := by rw [← hd]
        rw [e]; rfl
      · omega
theorem lvlN_end {l : Bytes} (hg : Good l) : (lvlN l 41).2 = [] := by
  obtain ⟨D, h, hd⟩ := LvOk.at_ hg 41
  rcases hd with hd | hd
  · exact hd
  · have := h.ok.le; omega
/-- once a row is empty nothing more comes -/
theorem lvlN_stop {l : Bytes} {k : Nat} (h : (lvlN l k).2 = []) : ∀ m, lvlN l (k + m) = lvlN l k
  | 0 => rfl
  | m + 1 => by
    show lvl l (lvlN l (k + m)) = _
    rw [lvlN_stop h m]
    have e : lvlN l k = ((lvlN l k).1, []) := by rw [← h]
    rw [e]; rfl
theorem fromW_of {l : Bytes} {k : Nat} (hk : k ≤ 41) (h : (lvlN l k).2 = []) : (lvlN l k).1 = fromW l := by
  unfold fromW
  rw [show 41 = k + (41 - k) by omega, lvlN_stop h]
/-- what the whole of it comes to -/
theorem fromW_ok {l : Bytes} (hg : Good l) : ∃ D, WOk l (fromW l) D ∧ ∀ x ∈ D, ∀ y ∈ refsL l (x : Int), y ∈ D := by
  obtain ⟨D, h, -⟩ := LvOk.at_ hg 41
  exact ⟨D, h.ok, fun x hx => h.closed x hx (by rw [lvlN_end hg]; simp)⟩
end Go.Proofs.YtcahgmnkphmnhaaGreat
/- Package reach, plain: of all ways the least one. -/
namespace Go.Proofs.YtcahgmnkphmnhaaGreat
open Go.RowKit

def lexLt : List Nat → List Nat → Bool
  | x :: a, y :: b => if x = y then lexLt a b else decide (x < y)
  | _, _ => false
/-- one way is ahead of another -/
def lessW (a b : List Nat) : Bool := if a.length = b.length then lexLt a b else decide (a.length < b.length)
theorem lexLt_irrefl : ∀ a, lexLt a a = false
  | [] => rfl
  | x :: a => by unfold lexLt; rw [if_pos rfl]; exact lexLt_irrefl a
theorem lexLt_trans : ∀ {a b c : List Nat}, lexLt a b = true → lexLt b c = true → lexLt a c = true
  | [], _, _, h, _ => by simp [lexLt] at h
  | _ :: _, [], _, h, _ => by simp [lexLt] at h
  | _ :: _, _ :: _, [], _, h => by simp [lexLt] at h
  | x :: a, y :: b, z :: c, h1, h2 => by
    unfold lexLt at *
    by_cases e1 : x = y
    · subst e1
      rw [if_pos rfl] at h1
      by_cases e2 : x = z
      · subst e2; rw [if_pos rfl] at h2 ⊢; exact lexLt_trans h1 h2
      · rw [if_neg e2] at h2 ⊢; exact h2
    · rw [if_neg e1] at h1
      by_cases e2 : y = z
      · subst e2; rw [if_neg e1]; exact h1
      · rw [if_neg e2] at h2
        have h1' := of_decide_eq_true h1
        have h2' := of_decide_eq_true h2
        rw [if_neg (by omega)]; exact decide_eq_true (by omega)
theorem lexLt_total : ∀ {a b : List Nat}, a.length = b.length → lexLt a b = false → lexLt b a = false → a = b
  | [], [], _, _, _ => rfl
  | [], _ :: _, h, _, _ => by simp at h
  | _ :: _, [], h, _, _ => by simp at h
  | x :: a, y :: b, h, h1, h2 => by
    unfold lexLt at *
    by_cases e : x = y
    · subst e
      rw [if_pos rfl] at h1 h2
      rw [lexLt_total (by simpa using h) h1 h2]
    · rw [if_neg e] at h1
      rw [if_neg (fun e' => e e'.symm)] at h2
      have := of_decide_eq_false h1
      have := of_decide_eq_false h2
      omega
theorem lessW_irrefl (a : List Nat) : lessW a a = false := by unfold lessW; rw [if_pos rfl]; exact lexLt_irrefl a
theorem lessW_trans {a b c : List Nat} (h1 : lessW a b = true) (h2 : lessW b c = true) : lessW a c = true := by
  unfold lessW at *
  by_cases e1 : a.length = b.length
  · rw [if_pos e1] at h1
    by_cases e2 : b.length = c.length
    · rw [if_pos e2] at h2; rw [if_pos (e1.trans e2)]; exact lexLt_trans h1 h2
    · rw [if_neg e2] at h2; rw [if_neg (by omega)]
      have := of_decide_eq_true h2
      exact decide_eq_true (by omega)
  · rw [if_neg e1] at h1
    have h1' := of_decide_eq_true h1
    by_cases e2 : b.length = c.length
    · rw [if_neg (by omega)]; exact decide_eq_true (by omega)
    · rw [if_neg e2] at h2
      have h2' := of_decide_eq_true h2
      rw [if_neg (by omega)]; exact decide_eq_true (by omega)
theorem lessW_total {a b : List Nat} (h1 : lessW a b = false) (h2 : lessW b a = false) : a = b := by
  unfold lessW at *
  by_cases e : a.length = b.length
  · rw [if_pos e] at h1; rw [if_pos e.symm] at h2; exact lexLt_total e h1 h2
  · rw [if_neg e] at h1; rw [if_neg (fun x => e x.symm)] at h2
    have := of_decide_eq_false h1
    have := of_decide_eq_false h2
    omega
/-- not behind: a is b, or ahead of it -/
def leW (a b : List Nat) : Prop := lessW b a = false
theorem leW_refl (a : List Nat) : leW a a := lessW_irrefl a
theorem leW_of_less {a b : List Nat} (h : lessW a b = true) : leW a b := by
  unfold leW
  cases h2 : lessW b a with
  | false => rfl
  | true => have := lessW_trans h h2; rw [lessW_irrefl] at this; cases this
theorem leW_cases {a b : List Nat} (h : leW a b) : a = b ∨ lessW a b = true := by
  cases h2 : lessW a b with
  | true => exact .inr rfl
  | false => exact .inl (lessW_total h2 h)
theorem leW_trans {a b c : List Nat} (h1 : leW a b) (h2 : leW b c) : leW a c := by
  rcases leW_cases h1 with rfl | h1
  · exact h2
  · rcases leW_cases h2 with rfl | h2
    · exact leW_of_less h1
    · exact leW_of_less (lessW_trans h1 h2)
theorem leW_antisymm {a b : List Nat} (h1 : leW a b) (h2 : leW b a) : a = b := lessW_total h2 h1
theorem leW_short {a b : List Nat} (h : a.length < b.length) : leW a b := leW_of_less (by unfold lessW; rw [if_neg (by omega)]; exact decide_eq_true h)
theorem leW_len {a b : List Nat} (h : leW a b) : a.length ≤ b.length := by
  rcases leW_cases h with rfl | h
  · exact Nat.le_refl _
  · unfold lessW at h
    by_cases e : a.length = b.length
    · omega
    · rw [if_neg e] at h; have := of_decide_eq_true h; omega
theorem lexLt_append : ∀ {a b : List Nat} (c d : List Nat), a.length = b.length → lexLt a b = true → lexLt (a ++ c) (b ++ d) = true
  | [], [], _, _, _, h => by simp [lexLt] at h
  | [], _ :: _, _, _, h, _ => by simp at h
  | _ :: _, [], _, _, h, _ => by simp at h
  | x :: a, y :: b, c, d, h, h1 => by
    rw [List.cons_append, List.cons_append]
    unfold lexLt at *
    by_cases e : x = y
    · rw [if_pos e] at h1 ⊢; exact lexLt_append c d (by simpa using h) h1
    · rw [if_neg e] at h1 ⊢; exact h1
theorem lexLt_same : ∀ (a c d : List Nat), lexLt (a ++ c) (a ++ d) = lexLt c d
  | [], _, _ => rfl
  | x :: a, c, d => by rw [List.cons_append, List.cons_append]; conv => lhs; unfold lexLt
                       rw [if_pos rfl]; exact lexLt_same a c d
theorem lessW_snoc {a b : List Nat} (x y : Nat) (h : lessW a b = true) : lessW (a ++ [x]) (b ++ [y]) = true := by
  unfold lessW at *
  simp only [List.length_append, List.length_cons, List.length_nil]
  by_cases e : a.length = b.length
  · rw [if_pos e] at h; rw [if_pos (by omega)]; exact lexLt_append _ _ e h
  · rw [if_neg e] at h; have := of_decide_eq_true h; rw [if_neg (by omega)]; exact decide_eq_true (by omega)
theorem lessW_last (a : List Nat) {x y : Nat} (h : x < y) : lessW (a ++ [x]) (a ++ [y]) = true := by
  unfold lessW
  rw [if_pos (by simp), lexLt_same]
  unfold lexLt; rw [if_neg (by omega)]; exact decide_eq_true h
theorem leW_snoc {a b : List Nat} (y : Nat) (h : leW a b) : leW (a ++ [y]) (b ++ [y]) := by
  rcases leW_cases h with rfl | h
  · exact leW_refl _
  · exact leW_of_less (lessW_snoc y y h)
/-- a way: from a root, link by link -/
inductive IsWay (l : Bytes) : List Nat → Nat → Prop
  | root {r : Nat} (h : r ∈ rootsH l) : IsWay l [r] r
  | step {q : List Nat} {x y : Nat} (h : IsWay l q x) (hy : y ∈ refsL l (x : Int)) : IsWay l (q ++ [y]) y
theorem IsWay.last {l : Bytes} {p : List Nat} {y : Nat} (h : IsWay l p y) : ∃ q, p = q ++ [y] := by
  cases h with
  | root h => exact ⟨[], rfl⟩
  | step h hy => exact ⟨_, rfl⟩
theorem IsWay.pos {l : Bytes} {p : List Nat} {y : Nat} (h : IsWay l p y) : 1 ≤ p.length := by
  obtain ⟨q, rfl⟩ := h.last; simp
theorem WOk.isWay {l : Bytes} {W : Ways} {D : List Nat} (h : WOk l W D) : ∀ (n : Nat) (y : Nat) (p : List Nat), p.length ≤ n → W y = some p → IsWay l p y
  | 0, y, p, hn, hp => by
    obtain ⟨q, e, -⟩ := h.ways y p hp
    subst e; simp at hn
  | n + 1, y, p, hn, hp => by
    obtain ⟨q, e, h1⟩ := h.ways y p hp
    subst e
    rcases h1 with ⟨rfl, hr⟩ | ⟨x, h2, h3⟩
    · exact .root hr
    · exact .step (WOk.isWay h n x q (by simp at hn; omega) h2) h3
/-- the level k: the ways so far are no longer than k + 1, the row are those of k + 1, in the order of their ways, and none is behind another way -/
structure MinOk (l : Bytes) (k : Nat) (s : Ways × List Nat) : Prop where
  len : ∀ y p, s.1 y = some p → p.length ≤ k + 1
  row : ∀ x ∈ s.2, (wayOf s.1 x).length = k + 1 ∧ (s.1 x).isSome = true
  ord : s.2.Pairwise fun x y => lessW (wayOf s.1 x) (wayOf s.1 y) = true
  all : ∀ y p, s.1 y = some p → p.length = k + 1 → y ∈ s.2
  least : ∀ p y, IsWay l p y → p.length ≤ k + 1 → ∃ p', s.1 y = some p' ∧ leW p' p
theorem MinOk.start {l : Bytes} : MinOk l 0 (lvlN l 0) where
  len y p h := by
    unfold lvlN startW at h; dsimp only at h
    split at h
    · cases h; simp
    · cases h
  row x hx := by
    have hx' : x ∈ rootsH l := sortNat_mem.1 ((dedup_mem _ _).1 hx)
    unfold lvlN startW wayOf; dsimp only
    rw [if_pos hx']; exact ⟨rfl, rfl⟩
  ord := by
    refine List.Pairwise.imp_of_mem ?_ (dedup_up _ (sortNat_up (rootsH l)))
    intro a b ha hb hab
    have ha' : a ∈ rootsH l := sortNat_mem.1 ((dedup_mem _ _).1 ha)
    have hb' : b ∈ rootsH l := sortNat_mem.1 ((dedup_mem _ _).1 hb)
    unfold lvlN startW wayOf; dsimp only
    rw [if_pos ha', if_pos hb']
    exact lessW_last [] hab
  all y p h hl := by
    unfold lvlN startW at h; dsimp only at h
    split at h
    · rename_i hr; exact (dedup_mem _ _).2 (sortNat_mem.2 hr)
    · cases h
  least p y h hl := by
    cases h with
    | root hr => exact ⟨[y], by unfold lvlN startW; dsimp only; rw [if_pos hr], leW_refl _⟩
    | step h hy => have := h.pos; rw [List.length_append] at hl; simp only [List.length_cons, List.length_nil] at hl; omega
/-- in the midst of a level: new ones have ways by those of the row that have been asked, and none is behind another -/
structure MidOk (k : Nat) (W0 : Ways) (s : Ways × List Nat) : Prop where
  keep : ∀ y p, W0 y = some p → s.1 y = some p
  new : ∀ y, W0 y = none → (s.1 y).isSome = true → y ∈ s.2
  row : ∀ y ∈ s.2, W0 y = none ∧ ∃ p, s.1 y = some p ∧ p.length = k + 2
  ord : s.2.Pairwise fun x y => lessW (wayOf s.1 x) (wayOf s.1 y) = true
theorem wayOf_some {W : Ways} {x : Nat} {p : List Nat} (h : W x = some p) : wayOf W x = p := by unfold wayOf; rw [h]; rfl
theorem MidOk.stepY {k : Nat} {W0 : Ways} {s : Ways × List Nat} (h : MidOk k W0 s) {x y : Nat} {q : List Nat} (hx : W0 x = some q) (hq : q.length = k + 1)
    (hb : ∀ z ∈ s.2, z ≠ y → lessW (wayOf s.1 z) (q ++ [y]) = true) :
    MidOk k W0 (stepY x s y) ∧ (∀ z p, s.1 z = some p → (stepY x s y).1 z = some p) ∧ (∃ p, (stepY x s y).1 y = some p) ∧ (s.1 y = none → (stepY x s y).1 y = some (q ++ [y])) ∧ (∀ z ∈ (stepY x s y).2, z ∈ s.2 ∨ (z = y ∧ (stepY x s y).1 y = some (q ++ [y]))) := by
  unfold Go.Proofs.YtcahgmnkphmnhaaGreat.stepY
  by_cases hy : (s.1 y).isSome
  · rw [if_pos hy]
    obtain ⟨p, hp⟩ := Option.isSome_iff_exists.1 hy
    exact ⟨h, fun _ _ hz => hz, ⟨p, hp⟩, (fun e => by rw [e] at hy; cases hy), fun z hz => .inl hz⟩
  · rw [if_neg hy]
    have hyn : s.1 y = none := by simpa using hy
    have hW0 : W0 y = none := by
      cases e : W0 y with
      | none => rfl
      | some p => rw [h.keep y p e] at hyn; cases hyn
    have hxq : wayOf s.1 x = q := wayOf_some (h.keep x q hx)
    rw [hxq]
    have hny : y ∉ s.2 := fun hm => by obtain ⟨_, p, hp, _⟩ := h.row y hm; rw [hp] at hyn; cases hyn
    have hold : ∀ z, z ≠ y → wset s.1 y (q ++ [y]) z = s.1 z := fun z hz => by unfold wset; rw [if_neg hz]
    have hnew : wset s.1 y (q ++ [y]) y = some (q ++ [y]) := by unfold wset; rw [if_pos rfl]
    have hkp : ∀ z p, s.1 z = some p → wset s.1 y (q ++ [y]) z = some p := fun z p hz => by
      rw [hold z (fun e => by rw [e, hyn] at hz; cases hz)]; exact hz
    refine ⟨⟨fun z p hz => hkp z p (h.keep z p hz), fun z hz hs => ?_, fun z hz => ?_, ?_⟩, hkp, ⟨_, hnew⟩, fun _ => hnew, fun z hz => ?_⟩
    · dsimp only at hs ⊢
      by_cases e : z = y
      · subst e; simp
      · rw [hold z e] at hs; exact List.mem_append_left _ (h.new z hz hs)
    · rcases List.mem_append.1 hz with hz | hz
      · obtain ⟨h1, p, h2, h3⟩ := h.row z hz
        exact ⟨h1, p, hkp z p h2, h3⟩
      · simp only [List.mem_singleton] at hz; subst hz
        exact ⟨hW0, _, hnew, by simp; omega⟩
    · refine List.pairwise_append.2 ⟨?_, List.pairwise_singleton .., fun a ha b hb' => ?_⟩
      · refine List.Pairwise.imp_of_mem ?_ h.ord
        intro a b ha hb' hab
        have e1 : wayOf (wset s.1 y (q ++ [y])) a = wayOf s.1 a := by unfold wayOf; rw [hold a (fun e => hny (e ▸ ha))]
        have e2 : wayOf (wset s.1 y (q ++ [y])) b = wayOf s.1 b := by unfold wayOf; rw [hold b (fun e => hny (e ▸ hb'))]
        rw [e1, e2]; exact hab
      · simp only [List.mem_singleton] at hb'; subst hb'
        have hne : a ≠ b := fun e => hny (e ▸ ha)
        have e1 : wayOf (wset s.1 b (q ++ [b])) a = wayOf s.1 a := by unfold wayOf; rw [hold a hne]
        rw [e1, wayOf_some hnew]
        exact hb a ha hne
    · rcases List.mem_append.1 hz with hz | hz
      · exact .inl hz
      · simp only [List.mem_singleton] at hz; exact .inr ⟨hz, hnew⟩
/-- the refs of one of the row -/
theorem MidOk.foldY {k : Nat} {W0 : Ways} {x : Nat} {q : List Nat} (hx : W0 x = some q) (hq : q.length = k + 1) : ∀ (L : List Nat) (s : Ways × List Nat), MidOk k W0 s → L.Pairwise (· ≤ ·) →
    (∀ z ∈ s.2, (∃ a b, wayOf s.1 z = a ++ [b] ∧ lessW a q = true) ∨ (wayOf s.1 z = q ++ [z] ∧ ∀ y ∈ L, z ≤ y)) →
    MidOk k W0 (L.foldl (Go.Proofs.YtcahgmnkphmnhaaGreat.stepY x) s) ∧ (∀ z p, s.1 z = some p → (L.foldl (Go.Proofs.YtcahgmnkphmnhaaGreat.stepY x) s).1 z = some p) ∧ (∀ y ∈ L, ∃ p, (L.foldl (Go.Proofs.YtcahgmnkphmnhaaGreat.stepY x) s).1 y = some p) ∧
      (∀ z, s.1 z = none → ∀ p, (L.foldl (Go.Proofs.YtcahgmnkphmnhaaGreat.stepY x) s).1 z = some p → p = q ++ [z]) ∧
      (∀ z ∈ (L.foldl (Go.Proofs.YtcahgmnkphmnhaaGreat.stepY x) s).2, z ∈ s.2 ∨ wayOf (L.foldl (Go.Proofs.YtcahgmnkphmnhaaGreat.stepY x) s).1 z = q ++ [z])
  | [], s, h, _, _ => ⟨h, fun _ _ hz => hz, (fun y hy => by cases hy), (fun z hz p hp => by rw [List.foldl_nil] at hp; rw [hz] at hp; cases hp), fun z hz => .inl hz⟩
  | y :: L, s, h, hL, hs => by
    have hL' := List.pairwise_cons.1 hL
    obtain ⟨h1, h2, h3, h4, h5⟩ := h.stepY hx hq (y := y) (fun z hz hne => by
      rcases hs z hz with ⟨a, b, e1, e2⟩ | ⟨e1, e2⟩
      · rw [e1]; exact lessW_snoc _ _ e2
      · rw [e1]
        have := e2 y (List.mem_cons_self ..)
        exact lessW_last q (by omega))
    obtain ⟨i1, i2, i3, i4, i5⟩ := MidOk.foldY hx hq L (Go.Proofs.YtcahgmnkphmnhaaGreat.stepY x s y) h1 hL'.2 (fun z hz => by
      rcases h5 z hz with hz' | ⟨rfl, hz'⟩
      · obtain ⟨_, p, hp, _⟩ := h.row z hz'
        have e : wayOf (Go.Proofs.YtcahgmnkphmnhaaGreat.stepY x s y).1 z = wayOf s.1 z := by rw [wayOf_some (h2 z p hp), wayOf_some hp]
        rw [e]
        exact (hs z hz').imp id fun ⟨e1, e2⟩ => ⟨e1, fun y' hy' => e2 y' (List.mem_cons_of_mem _ hy')⟩
      · exact .inr ⟨wayOf_some hz', fun y' hy' => hL'.1 y' hy'⟩)
    rw [List.foldl_cons]
    refine ⟨i1, fun z p hz => i2 z p (h2 z p hz), fun z hz => ?_, fun z hz p hp => ?_, fun z hz => ?_⟩
    · rcases List.mem_cons.1 hz with rfl | hz
      · obtain ⟨p, hp⟩ := h3; exact ⟨p, i2 _ p hp⟩
      · exact i3 z hz
    · cases e : (Go.Proofs.YtcahgmnkphmnhaaGreat.stepY x s y).1 z with
      | none => exact i4 z e p hp
      | some p' =>
        have := i2 z p' e
        rw [this] at hp
        cases hp
        -- it came by this step
        by_cases hzy : z = y
        · subst hzy
          have := h4 hz
          rw [this] at e; cases e; rfl
        · exfalso
          unfold Go.Proofs.YtcahgmnkphmnhaaGreat.stepY at e
          split at e
          · rw [hz] at e; cases e
          · dsimp only at e; unfold wset at e; rw [if_neg hzy, hz] at e; cases e
    · rcases i5 z hz with hz' | hz'
      · rcases h5 z hz' with hz'' | ⟨rfl, hz''⟩
        · exact .inl hz''
        · right; rw [wayOf_some (i2 _ _ hz'')]
      · exact .inr hz'
theorem MidOk.foldX {l : Bytes} {k : Nat} {W0 : Ways} : ∀ (R : List Nat) (s : Ways × List Nat), MidOk k W0 s → (∀ x ∈ R, ∃ q, W0 x = some q ∧ q.length = k + 1) → R.Pairwise (fun x y => lessW (wayOf W0 x) (wayOf W0 y) = true) →
    (∀ z ∈ s.2, ∀ x ∈ R, ∃ a b, wayOf s.1 z = a ++ [b] ∧ lessW a (wayOf W0 x) = true) →
    MidOk k W0 (R.foldl (stepX l) s) ∧ (∀ z p, s.1 z = some p → (R.foldl (stepX l) s).1 z = some p) ∧ (∀ x ∈ R, ∀ y ∈ refsL l (x : Int), ∃ p, (R.foldl (stepX l) s).1 y = some p ∧ (s.1 y = none → leW p (wayOf W0 x ++ [y])))
  | [], s, h, _, _, _ => ⟨h, fun _ _ hz => hz, fun x hx => by cases hx⟩
  | x :: R, s, h, hR, ho, hs => by
    obtain ⟨q, hq, hql⟩ := hR x (List.mem_cons_self ..)
    have ho' := List.pairwise_cons.1 ho
    obtain ⟨i1, i2, i3, i4, i5⟩ := MidOk.foldY hq hql (sortNat (refsL l (x : Int))) s h (sortNat_up _) (fun z hz => .inl (by
      obtain ⟨a, b, e1, e2⟩ := hs z hz x (List.mem_cons_self ..)
      rw [wayOf_some hq] at e2
      exact ⟨a, b, e1, e2⟩))
    have hst : stepX l s x = (sortNat (refsL l (x : Int))).foldl (Go.Proofs.YtcahgmnkphmnhaaGreat.stepY x) s := rfl
    rw [← hst] at i1 i2 i3 i4 i5
    obtain ⟨j1, j2, j3⟩ := MidOk.foldX R (stepX l s x) i1 (fun z hz => hR z (List.mem_cons_of_mem _ hz)) ho'.2 (fun z hz x' hx' => by
      rcases i5 z hz with hz' | hz'
      · obtain ⟨a, b, e1, e2⟩ := hs z hz' x' (List.mem_cons_of_mem _ hx')
        obtain ⟨_, p, hp, _⟩ := h.row z hz'
        exact ⟨a, b, by rw [wayOf_some (i2 z p hp), ← wayOf_some hp]; exact e1, e2⟩
      · refine ⟨q, z, hz', ?_⟩
        have := ho'.1 x' hx'
        rwa [wayOf_some hq] at this)
    rw [List.foldl_cons]
    refine ⟨j1, fun z p hz => j2 z p (i2 z p hz), fun x' hx' y hy => ?_⟩
    rcases List.mem_cons.1 hx' with rfl | hx'
    · obtain ⟨p, hp⟩ := i3 y (sortNat_mem.2 hy)
      refine ⟨p, j2 y p hp, fun hn => ?_⟩
      rw [i4 y hn p hp, wayOf_some hq]; exact leW_refl _
    · obtain ⟨p, hp, hle⟩ := j3 x' hx' y hy
      refine ⟨p, hp, fun hn => ?_⟩
      cases e : (stepX l s x).1 y with
      | none => exact hle e
      | some p' =>
        have := j2 y p' e
        rw [this] at hp; cases hp
        rw [i4 y hn p e]
        have := ho'.1 x' hx'
        rw [wayOf_some hq] at this
        exact leW_of_less (lessW_snoc _ _ this)
theorem MinOk.next {l : Bytes} {k : Nat} {s : Ways × List Nat} {D : List Nat} (h : MinOk l k s) (hl : LvOk l s D) : MinOk l (k + 1) (lvl l s) := by
  obtain ⟨i1, i2, i3⟩ := MidOk.foldX (l := l) (k := k) (W0 := s.1) s.2 (s.1, []) ⟨fun _ _ hz => hz, (fun y hy hs => by dsimp only at hs; rw [hy] at hs; cases hs), (fun y hy => by cases hy), List.Pairwise.nil⟩ (fun x hx => by
      obtain ⟨h1, h2⟩ := h.row x hx
      obtain ⟨q, hq⟩ := Option.isSome_iff_exists.1 h2
      exact ⟨q, hq, by rw [wayOf_some hq] at h1; exact h1⟩) h.ord (fun z hz => by cases hz)
  have hlv : lvl l s = s.2.foldl (stepX l) (s.1, []) := rfl
  rw [← hlv] at i1 i2 i3
  dsimp only at i2 i3
  refine ⟨fun y p hp => ?_, fun x hx => ?_, i1.ord, fun y p hp hpl => ?_, fun p y hw hpl => ?_⟩
  · cases e : s.1 y with
    | some p' => rw [i2 y p' e] at hp; cases hp; have := h.len y _ e; omega
    | none =>
      obtain ⟨_, p', hp', hl'⟩ := i1.row y (i1.new y e (by rw [hp]; rfl))
      rw [hp'] at hp; cases hp; omega
  · obtain ⟨_, p, hp, hpl⟩ := i1.row x hx
    rw [wayOf_some hp, hp]; exact ⟨by omega, rfl⟩
  · cases e : s.1 y with
    | some p' => rw [i2 y p' e] at hp; cases hp; have := h.len y _ e; omega
    | none => exact i1.new y e (by rw [hp]; rfl)
  · by_cases hs : p.length ≤ k + 1
    · obtain ⟨p', h1, h2⟩ := h.least p y hw hs
      exact ⟨p', i2 y p' h1, h2⟩
    · cases hw with
      | root hr => simp at hs
      | @step q x _ hq hy =>
        simp only [List.length_append, List.length_cons, List.length_nil] at hpl hs
        obtain ⟨q', h1, h2⟩ := h.least q x hq (by omega)
        have hq1 := h.len x q' h1
        cases e : s.1 y with
        | some p' =>
          have := h.len y p' e
          exact ⟨p', i2 y p' e, leW_short (by simp; omega)⟩
        | none =>
          by_cases hx : x ∈ s.2
          · obtain ⟨p', h3, h4⟩ := i3 x hx y hy
            refine ⟨p', h3, leW_trans (h4 e) ?_⟩
            rw [wayOf_some h1]; exact leW_snoc y h2
          · exfalso
            have hxD : x ∈ D := (hl.ok.dk x).1 (by rw [h1]; rfl)
            have := (hl.ok.dk y).2 (hl.closed x hxD hx y hy)
            rw [e] at this; cases this
theorem MinOk.at_ {l : Bytes} (hg : Good l) : ∀ k, MinOk l k (lvlN l k)
  | 0 => MinOk.start
  | k + 1 => by
    obtain ⟨D, hD, -⟩ := LvOk.at_ hg k
    exact (MinOk.at_ hg k).next hD
/-- of all ways to an object the program's is the least -/
theorem fromW_least {l : Bytes} (hg : Good l) {p : List Nat} {y : Nat} (h : IsWay l p y) : ∃ p', fromW l y = some p' ∧ leW p' p ∧ IsWay l p' y := by
  obtain ⟨D, hD, hc⟩ := fromW_ok hg
  have hm := MinOk.at_ hg 41
  have hin : ∀ p y, IsWay l p y → y ∈ D := fun p y hw => by
    induction hw with
    | root hr => exact (hD.dk _).1 (by rw [hD.roots _ hr]; rfl)
    | step _ hy ih => exact hc _ ih _ hy
  obtain ⟨p', hp'⟩ := Option.isSome_iff_exists.1 ((hD.dk y).2 (hin p y h))
  refine ⟨p', hp', ?_, hD.isWay _ y p' (Nat.le_refl _) hp'⟩
  by_cases hl : p.length ≤ 42
  · obtain ⟨p2, h1, h2⟩ := hm.least p y h hl
    have : fromW l y = some p2 := h1
    rw [this] at hp'; cases hp'; exact h2
  · have := hm.len y p' hp'
    exact leW_short (by omega)
end Go.Proofs.YtcahgmnkphmnhaaGreat
/- Package reach, plain: the dead, and the image without them. -/
namespace Go.Proofs.YtcahgmnkphmnhaaGreat
open Go.RowKit

/-- the dead among some entries -/
def deadE (l : Bytes) (E : List Ent) : List Nat := (E.filter fun e => (fromW l e.1.toNat).isNone).map fun e => e.1.toNat
def deadL (l : Bytes) : List Nat := deadE l (entriesL l)
theorem filter_take_succ {A B : Type} (p : A → Bool) (f : A → B) (E : List A) (k : Nat) (hk : k < E.length) : ((E.take (k + 1)).filter p).map f = ((E.take k).filter p).map f ++ (if p E[k] = true then [f E[k]] else []) := by
  rw [List.take_succ_eq_append_getElem hk, List.filter_append, List.map_append]
  congr 1
  cases h : p E[k] <;> simp [h]
theorem deadE_succ (l : Bytes) (E : List Ent) (k : Nat) (hk : k < E.length) : deadE l (E.take (k + 1)) = deadE l (E.take k) ++ (if (fromW l E[k].1.toNat).isNone then [E[k].1.toNat] else []) := by
  exact filter_take_succ (fun e : Ent => (fromW l e.1.toNat).isNone) (fun e => e.1.toNat) E k hk
theorem deadE_len (l : Bytes) (E : List Ent) : (deadE l E).length ≤ E.length := by
  unfold deadE; rw [List.length_map]; exact List.length_filter_le ..
theorem deadL_mem {l : Bytes} {x : Nat} : x ∈ deadL l ↔ ∃ k, k < 40 ∧ hasE (rawE l k) = true ∧ fromW l (k + 1) = none ∧ x = k + 1 := by
  unfold deadL deadE
  simp only [List.mem_map, List.mem_filter, entL_mem]
  constructor
  · rintro ⟨e, ⟨⟨k, h1, h2, rfl⟩, h3⟩, rfl⟩
    have e1 : ((k : Int) + 1).toNat = k + 1 := by omega
    rw [e1] at h3 ⊢
    exact ⟨k, h1, h2, by simpa using h3, rfl⟩
  · rintro ⟨k, h1, h2, h3, rfl⟩
    refine ⟨((k : Int) + 1, rawE l k), ⟨⟨k, h1, h2, rfl⟩, ?_⟩, ?_⟩
    · have e1 : ((k : Int) + 1).toNat = k + 1 := by omega
      dsimp only
      rw [e1, h3]; rfl
    · dsimp only; omega
theorem deadL_nodup (l : Bytes) : (deadL l).Nodup := by
  unfold deadL deadE
  refine List.pairwise_map.2 ?_
  refine List.Pairwise.imp_of_mem ?_ ((entL_nodup l).filter _)
  intro a b ha hb hab e
  obtain ⟨k, h1, h2, rfl⟩ := entL_mem.1 (List.mem_filter.1 ha).1
  obtain ⟨m, h3, h4, rfl⟩ := entL_mem.1 (List.mem_filter.1 hb).1
  dsimp only at e hab
  omega
def sweepT (l : Bytes) (D : List Nat) : Bytes := D.foldl (fun l (x : Nat) => freeL l (x : Int)) l
def sweepL (l : Bytes) : Bytes := sweepT l (deadL l)
theorem sweepT_succ (l : Bytes) (D : List Nat) (k : Nat) (hk : k < D.length) : sweepT l (D.take (k + 1)) = freeL (sweepT l (D.take k)) (D[k] : Int) := by
  unfold sweepT; rw [List.take_succ_eq_append_getElem hk, List.foldl_append]; rfl
/-- an image without some of its objects -/
structure SwpR (l l' : Bytes) (gone : List Nat) : Prop where
  good : Good l'
  len : l'.length = l.length
  ents : ∀ j, j < 40 → rawE l' j = if j + 1 ∈ gone then List.replicate 5 0 else rawE l j
  rots : ∀ i, i < 8 → rawR l' i = rawR l i
  rest : ∀ b m, 288 ≤ b → (l'.drop b).take m = (l.drop b).take m
theorem SwpR.refl {l : Bytes} (hg : Good l) : SwpR l l [] := ⟨hg, rfl, fun j _ => by simp, fun _ _ => rfl, fun _ _ _ => rfl⟩
theorem SwpR.roots {l l' : Bytes} {gone : List Nat} (h : SwpR l l' gone) : rootsL l' = rootsL l := by
  unfold rootsL; exact rootsF_congr _ _ 8 fun j hj => h.rots j hj
theorem has_zero5 : hasE (List.replicate 5 0) = false := rfl
theorem SwpR.has {l l' : Bytes} {gone : List Nat} (h : SwpR l l' gone) {j : Nat} (hj : j < 40) : hasE (rawE l' j) = true ↔ hasE (rawE l j) = true ∧ j + 1 ∉ gone := by
  rw [h.ents j hj]
  split
  · rename_i hm; rw [has_zero5]; simp [hm]
  · rename_i hm; simp [hm]
theorem SwpR.obj {l l' : Bytes} {gone : List Nat} (h : SwpR l l' gone) (hg : Good l) {j : Nat} (hj : j < 40) (hm : j + 1 ∉ gone) : objT l' j = objT l j ∧ objS l' j = objS l j := by
  have he : rawE l' j = rawE l j := by rw [h.ents j hj, if_neg hm]
  refine obj_congr he fun hh => ?_
  have hs := strayE_false (hg.s.fit j hj hh)
  exact h.rest _ _ (by omega)
theorem SwpR.free {l l' : Bytes} {gone : List Nat} (h : SwpR l l' gone) {x : Nat} (h0 : freeE l' (x : Int) = 0) : SwpR l (freeL l' (x : Int)) (gone ++ [x]) := by
  obtain ⟨k, hx, hf⟩ := free_is h.good h0
  obtain rfl : x = k + 1 := by omega
  refine ⟨hf.good h.good, hf.len.trans h.len, fun j hj => ?_, fun i hi => (hf.rots i hi).trans (h.rots i hi), fun b m hb => (hf.rest b m hb).trans (h.rest b m hb)⟩
  rw [hf.ents j hj, h.ents j hj]
  by_cases e : j = k
  · subst e; simp
  · rw [if_neg e]
    have : (j + 1 ∈ gone ++ [k + 1]) ↔ j + 1 ∈ gone := by simp; omega
    simp only [this]
theorem free_zero {l : Bytes} {k : Nat} (hk : k < 40) (hh : hasE (rawE l k) = true) (hr : k + 1 ∉ rootsH l) : freeE l ((k : Int) + 1) = 0 := by
  unfold freeE
  rw [if_neg (by rw [(hE_has hk hh).1]; simp), if_neg]
  intro ha
  obtain ⟨r, hr1, hr2⟩ := List.any_eq_true.1 ha
  have e : (r.2 : Int) = (k : Int) + 1 := by simpa using hr2
  refine hr ?_
  unfold rootsH
  exact List.mem_map.2 ⟨r, hr1, by omega⟩
theorem root_way {l : Bytes} (hg : Good l) {r : Nat} (h : r ∈ rootsH l) : fromW l r = some [r] := by
  obtain ⟨D, hD, -⟩ := fromW_ok hg
  exact hD.roots r h
theorem sweep_at {l : Bytes} (hg : Good l) : ∀ i, i ≤ (deadL l).length → SwpR l (sweepT l ((deadL l).take i)) ((deadL l).take i)
  | 0, _ => by simpa [sweepT] using SwpR.refl hg
  | i + 1, hi => by
    have ih := sweep_at hg i (by omega)
    have hlt : i < (deadL l).length := by omega
    rw [sweepT_succ l _ i hlt, List.take_succ_eq_append_getElem hlt]
    refine ih.free ?_
    obtain ⟨k, h1, h2, h3, h4⟩ := deadL_mem.1 (List.getElem_mem hlt)
    rw [h4]
    show freeE _ ((k + 1 : Nat) : Int) = 0
    rw [show ((k + 1 : Nat) : Int) = (k : Int) + 1 by omega]
    refine free_zero h1 ?_ ?_
    · rw [ih.has h1]
      refine ⟨h2, fun hm => ?_⟩
      rw [← h4] at hm
      have hnd := deadL_nodup l
      rw [← List.take_append_drop i (deadL l)] at hnd
      have := (List.nodup_append.1 hnd).2.2 _ hm (deadL l)[i] (by rw [List.drop_eq_getElem_cons hlt]; exact List.mem_cons_self ..)
      exact this rfl
    · intro hr
      unfold rootsH at hr
      rw [ih.roots] at hr
      have := root_way hg hr
      rw [h3] at this; cases this
theorem sweep_free {l : Bytes} (hg : Good l) {i : Nat} (hi : i < (deadL l).length) : freeE (sweepT l ((deadL l).take i)) ((deadL l)[i] : Int) = 0 := by
  have ih := sweep_at hg i (by omega)
  obtain ⟨k, h1, h2, h3, h4⟩ := deadL_mem.1 (List.getElem_mem hi)
  rw [h4, show ((k + 1 : Nat) : Int) = (k : Int) + 1 by omega]
  refine free_zero h1 ?_ ?_
  · rw [ih.has h1]
    refine ⟨h2, fun hm => ?_⟩
    rw [← h4] at hm
    have hnd := deadL_nodup l
    rw [← List.take_append_drop i (deadL l)] at hnd
    have := (List.nodup_append.1 hnd).2.2 _ hm (deadL l)[i] (by rw [List.drop_eq_getElem_cons hi]; exact List.mem_cons_self ..)
    exact this rfl
  · intro hr
    unfold rootsH at hr
    rw [ih.roots] at hr
    have := root_way hg hr
    rw [h3] at this; cases this
theorem sweep_is {l : Bytes} (hg : Good l) : SwpR l (sweepL l) (deadL l) := by
  have := sweep_at hg _ (Nat.le_refl _)
  rw [List.take_length] at this
  exact this
/-- behind it nobody is dead -/
theorem refsB_congr {l l' : Bytes} (b : Bytes) (h : ∀ c ∈ b, (hE l' (c.toNat : Int) = 0 ↔ hE l (c.toNat : Int) = 0)) : refsB l' b = refsB l b := by
  unfold refsB
  have key : ∀ (b : Bytes) (o : List Nat), (∀ c ∈ b, (hE l' (c.toNat : Int) = 0 ↔ hE l (c.toNat : Int) = 0)) → b.foldl (refB l') o = b.foldl (refB l) o := by
    intro b
    induction b with
    | nil => intro o _; rfl
    | cons c r ih =>
      intro o hb
      rw [List.foldl_cons, List.foldl_cons]
      have e : refB l' o c = refB l o c := by unfold refB; simp only [hb c (List.mem_cons_self ..)]
      rw [e]
      exact ih _ fun d hd => hb d (List.mem_cons_of_mem _ hd)
  exact key b [] h
theorem foldl_refB_sub (l : Bytes) : ∀ (b : Bytes) (o : List Nat) (x : Nat), (x ∈ o ∨ (∃ c ∈ b, x = c.toNat ∧ hE l (c.toNat : Int) = 0)) → x ∈ b.foldl (refB l) o
  | [], o, x, h => by
    rcases h with h | ⟨c, hc, -⟩
    · exact h
    · cases hc
  | d :: r, o, x, h => by
    rw [List.foldl_cons]
    refine foldl_refB_sub l r _ x ?_
    rcases h with h | ⟨c, hc, rfl, h0⟩
    · left; unfold refB; split
      · exact List.mem_append_left _ h
      · exact h
    · rcases List.mem_cons.1 hc with rfl | hc
      · left; unfold refB; split
        · simp
        · rename_i hn
          by_cases hm : c.toNat ∈ o
          · exact hm
          · exact absurd ⟨h0, hm⟩ hn
      · exact .inr ⟨c, hc, rfl, h0⟩
theorem refsB_all {l b : Bytes} {c : UInt8} (hc : c ∈ b) (h0 : hE l (c.toNat : Int) = 0) : c.toNat ∈ refsB l b := foldl_refB_sub l b [] _ (.inr ⟨c, hc, rfl, h0⟩)
theorem SwpR.hE {l l' : Bytes} {gone : List Nat} (h : SwpR l l' gone) {x : Int} (hx : ∀ g ∈ gone, (g : Int) ≠ x) : hE l' x = hE l x ∧ gT l' x = gT l x ∧ gA l' x = gA l x ∧ gL l' x = gL l x := by
  have hx2 : Go.Proofs.YtcahgmnkphmnhaaGreat.hE l' x = Go.Proofs.YtcahgmnkphmnhaaGreat.hE l x ∧ (Go.Proofs.YtcahgmnkphmnhaaGreat.hE l x = 0 → hR l' x = hR l x) := by
    unfold Go.Proofs.YtcahgmnkphmnhaaGreat.hE hR
    by_cases hb : handleB x = false
    · rw [if_pos hb, if_pos hb]; exact ⟨rfl, fun e => by omega⟩
    · rw [if_neg hb, if_neg hb]
      have hb' := handleB_true.1 (by simpa using hb)
      have he : rawE l' (x - 1).toNat = rawE l (x - 1).toNat := by
        rw [h.ents _ (by omega), if_neg]
        intro hm
        exact hx _ hm (by omega)
      rw [he]; exact ⟨rfl, fun _ => rfl⟩
  obtain ⟨e1, e2⟩ := hx2
  unfold gT gA gL
  rw [e1]
  by_cases h0 : Go.Proofs.YtcahgmnkphmnhaaGreat.hE l x = 0
  · rw [e2 h0]; exact ⟨rfl, rfl, rfl, rfl⟩
  · simp [h0]
theorem SwpR.hE_gone {l l' : Bytes} {gone : List Nat} (h : SwpR l l' gone) {x : Nat} (hx : x ∈ gone) : Go.Proofs.YtcahgmnkphmnhaaGreat.hE l' (x : Int) ≠ 0 := by
  intro h0
  obtain ⟨k, hk, e, hh, -⟩ := hE_zero h0
  obtain rfl : x = k + 1 := by omega
  rw [h.ents k hk, if_pos hx, has_zero5] at hh
  cases hh
theorem live_way {l : Bytes} (hg : Good l) {x : Nat} (h : (fromW l x).isSome = true) : x ∉ deadL l ∧ ∀ y ∈ refsL l (x : Int), (fromW l y).isSome = true := by
  obtain ⟨D, hD, hc⟩ := fromW_ok hg
  refine ⟨fun hd => ?_, fun y hy => (hD.dk y).2 (hc x ((hD.dk x).1 h) y hy)⟩
  obtain ⟨k, -, -, h3, rfl⟩ := deadL_mem.1 hd
  rw [h3] at h; cases h
theorem sweep_refs {l : Bytes} (hg : Good l) {x : Nat} (h : (fromW l x).isSome = true) : refsL (sweepL l) (x : Int) = refsL l (x : Int) := by
  have hs := sweep_is hg
  obtain ⟨h1, h2⟩ := live_way hg h
  obtain ⟨e1, e2, e3, e4⟩ := hs.hE (x := (x : Int)) (fun g hm e => h1 (by rw [← show g = x by omega]; exact hm))
  have hro : readL (sweepL l) (x : Int) 0 (min (gL (sweepL l) (x : Int)) (gT (sweepL l) (x : Int))) = readL l (x : Int) 0 (min (gL l (x : Int)) (gT l (x : Int))) := by
    have hse : someE (sweepL l) (x : Int) 0 (min (gL l (x : Int)) (gT l (x : Int))) = someE l (x : Int) 0 (min (gL l (x : Int)) (gT l (x : Int))) := by
      unfold someE; rw [e1, e4]
    unfold readL
    rw [e2, e3, e4, hse]
    by_cases hz : someE l (x : Int) 0 (min (gL l (x : Int)) (gT l (x : Int))) = 0
    · rw [if_pos hz, if_pos hz]
      have := some_in hg hz
      exact hs.rest _ _ (by omega)
    · rw [if_neg hz, if_neg hz]
  unfold refsL
  rw [hro]
  refine refsB_congr _ fun c hc => ?_
  by_cases h0 : hE l (c.toNat : Int) = 0
  · have hm : c.toNat ∈ refsL l (x : Int) := refsB_all hc h0
    have hw := h2 _ hm
    have hnd := (live_way hg hw).1
    rw [(hs.hE (x := (c.toNat : Int)) (fun g hm' e => hnd (by rw [← show g = c.toNat by omega]; exact hm'))).1]
  · refine ⟨fun h' => ?_, fun h' => absurd h' h0⟩
    by_cases hd : c.toNat ∈ deadL l
    · exact absurd h' (hs.hE_gone hd)
    · rw [(hs.hE (x := (c.toNat : Int)) (fun g hm' e => hd (by rw [← show g = c.toNat by omega]; exact hm'))).1] at h'
      exact absurd h' h0
theorem foldl_congr_mem {A B : Type} {f g : B → A → B} : ∀ (L : List A) (b : B), (∀ x ∈ L, ∀ b, f b x = g b x) → L.foldl f b = L.foldl g b
  | [], _, _ => rfl
  | x :: L, b, h => by
    rw [List.foldl_cons, List.foldl_cons, h x (List.mem_cons_self ..)]
    exact foldl_congr_mem L _ fun y hy => h y (List.mem_cons_of_mem _ hy)
/-- the ways only grow -/
theorem lvl_some {l : Bytes} (hg : Good l) (k : Nat) {x : Nat} (h : ((lvlN l k).1 x).isSome = true) (hk : k ≤ 41) : (fromW l x).isSome = true := by
  have key : ∀ m, ((lvlN l (k + m)).1 x).isSome = true := by
    intro m
    induction m with
    | zero => exact h
    | succ m ih =>
      obtain ⟨D, hD, -⟩ := LvOk.at_ hg (k + m)
      obtain ⟨D', hD', -, hs⟩ := hD.next
      exact (hD'.ok.dk x).2 (hs x ((hD.ok.dk x).1 ih))
  have := key (41 - k)
  rwa [show k + (41 - k) = 41 by omega] at this
theorem sweep_lvl {l : Bytes} (hg : Good l) : ∀ k, k ≤ 41 → lvlN (sweepL l) k = lvlN l k
  | 0, _ => by
    have hr : rootsH (sweepL l) = rootsH l := by unfold rootsH; rw [(sweep_is hg).roots]
    unfold lvlN startW; rw [hr]
  | k + 1, hk => by
    show lvl (sweepL l) (lvlN (sweepL l) k) = lvl l (lvlN l k)
    rw [sweep_lvl hg k (by omega)]
    unfold lvl
    refine foldl_congr_mem _ _ fun x hx b => ?_
    obtain ⟨D, hD, -⟩ := LvOk.at_ hg k
    have hw := lvl_some hg k ((hD.ok.dk x).2 (hD.row x hx)) (by omega)
    unfold stepX
    rw [sweep_refs hg hw]
theorem sweep_from {l : Bytes} (hg : Good l) : fromW (sweepL l) = fromW l := by
  unfold fromW; rw [sweep_lvl hg 41 (Nat.le_refl _)]
theorem sweep_dead {l : Bytes} (hg : Good l) : deadL (sweepL l) = [] := by
  refine List.eq_nil_iff_forall_not_mem.2 fun x hx => ?_
  obtain ⟨k, h1, h2, h3, rfl⟩ := deadL_mem.1 hx
  have hs := sweep_is hg
  rw [sweep_from hg] at h3
  have := (hs.has h1).1 h2
  exact this.2 (deadL_mem.2 ⟨k, h1, this.1, h3, rfl⟩)
end Go.Proofs.YtcahgmnkphmnhaaGreat
/- The reference on ways, plain: what is found by asking again and again is the least. -/
namespace Go.Proofs.YtcahgmnkphmnhaaGreat
open Go.RowKit

abbrev WV := Nat → List Nat
def vset (V : WV) (y : Nat) (p : List Nat) : WV := fun q => if q = y then p else V q
def stepV (h : Nat) (s : WV × Bool) (y : Nat) : WV × Bool := if s.1 y = [] ∨ lessW (s.1 h ++ [y]) (s.1 y) = true then (vset s.1 y (s.1 h ++ [y]), true) else s
def stepH (l : Bytes) (s : WV × Bool) (h : Nat) : WV × Bool := if s.1 h = [] then s else (refsL l (h : Int)).foldl (stepV h) s
def passV (l : Bytes) (V : WV) : WV × Bool := ((List.range 40).map (· + 1)).foldl (stepH l) (V, false)
def startV (l : Bytes) : WV := fun q => if q ∈ rootsH l then [q] else []
/-- a way as a number -/
def code : List Nat → Nat
  | [] => 0
  | x :: a => x * 41 ^ a.length + code a
theorem code_lt : ∀ {a : List Nat}, (∀ x ∈ a, x ≤ 40) → code a < 41 ^ a.length
  | [], _ => by simp [code]
  | x :: a, h => by
    have h1 := code_lt (a := a) fun y hy => h y (List.mem_cons_of_mem _ hy)
    have h2 := h x (List.mem_cons_self ..)
    unfold code
    rw [List.length_cons, Nat.pow_succ]
    generalize 41 ^ a.length = P at *
    have : x * P ≤ 40 * P := Nat.mul_le_mul_right P h2
    omega
theorem code_ge {x : Nat} {a : List Nat} (h : 1 ≤ x) : 41 ^ a.length ≤ code (x :: a) := by
  unfold code
  generalize 41 ^ a.length = P at *
  have : 1 * P ≤ x * P := Nat.mul_le_mul_right P h
  omega
theorem code_lex : ∀ {a b : List Nat}, a.length = b.length → (∀ x ∈ a, x ≤ 40) → lexLt a b = true → code a < code b
  | [], [], _, _, h => by simp [lexLt] at h
  | [], _ :: _, h, _, _ => by simp at h
  | _ :: _, [], h, _, _ => by simp at h
  | x :: a, y :: b, h, ha, hl => by
    have h' : a.length = b.length := by simpa using h
    unfold lexLt at hl
    by_cases e : x = y
    · subst e
      rw [if_pos rfl] at hl
      have := code_lex h' (fun z hz => ha z (List.mem_cons_of_mem _ hz)) hl
      unfold code; rw [h']; omega
    · rw [if_neg e] at hl
      have hxy := of_decide_eq_true hl
      have h1 := code_lt (a := a) fun z hz => ha z (List.mem_cons_of_mem _ hz)
      unfold code
      rw [h'] at h1 ⊢
      generalize 41 ^ b.length = P at *
      have : (x + 1) * P ≤ y * P := Nat.mul_le_mul_right P hxy
      rw [Nat.succ_mul] at this
      omega
theorem code_less {a b : List Nat} (ha : ∀ x ∈ a, x ≤ 40) (hb : ∀ x ∈ b, 1 ≤ x) (h : lessW a b = true) : code a < code b := by
  unfold lessW at h
  by_cases e : a.length = b.length
  · rw [if_pos e] at h; exact code_lex e ha h
  · rw [if_neg e] at h
    have hl := of_decide_eq_true h
    cases b with
    | nil => simp at hl
    | cons y b =>
      have h1 := code_lt ha
      have h2 := code_ge (a := b) (hb y (List.mem_cons_self ..))
      have h3 : 41 ^ a.length ≤ 41 ^ b.length := Nat.pow_le_pow_right (by omega) (by simp at hl; omega)
      omega
def phi (p : List Nat) : Nat := if p = [] then 41 ^ 42 else code p
def sumV (V : WV) : Nat → Nat
  | 0 => 0
  | k + 1 => sumV V k + phi (V k)
theorem sumV_upd (V : WV) (y : Nat) (p : List Nat) : ∀ n, sumV (vset V y p) n + (if y < n then phi (V y) else 0) = sumV V n + (if y < n then phi p else 0)
  | 0 => by simp [sumV]
  | n + 1 => by
    have ih := sumV_upd V y p n
    unfold sumV
    by_cases h : y = n
    · subst h
      rw [if_neg (by omega), if_neg (by omega)] at ih
      rw [if_pos (by omega), if_pos (by omega)]
      have : vset V y p y = p := by unfold vset; rw [if_pos rfl]
      rw [this]; omega
    · have : vset V y p n = V n := by unfold vset; rw [if_neg (by omega)]
      rw [this]
      by_cases h2 : y < n
      · rw [if_pos h2, if_pos h2] at ih; rw [if_pos (by omega), if_pos (by omega)]; omega
      · rw [if_neg h2, if_neg h2] at ih; rw [if_neg (by omega), if_neg (by omega)]; omega
def cntV (V : WV) : Nat → Nat
  | 0 => 0
  | k + 1 => cntV V k + (if V k = [] then 0 else 1)
theorem cntV_le (V : WV) : ∀ n, cntV V n ≤ n
  | 0 => Nat.le_refl _
  | n + 1 => by unfold cntV; have := cntV_le V n; split <;> omega
theorem cntV_upd (V : WV) (y : Nat) (p : List Nat) (hp : p ≠ []) : ∀ n, cntV (vset V y p) n = cntV V n + (if y < n ∧ V y = [] then 1 else 0)
  | 0 => by simp [cntV]
  | n + 1 => by
    have ih := cntV_upd V y p hp n
    unfold cntV
    rw [ih]
    by_cases h : y = n
    · subst h
      have : vset V y p y = p := by unfold vset; rw [if_pos rfl]
      rw [this, if_neg hp]
      by_cases hv : V y = [] <;> simp [hv]
    · have : vset V y p n = V n := by unfold vset; rw [if_neg (by omega)]
      rw [this]
      have e : (y < n + 1 ∧ V y = []) ↔ (y < n ∧ V y = []) := ⟨fun h3 => ⟨by omega, h3.2⟩, fun h3 => ⟨by omega, h3.2⟩⟩
      simp only [e]; omega
theorem IsWay.digits {l : Bytes} (hg : Good l) {p : List Nat} {y : Nat} (h : IsWay l p y) : ∀ x ∈ p, 1 ≤ x ∧ x ≤ 40 := by
  induction h with
  | root hr => intro x hx; simp only [List.mem_singleton] at hx; subst hx; exact hE_nat (rootsH_mem hg hr)
  | step _ hy ih =>
    intro x hx
    rcases List.mem_append.1 hx with hx | hx
    · exact ih x hx
    · simp only [List.mem_singleton] at hx; subst hx; exact hE_nat (refsL_mem (y := 0) hy)
structure VOk (l : Bytes) (V : WV) : Prop where
  way : ∀ y, V y ≠ [] → IsWay l (V y) y
  root : ∀ r ∈ rootsH l, V r = [r]
  bd : ∀ y, (V y).length ≤ cntV V 41
theorem VOk.start {l : Bytes} (hg : Good l) : VOk l (startV l) where
  way y h := by
    unfold startV at h ⊢
    split
    · rename_i hr; exact .root hr
    · rename_i hr; rw [if_neg hr] at h; exact absurd rfl h
  root r hr := by unfold startV; rw [if_pos hr]
  bd y := by
    by_cases hr : y ∈ rootsH l
    · have hy := hE_nat (rootsH_mem hg hr)
      have hv : startV l y = [y] := by unfold startV; rw [if_pos hr]
      rw [hv]
      have h0 : vset (startV l) y [y] = startV l := funext fun q => by
        unfold vset; split
        · rename_i e; rw [e, hv]
        · rfl
      have key : ∀ n, y < n → 1 ≤ cntV (startV l) n := by
        intro n hn
        induction n with
        | zero => omega
        | succ n ih =>
          unfold cntV
          by_cases e : y = n
          · subst e; rw [hv]; simp
          · have := ih (by omega); omega
      have := key 41 (by omega)
      simpa using this
    · have hv : startV l y = [] := by unfold startV; rw [if_neg hr]
      rw [hv]; simp
theorem VOk.step {l : Bytes} (hg : Good l) {s : WV × Bool} (h : VOk l s.1) {x y : Nat} (hx : s.1 x ≠ []) (hy : y ∈ refsL l (x : Int)) :
    VOk l (stepV x s y).1 ∧ ((stepV x s y = s ∧ s.1 y ≠ [] ∧ lessW (s.1 x ++ [y]) (s.1 y) = false) ∨ ((stepV x s y).2 = true ∧ sumV (stepV x s y).1 41 < sumV s.1 41)) ∧ (stepV x s y).1 x = s.1 x := by
  have hw := h.way x hx
  have hnw : IsWay l (s.1 x ++ [y]) y := .step hw hy
  have hd := hnw.digits hg
  have hyd := hd y (by simp)
  unfold stepV
  by_cases hc : s.1 y = [] ∨ lessW (s.1 x ++ [y]) (s.1 y) = true
  · rw [if_pos hc]
    have hxy : x ≠ y := fun e => by
      subst e
      rcases hc with hc | hc
      · exact hx hc
      · have := leW_len (leW_of_less hc); simp at this; omega
    have hxk : vset s.1 y (s.1 x ++ [y]) x = s.1 x := by unfold vset; rw [if_neg hxy]
    have hne : s.1 x ++ [y] ≠ [] := by simp
    have hcn := cntV_upd s.1 y (s.1 x ++ [y]) hne 41
    have hsm := sumV_upd s.1 y (s.1 x ++ [y]) 41
    rw [if_pos (by omega), if_pos (by omega)] at hsm
    refine ⟨⟨fun z hz => ?_, fun r hr => ?_, fun z => ?_⟩, .inr ⟨rfl, ?_⟩, hxk⟩
    · show IsWay l (vset s.1 y (s.1 x ++ [y]) z) z
      by_cases e : z = y
      · subst e; unfold vset; rw [if_pos rfl]; exact hnw
      · have e1 : vset s.1 y (s.1 x ++ [y]) z = s.1 z := by unfold vset; rw [if_neg e]
        rw [e1]
        exact h.way z (by rw [← e1]; exact hz)
    · have hr' := h.root r hr
      show vset s.1 y (s.1 x ++ [y]) r = [r]
      by_cases e : r = y
      · exfalso
        subst e
        rw [hr'] at hc
        rcases hc with hc | hc
        · cases hc
        · have h1 := leW_len (leW_of_less hc)
          have h2 := hw.pos
          rw [List.length_append] at h1
          simp only [List.length_cons, List.length_nil] at h1
          omega
      · unfold vset; rw [if_neg e]; exact hr'
    · show (vset s.1 y (s.1 x ++ [y]) z).length ≤ cntV (vset s.1 y (s.1 x ++ [y])) 41
      rw [hcn]
      by_cases e : z = y
      · subst e
        have e1 : vset s.1 z (s.1 x ++ [z]) z = s.1 x ++ [z] := by unfold vset; rw [if_pos rfl]
        rw [e1]
        by_cases hv : s.1 z = []
        · rw [if_pos ⟨by omega, hv⟩]
          have := h.bd x
          simp; omega
        · rcases hc with hc | hc
          · exact absurd hc hv
          · have := leW_len (leW_of_less hc)
            have := h.bd z
            omega
      · have e1 : vset s.1 y (s.1 x ++ [y]) z = s.1 z := by unfold vset; rw [if_neg e]
        rw [e1]
        have := h.bd z
        omega
    · show sumV (vset s.1 y (s.1 x ++ [y])) 41 < sumV s.1 41
      have hph : phi (s.1 x ++ [y]) < phi (s.1 y) := by
        unfold phi
        rw [if_neg hne]
        by_cases hv : s.1 y = []
        · rw [if_pos hv]
          have h1 := code_lt (a := s.1 x ++ [y]) fun z hz => (hd z hz).2
          have h2 : 41 ^ (s.1 x ++ [y]).length ≤ 41 ^ 42 := Nat.pow_le_pow_right (by omega) (by
            have := h.bd x; have := cntV_le s.1 41; simp; omega)
          exact Nat.lt_of_lt_of_le h1 h2
        · rw [if_neg hv]
          rcases hc with hc | hc
          · exact absurd hc hv
          · exact code_less (fun z hz => (hd z hz).2) (fun z hz => ((h.way y hv).digits hg z hz).1) hc
      omega
  · rw [if_neg hc]
    have h1 : s.1 y ≠ [] := fun e => hc (.inl e)
    have h2 : lessW (s.1 x ++ [y]) (s.1 y) = false := by
      cases e : lessW (s.1 x ++ [y]) (s.1 y) with
      | false => rfl
      | true => exact absurd (.inr e) hc
    exact ⟨h, .inl ⟨rfl, h1, h2⟩, rfl⟩
/-- a pass: either nothing has changed and all is closed, or it has, and less is left -/
structure PassR (l : Bytes) (V : WV) (s : WV × Bool) (Q : Prop) : Prop where
  ok : VOk l s.1
  or_ : (s = (V, false) ∧ Q) ∨ (s.2 = true ∧ sumV s.1 41 < sumV V 41)
theorem pass_foldV {l : Bytes} (hg : Good l) {V : WV} {x : Nat} : ∀ (L : List Nat) (s : WV × Bool) (Q : Prop), PassR l V s Q → s.1 x ≠ [] → (∀ y ∈ L, y ∈ refsL l (x : Int)) →
    PassR l V (L.foldl (stepV x) s) (Q ∧ ∀ y ∈ L, V y ≠ [] ∧ lessW (V x ++ [y]) (V y) = false)
  | [], s, Q, h, _, _ => ⟨h.ok, h.or_.imp (fun h => ⟨h.1, h.2, fun y hy => by cases hy⟩) id⟩
  | y :: L, s, Q, h, hx, hL => by
    obtain ⟨h1, h2, h3⟩ := h.ok.step hg hx (hL y (List.mem_cons_self ..))
    have h4 : PassR l V (stepV x s y) (Q ∧ V y ≠ [] ∧ lessW (V x ++ [y]) (V y) = false) := by
      refine ⟨h1, ?_⟩
      rcases h.or_ with ⟨e, hq⟩ | ⟨e, hq⟩
      · rcases h2 with ⟨h2, h5, h6⟩ | ⟨h2, h5⟩
        · left; rw [h2]; subst e; exact ⟨rfl, hq, h5, h6⟩
        · right; subst e; exact ⟨h2, h5⟩
      · rcases h2 with ⟨h2, -, -⟩ | ⟨h2, h5⟩
        · right; rw [h2]; exact ⟨e, hq⟩
        · right; exact ⟨h2, by omega⟩
    have := pass_foldV hg L (stepV x s y) _ h4 (by rw [h3]; exact hx) (fun z hz => hL z (List.mem_cons_of_mem _ hz))
    refine ⟨this.ok, this.or_.imp (fun h => ⟨h.1, h.2.1.1, fun z hz => ?_⟩) id⟩
    rcases List.mem_cons.1 hz with rfl | hz
    · exact h.2.1.2
    · exact h.2.2 z hz
theorem pass_foldH {l : Bytes} (hg : Good l) {V : WV} : ∀ (H : List Nat) (s : WV × Bool) (Q : Prop), PassR l V s Q →
    PassR l V (H.foldl (stepH l) s) (Q ∧ ∀ x ∈ H, V x ≠ [] → ∀ y ∈ refsL l (x : Int), V y ≠ [] ∧ lessW (V x ++ [y]) (V y) = false)
  | [], s, Q, h => ⟨h.ok, h.or_.imp (fun h => ⟨h.1, h.2, fun y hy => by cases hy⟩) id⟩
  | x :: H, s, Q, h => by
    have h4 : PassR l V (stepH l s x) (Q ∧ (V x ≠ [] → ∀ y ∈ refsL l (x : Int), V y ≠ [] ∧ lessW (V x ++ [y]) (V y) = false)) := by
      unfold stepH
      by_cases hx : s.1 x = []
      · rw [if_pos hx]
        refine ⟨h.ok, h.or_.imp (fun h => ⟨h.1, h.2, fun hv => ?_⟩) id⟩
        rw [h.1] at hx; exact absurd hx hv
      · rw [if_neg hx]
        have := pass_foldV hg (refsL l (x : Int)) s Q h hx (fun _ hy => hy)
        exact ⟨this.ok, this.or_.imp (fun h => ⟨h.1, h.2.1, fun _ => h.2.2⟩) id⟩
    have := pass_foldH hg H (stepH l s x) _ h4
    refine ⟨this.ok, this.or_.imp (fun h => ⟨h.1, h.2.1.1, fun z hz => ?_⟩) id⟩
    rcases List.mem_cons.1 hz with rfl | hz
    · exact h.2.1.2
    · exact h.2.2 z hz
theorem pass_is {l : Bytes} (hg : Good l) {V : WV} (h : VOk l V) : VOk l (passV l V).1 ∧ ((passV l V).2 = true → sumV (passV l V).1 41 < sumV V 41) ∧ ((passV l V).2 = false → (passV l V).1 = V ∧ ∀ y, V y = wayOf (fromW l) y) := by
  have hp := pass_foldH hg ((List.range 40).map (· + 1)) (V, false) True ⟨h, .inl ⟨rfl, trivial⟩⟩
  have hpe : passV l V = ((List.range 40).map (· + 1)).foldl (stepH l) (V, false) := rfl
  rw [← hpe] at hp
  refine ⟨hp.ok, fun ht => ?_, fun hf => ?_⟩
  · rcases hp.or_ with ⟨e, -⟩ | ⟨-, e⟩
    · rw [e] at ht; cases ht
    · exact e
  · rcases hp.or_ with ⟨e, -, hc⟩ | ⟨e, -⟩
    · refine ⟨by rw [e], fun y => ?_⟩
      have least : ∀ p y, IsWay l p y → V y ≠ [] ∧ leW (V y) p := fun p y hw => by
        induction hw with
        | root hr => rw [h.root _ hr]; exact ⟨by simp, leW_refl _⟩
        | @step q x y hw' hy ih =>
          have hxd := hw'.digits hg x (by obtain ⟨q', rfl⟩ := hw'.last; simp)
          obtain ⟨h1, h2⟩ := hc x (List.mem_map.2 ⟨x - 1, List.mem_range.2 (by omega), by omega⟩) ih.1 y hy
          exact ⟨h1, leW_trans (show leW (V y) (V x ++ [y]) from h2) (leW_snoc y ih.2)⟩
      by_cases hv : V y = []
      · rw [hv]
        unfold wayOf
        cases e2 : fromW l y with
        | none => rfl
        | some p =>
          exfalso
          obtain ⟨D, hD, -⟩ := fromW_ok hg
          exact (least p y (hD.isWay _ y p (Nat.le_refl _) e2)).1 hv
      · obtain ⟨p', h1, h2, h3⟩ := fromW_least hg (h.way y hv)
        rw [wayOf_some h1]
        exact leW_antisymm (least p' y h3).2 h2
    · rw [e] at hf; cases hf
/-- who is alive, in order -/
def liveL (l : Bytes) : List Nat := ((List.range 40).filter fun k => (fromW l (k + 1)).isSome).map (· + 1)
theorem liveL_up (l : Bytes) : (liveL l).Pairwise (· < ·) := by
  unfold liveL
  refine List.pairwise_map.2 ?_
  exact ((List.pairwise_lt_range (n := 40)).filter _).imp fun h => by omega
theorem way_hE {l : Bytes} (hg : Good l) {k : Nat} (h : (fromW l k).isSome = true) : hE l (k : Int) = 0 := by
  obtain ⟨D, hD, -⟩ := fromW_ok hg
  exact hD.dh k ((hD.dk k).1 h)
theorem liveL_mem {l : Bytes} (hg : Good l) {x : Nat} : x ∈ liveL l ↔ (fromW l x).isSome = true := by
  unfold liveL
  simp only [List.mem_map, List.mem_filter, List.mem_range]
  constructor
  · rintro ⟨k, ⟨-, h⟩, rfl⟩; exact h
  · intro h
    have := hE_nat (way_hE hg h)
    exact ⟨x - 1, ⟨by omega, by rw [show x - 1 + 1 = x by omega]; exact h⟩, by omega⟩
theorem deadL_up (l : Bytes) : (deadL l).Pairwise (· < ·) := by
  unfold deadL deadE
  refine List.pairwise_map.2 ?_
  have hp : (entriesL l).Pairwise (fun a b => a.1 < b.1) := by
    unfold entriesL entsL
    refine List.pairwise_map.2 ?_
    exact ((List.pairwise_lt_range (n := 40)).filter _).imp fun h => by dsimp only; omega
  refine List.Pairwise.imp_of_mem ?_ (hp.filter _)
  intro a b ha hb hab
  obtain ⟨k, h1, h2, rfl⟩ := entL_mem.1 (List.mem_filter.1 ha).1
  obtain ⟨m, h3, h4, rfl⟩ := entL_mem.1 (List.mem_filter.1 hb).1
  dsimp only at hab ⊢
  omega
end Go.Proofs.YtcahgmnkphmnhaaGreat
/- Where a name's root lies, and the first that is free: root.place. -/
namespace Go.Proofs.YtcahgmnkphmnhaaGreat
open Go.RowKit

/-- after j rounds, from the last root down: where the name lies, which root is free (-1: nowhere) -/
def placeF (l s : Bytes) : Nat → Int × Int
  | 0 => (-1, -1)
  | j + 1 => if zeroE (rawR l (7 - j)) = true then ((placeF l s j).1, ((7 - j : Nat) : Int)) else if nmR (rawR l (7 - j)) = s then (((7 - j : Nat) : Int), (placeF l s j).2) else placeF l s j
theorem Good.got {l : Bytes} (h : Good l) {i : Nat} (hi : i < 8) (hz : zeroE (rawR l i) = false) : gotName ((rawR l i).take 8) = true := by
  have := h.s.root i hi hz
  unfold badR at this
  simp only [Bool.or_eq_false_iff] at this
  simpa using this.1.1.1
theorem placeF_spec (l s : Bytes) : ∀ j, j ≤ 8 →
    (((placeF l s j).1 = -1 ∧ ∀ i, 8 - j ≤ i → i < 8 → zeroE (rawR l i) = false → nmR (rawR l i) ≠ s) ∨ (∃ i : Nat, 8 - j ≤ i ∧ i < 8 ∧ (placeF l s j).1 = i ∧ zeroE (rawR l i) = false ∧ nmR (rawR l i) = s ∧ ∀ q, 8 - j ≤ q → q < i → zeroE (rawR l q) = false → nmR (rawR l q) ≠ s)) ∧
    (((placeF l s j).2 = -1 ∧ ∀ i, 8 - j ≤ i → i < 8 → zeroE (rawR l i) = false) ∨ (∃ i : Nat, 8 - j ≤ i ∧ i < 8 ∧ (placeF l s j).2 = i ∧ zeroE (rawR l i) = true ∧ ∀ q, 8 - j ≤ q → q < i → zeroE (rawR l q) = false))
  | 0, _ => ⟨.inl ⟨rfl, fun i h1 h2 => by omega⟩, .inl ⟨rfl, fun i h1 h2 => by omega⟩⟩
  | j + 1, hj => by
    obtain ⟨h1, h2⟩ := placeF_spec l s j (by omega)
    have hcut : ∀ i, 8 - (j + 1) ≤ i → i < 8 → i = 7 - j ∨ 8 - j ≤ i := fun i _ _ => by omega
    cases hz : zeroE (rawR l (7 - j)) with
    | true =>
      have e : placeF l s (j + 1) = ((placeF l s j).1, ((7 - j : Nat) : Int)) := by rw [placeF, if_pos hz]
      rw [e]
      refine ⟨?_, .inr ⟨7 - j, by omega, by omega, rfl, hz, fun q q1 q2 => by omega⟩⟩
      rcases h1 with ⟨a, b⟩ | ⟨i, a, b, c, d, f, g⟩
      · refine .inl ⟨a, fun i i1 i2 i3 => ?_⟩
        rcases hcut i i1 i2 with rfl | hi
        · rw [hz] at i3; cases i3
        · exact b i hi i2 i3
      · refine .inr ⟨i, by omega, b, c, d, f, fun q q1 q2 q3 => ?_⟩
        rcases hcut q q1 (by omega) with rfl | hq
        · rw [hz] at q3; cases q3
        · exact g q hq q2 q3
    | false =>
      have hfree : ∀ v : Int × Int, v.2 = (placeF l s j).2 → ((v.2 = -1 ∧ ∀ i, 8 - (j + 1) ≤ i → i < 8 → zeroE (rawR l i) = false) ∨ (∃ i : Nat, 8 - (j + 1) ≤ i ∧ i < 8 ∧ v.2 = i ∧ zeroE (rawR l i) = true ∧ ∀ q, 8 - (j + 1) ≤ q → q < i → zeroE (rawR l q) = false)) := fun v hv => by
        rw [hv]
        rcases h2 with ⟨a, b⟩ | ⟨i, a, b, c, d, f⟩
        · refine .inl ⟨a, fun i i1 i2 => ?_⟩
          rcases hcut i i1 i2 with rfl | hi
          · exact hz
          · exact b i hi i2
        · refine .inr ⟨i, by omega, b, c, d, fun q q1 q2 => ?_⟩
          rcases hcut q q1 (by omega) with rfl | hq
          · exact hz
          · exact f q hq q2
      by_cases hn : nmR (rawR l (7 - j)) = s
      · have e : placeF l s (j + 1) = (((7 - j : Nat) : Int), (placeF l s j).2) := by rw [placeF, if_neg (by rw [hz]; decide), if_pos hn]
        rw [e]
        exact ⟨.inr ⟨7 - j, by omega, by omega, rfl, hz, hn, fun q q1 q2 => by omega⟩, hfree _ rfl⟩
      · have e : placeF l s (j + 1) = placeF l s j := by rw [placeF, if_neg (by rw [hz]; decide), if_neg hn]
        rw [e]
        refine ⟨?_, hfree _ rfl⟩
        rcases h1 with ⟨a, b⟩ | ⟨i, a, b, c, d, f, g⟩
        · refine .inl ⟨a, fun i i1 i2 i3 => ?_⟩
          rcases hcut i i1 i2 with rfl | hi
          · exact hn
          · exact b i hi i2 i3
        · refine .inr ⟨i, by omega, b, c, d, f, fun q q1 q2 q3 => ?_⟩
          rcases hcut q q1 (by omega) with rfl | hq
          · exact hn
          · exact g q hq q2 q3
section
variable {w0 w : World} {F : Nat → Prop} {h : Nat} {l : Bytes}
set_option maxRecDepth 100000 in
set_option maxHeartbeats 2000000 in
theorem place_any (s : Bytes) (hp : Hp w0 w F h l) (hg : Good l) :
    Calls Tryz.prog 61 #[.pointer (some ⟨h, 0, none⟩), sv s] w fun e w' => e = .returned (.tuple #[.int .i64 (placeF l s 8).1, .int .i64 (placeF l s 8).2]) ∧ Below w.heap.size w w' := by
  have hb := rightB_true.1 hp.len
  have HC := Hidden.mk (hbytes_ok _ _ F h l hp)
  have HLEN : Hidden (∀ k : Nat, k < 8 → (rawR l k).length = 11) := ⟨fun k hk => rawR_len l k hk (by omega)⟩
  have HGOT : Hidden (∀ k : Nat, k < 8 → zeroE (rawR l k) = false → gotName ((rawR l k).take 8) = true) := ⟨fun k hk hz => hg.got hk hz⟩
  have HCUT : Hidden (∀ (W : World) g cap, Row W 5 g cap l → ∀ k, k < 8 → Rd W (some ⟨g, 0 + (200 + 11 * k), none⟩) (rawR l k)) := ⟨fun W g cap hr k hk => by
    have hx := rawR_rd hr.rd k hk (by omega)
    rw [Option.map_some, Addr.add_lit] at hx
    exact hx⟩
  have HNX : Hidden (∀ j, placeF l s (j + 1) = if zeroE (rawR l (7 - j)) = true then ((placeF l s j).1, ((7 - j : Nat) : Int)) else if nmR (rawR l (7 - j)) = s then (((7 - j : Nat) : Int), (placeF l s j).2) else placeF l s j) := ⟨fun j => by rw [placeF]⟩
  have HZ : Hidden (placeF l s 0 = (-1, -1)) := ⟨rfl⟩
  generalize placeF l s = P at *
  clear hp hg
  go_enter Tryz.func61, Tryz.ntmps61
  go_wp2_with fail
  refine HC.out.mono ?_
  rintro e w1 ⟨g, cap, rfl, hg1, hrow, hb1⟩
  have HROW := Hidden.mk hrow
  have HB1 := Hidden.mk hb1
  have hcap := hrow.le.1
  clear hg1 hrow hb1 HC
  go_wp2_with fail
  go_loopg [4, 5, 7] 8 (fun q a f i wr => ∃ j : Nat, j ≤ 8 ∧ q = 8 - j ∧ i = .int .i64 (7 - (j : Int)) ∧ a = .int .i64 (P j).1 ∧ f = .int .i64 (P j).2 ∧ Hidden (Below w1.heap.size w1 wr))
  case atStart => exact ⟨0, by omega, rfl, rfl, by rw [HZ.out], by rw [HZ.out], ⟨Below.refl _ _⟩⟩
  case round =>
    obtain ⟨j, hj, rfl, rfl, rfl, rfl, hst⟩ := hrel
    by_cases hlt : j < 8
    · obtain ⟨i, hi⟩ : ∃ i : Nat, i = 7 - j := ⟨_, rfl⟩
      have hii : (7 - (j : Int)) = (i : Int) := by omega
      have HNJ := Hidden.mk (HNX.out j)
      have s1 : IntKind.i64.wrap ((i : Int) - 1) = (i : Int) - 1 := IntWalk.i64_in _ (by omega)
      have t0 : decide (0 ≤ (i : Int)) = true := by simp
      have hi8 : i < 8 := by omega
      rw [hii]
      rw [← hi] at HNJ
      have hrw := HCUT.out wr g cap (HROW.out.block (hst.out.block _ HROW.out.lt)) i hi8
      have HLK := Hidden.mk (HLEN.out i hi8)
      have HGK := Hidden.mk (HGOT.out i hi8)
      generalize rawR l i = r at *
      have HI := Hidden.mk hi
      clear hi hii
      go_wp2_with fail
      refine (rawRoot_any (some ⟨g, 0, none⟩) l.length cap (i : Int) _ (by omega) (by omega) (by omega) hcap).mono ?_
      rintro e w2 ⟨rfl, rfl⟩
      rw [rootO_k, Option.map_some, Addr.add_lit]
      generalize hcc : cap - (200 + 11 * i) = cc at *
      have hc8 : 8 ≤ cc := by omega
      generalize 0 + (200 + 11 * i) = oo at *
      clear hcc
      go_wp2_with fail
      refine (izero_any _ 11 _ r _ HLK.out (by simp [maxLen]) hrw).mono ?_
      rintro e w3 ⟨rfl, rfl⟩
      cases hz : zeroE r with
      | true =>
        have HPJ := Hidden.mk (show P (j + 1) = ((P j).1, (i : Int)) by rw [HNJ.out, if_pos hz])
        clear HNJ hz HGK hrw
        go_wp2_with fail
        go_roundg (8 - (j + 1))
        case measure => omega
        case rel => exact ⟨j + 1, by omega, rfl, by rw [show (7 - ((j + 1 : Nat) : Int)) = (i : Int) - 1 by have := HI.out; omega], by rw [HPJ.out], by rw [HPJ.out], hst⟩
      | false =>
        have HPJ := Hidden.mk (show P (j + 1) = if nmR r = s then ((i : Int), (P j).2) else P j by rw [HNJ.out, if_neg (by rw [hz]; decide)])
        have hgn := HGK.out hz
        have HGN := Hidden.mk (getName_any (some ⟨g, oo, none⟩) cc (r.take 8) wr (by simp [HLK.out]) hc8 (hrw.take 8 (by rw [HLK.out]; omega)))
        rw [if_pos hgn] at HGN
        rw [show nameAt (r.take 8) = nmR r from rfl] at HGN
        clear HNJ hz HGK hgn hrw HLK
        generalize nmR r = nm at *
        go_wp2_with fail
        refine HGN.out.mono ?_
        rintro e w4 ⟨rfl, hb4⟩
        have HB4 := Hidden.mk (hst.out.trans (hb4.mono hst.out.size))
        clear hb4 hst HGN
        by_cases hn : nm = s
        · have d1 : (nm == s) = true := by simpa using hn
          have HPJ := Hidden.mk (show P (j + 1) = ((i : Int), (P j).2) by rw [HPJ.out, if_pos hn])
          clear hn
          go_wp2_with fail
          go_roundg (8 - (j + 1))
          case measure => omega
          case rel => exact ⟨j + 1, by omega, rfl, by rw [show (7 - ((j + 1 : Nat) : Int)) = (i : Int) - 1 by have := HI.out; omega], by rw [HPJ.out], by rw [HPJ.out], HB4⟩
        · have d1 : (nm == s) = false := by simpa using hn
          have HPJ := Hidden.mk (show P (j + 1) = P j by rw [HPJ.out, if_neg hn])
          clear hn
          go_wp2_with fail
          go_roundg (8 - (j + 1))
          case measure => omega
          case rel => exact ⟨j + 1, by omega, rfl, by rw [show (7 - ((j + 1 : Nat) : Int)) = (i : Int) - 1 by have := HI.out; omega], by rw [HPJ.out], by rw [HPJ.out], HB4⟩
    · obtain rfl : j = 8 := by omega
      have t0 : decide ((0 : Int) ≤ 7 - ((8 : Nat) : Int)) = false := by decide
      have HE := Hidden.mk (HB1.out.trans (hst.out.mono HB1.out.size))
      clear hst
      go_wp2_with fail
      go_ret2
      exact ⟨rfl, HE.out⟩
end
end Go.Proofs.YtcahgmnkphmnhaaGreat
/- root.Set, of a right name and an object that is there. -/
namespace Go.Proofs.YtcahgmnkphmnhaaGreat
open Go.RowKit

/-- where a name's root is set: its own place, else the first that is free -/
def setAt (l s : Bytes) : Int := if (placeF l s 8).1 < 0 then (placeF l s 8).2 else (placeF l s 8).1
section
variable {w0 w : World} {F : Nat → Prop} {h : Nat} {l : Bytes}
set_option maxRecDepth 100000 in
theorem rset_full (s : Bytes) (x : Int) (hp : Hp w0 w F h l) (hg : Good l) (hn : isName s = true) (hx : hE l x = 0) (ha : setAt l s < 0) :
    Calls Tryz.prog 17 #[.pointer (some ⟨h, 0, none⟩), sv s, .int .i64 x] w fun e w' => e = .returned (.tuple #[.bool false, .iface 88 (.int .i64 4)]) ∧ Below w.heap.size w w' := by
  have HP := Hidden.mk hp
  have HG := Hidden.mk hg
  have HX := Hidden.mk hx
  have HC := Hidden.mk (putName_ok s w hn)
  have h1 : (placeF l s 8).1 < 0 := by
    unfold setAt at ha
    by_cases h : (placeF l s 8).1 < 0
    · exact h
    · rw [if_neg h] at ha; exact absurd ha h
  have h2 : (placeF l s 8).2 < 0 := by
    unfold setAt at ha
    rw [if_pos h1] at ha; exact ha
  have HPL : Hidden (∀ W, Below w.heap.size w W → Calls Tryz.prog 61 #[.pointer (some ⟨h, 0, none⟩), sv s] W fun e w' => e = .returned (.tuple #[.int .i64 (placeF l s 8).1, .int .i64 (placeF l s 8).2]) ∧ Below W.heap.size W w') := ⟨fun W hW => place_any s (hp.below hW) hg⟩
  generalize (placeF l s 8).1 = p1 at *
  generalize (placeF l s 8).2 = p2 at *
  have d1 : decide (p1 < 0) = true := by simpa using h1
  have d2 : decide (p2 < 0) = true := by simpa using h2
  clear hp hg hn hx ha h1 h2
  go_enter Tryz.func17, Tryz.ntmps17
  go_wp2_with fail
  refine HC.out.mono ?_
  rintro e w1 ⟨gn, rfl, -, -, hb1⟩
  have HB1 := Hidden.mk hb1
  have HT := Hidden.mk (htag_any x (HP.out.below hb1))
  rw [HX.out, show errV 0 = Value.nilIface from rfl] at HT
  clear hb1 HC
  go_wp2_with fail
  refine HT.out.mono ?_
  rintro e w2 ⟨rfl, hb2⟩
  have HB2 := Hidden.mk (HB1.out.trans (hb2.mono HB1.out.size))
  clear hb2 HT HB1
  go_wp2_with fail
  refine (HPL.out w2 HB2.out).mono ?_
  rintro e w3 ⟨rfl, hb3⟩
  have HB3 := Hidden.mk (HB2.out.trans (hb3.mono HB2.out.size))
  clear hb3 HPL HB2
  go_wp2_with fail
  go_ret2
  exact ⟨rfl, HB3.out⟩
set_option maxRecDepth 100000 in
theorem rset_ok (s : Bytes) (x : Int) (i : Nat) (hp : Hp w0 w F h l) (hg : Good l) (hn : isName s = true) (hx : hE l x = 0) (hi : i < 8) (ha : setAt l s = i) :
    Calls Tryz.prog 17 #[.pointer (some ⟨h, 0, none⟩), sv s, .int .i64 x] w fun e w' => e = .returned (.tuple #[.bool (decide ((placeF l s 8).1 < 0)), .nilIface]) ∧ ∃ F', HpM w0 w w' F F' h (splice l (200 + 11 * i) (putRo s x)) := by
  have HP := Hidden.mk hp
  have HX := Hidden.mk hx
  have HC := Hidden.mk (putName_ok s w hn)
  have hhb : handleB x = true := by
    unfold hE at hx
    cases hb : handleB x with
    | true => rfl
    | false => rw [hb] at hx; simp at hx
  have HPR : Hidden (∀ W, Below w.heap.size w W → Calls Tryz.prog 62 #[.pointer (some ⟨h, 0, none⟩), .int .i64 (i : Int), .agg #[sv s, .int .i64 x]] W fun e w' => e = .returned .nilIface ∧ ∃ F', HpM w0 W w' F F' h (splice l (200 + 11 * i) (putRo s x))) := ⟨fun W hW => hroot_ok i s x (hp.below hW) hi (.inr ⟨hhb, hn⟩)⟩
  have HPL : Hidden (∀ W, Below w.heap.size w W → Calls Tryz.prog 61 #[.pointer (some ⟨h, 0, none⟩), sv s] W fun e w' => e = .returned (.tuple #[.int .i64 (placeF l s 8).1, .int .i64 (placeF l s 8).2]) ∧ Below W.heap.size W w') := ⟨fun W hW => place_any s (hp.below hW) hg⟩
  unfold setAt at ha
  generalize splice l (200 + 11 * i) (putRo s x) = l' at *
  generalize (placeF l s 8).1 = p1 at *
  generalize (placeF l s 8).2 = p2 at *
  have d3 : decide ((i : Int) < 0) = false := by simp
  clear hp hg hn hhb
  by_cases h1 : p1 < 0
  · have d1 : decide (p1 < 0) = true := by simpa using h1
    rw [if_pos h1] at ha
    subst ha
    clear hx hi h1
    go_enter Tryz.func17, Tryz.ntmps17
    go_wp2_with fail
    refine HC.out.mono ?_
    rintro e w1 ⟨gn, rfl, -, -, hb1⟩
    have HB1 := Hidden.mk hb1
    have HT := Hidden.mk (htag_any x (HP.out.below hb1))
    rw [HX.out, show errV 0 = Value.nilIface from rfl] at HT
    clear hb1 HC
    go_wp2_with fail
    refine HT.out.mono ?_
    rintro e w2 ⟨rfl, hb2⟩
    have HB2 := Hidden.mk (HB1.out.trans (hb2.mono HB1.out.size))
    clear hb2 HT HB1
    go_wp2_with fail
    refine (HPL.out w2 HB2.out).mono ?_
    rintro e w3 ⟨rfl, hb3⟩
    have HB3 := Hidden.mk (HB2.out.trans (hb3.mono HB2.out.size))
    clear hb3 HPL HB2
    go_wp2_with fail
    refine (HPR.out w3 HB3.out).mono ?_
    rintro e w4 ⟨rfl, F', hm⟩
    have HF := Hidden.mk ((HP.out.same HB3.out).trans hm)
    clear hm HPR HB3
    go_wp2_with fail
    go_ret2
    exact ⟨by rw [d1]; rfl, F', HF.out⟩
  · have d1 : decide (p1 < 0) = false := by simpa using h1
    rw [if_neg h1] at ha
    subst ha
    clear hx hi h1
    go_enter Tryz.func17, Tryz.ntmps17
    go_wp2_with fail
    refine HC.out.mono ?_
    rintro e w1 ⟨gn, rfl, -, -, hb1⟩
    have HB1 := Hidden.mk hb1
    have HT := Hidden.mk (htag_any x (HP.out.below hb1))
    rw [HX.out, show errV 0 = Value.nilIface from rfl] at HT
    clear hb1 HC
    go_wp2_with fail
    refine HT.out.mono ?_
    rintro e w2 ⟨rfl, hb2⟩
    have HB2 := Hidden.mk (HB1.out.trans (hb2.mono HB1.out.size))
    clear hb2 HT HB1
    go_wp2_with fail
    refine (HPL.out w2 HB2.out).mono ?_
    rintro e w3 ⟨rfl, hb3⟩
    have HB3 := Hidden.mk (HB2.out.trans (hb3.mono HB2.out.size))
    clear hb3 HPL HB2
    go_wp2_with fail
    refine (HPR.out w3 HB3.out).mono ?_
    rintro e w4 ⟨rfl, F', hm⟩
    have HF := Hidden.mk ((HP.out.same HB3.out).trans hm)
    clear hm HPR HB3
    go_wp2_with fail
    go_ret2
    exact ⟨by rw [d3]; rfl, F', HF.out⟩
end
end Go.Proofs.YtcahgmnkphmnhaaGreat
/- What comes in: the program's own slices, opened. -/
namespace Go.Proofs.YtcahgmnkphmnhaaGreat
open Go.RowKit Go.ChangeShapes Go.WideShapes Go.ChangeAt

section
variable {H : Type} {enc : TypeId × Value → H} {w : World} {v : Value} {d : DataW H} {ps : List MemPlace} {base : Nat} {r : Reach}
set_option maxRecDepth 20000 in
/-- entries that came in -/
theorem open_entries (hv : Value.okWide Tryz.prog w r base 124 v) (h : DataW.Trod enc Tryz.prog w 0 (fun _ => true) true 124 v d ps) (hz : (d.weights Tryz.prog 124).all (· ≤ reachBytes) = true) :
    ∃ (A : Option Addr) (c : Nat) (L : List EntX), v = .slice A L.length c ∧ L.length ≤ c ∧ c ≤ 140737488351232 ∧ (∀ x ∈ L, EntOk w x) ∧ RdX xcells 4 w A L := by
  have hb : decide (1 ≤ Tryz.prog.bytesOf 97) = true := by kernel_rfl
  have hC : Tryz.prog.cellsOf 97 = 4 := by kernel_rfl
  refine open_seq (P := Tryz.prog) xcells 4 EntOk Tryz.underlying124 hC (by omega) (of_decide_eq_true hb) (fun n cs x hl ht _ => ?_) hv h hz
  match cs, hl with
  | [c0, c1, c2, c3], _ =>
    obtain ⟨xs, n, _, hx, _, hlen, hg⟩ := DataW.trod_struct Tryz.underlying97 ht
    match xs, hlen with
    | [y0, y1, y2], _ =>
      have k0 : Tryz.prog.cellsOf 3 = 1 := by kernel_rfl
      have k1 : Tryz.prog.cellsOf 95 = 2 := by kernel_rfl
      have t0 : DataW.trod enc Tryz.prog w 0 (fun _ => true) true n 3 [c0] = some y0 := by simpa [k0] using hg 0 _ rfl
      have t1 : DataW.trod enc Tryz.prog w 0 (fun _ => true) true n 95 [c1, c2] = some y1 := by simpa [k1] using hg 1 _ rfl
      have t2 : DataW.trod enc Tryz.prog w 0 (fun _ => true) true n 3 [c3] = some y2 := by simpa [k0] using hg 2 _ rfl
      obtain ⟨ys, n', _, hx', _, hlen', hg'⟩ := DataW.trod_struct Tryz.underlying95 t1
      match ys, hlen' with
      | [z0, z1], _ =>
        have u0 : DataW.trod enc Tryz.prog w 0 (fun _ => true) true n' 3 [c1] = some z0 := by simpa [k0] using hg' 0 _ rfl
        have u1 : DataW.trod enc Tryz.prog w 0 (fun _ => true) true n' 3 [c2] = some z1 := by simpa [k0] using hg' 1 _ rfl
        obtain ⟨a, ha, -, wa⟩ := DataW.trod_int Tryz.underlying3 t0
        obtain ⟨b, hb', -, wb⟩ := DataW.trod_int Tryz.underlying3 u0
        obtain ⟨c, hc, -, wc⟩ := DataW.trod_int Tryz.underlying3 u1
        obtain ⟨e, he, -, we⟩ := DataW.trod_int Tryz.underlying3 t2
        simp only [List.cons.injEq, and_true] at ha hb' hc he
        subst ha hb' hc he
        exact ⟨⟨a, b, c, e⟩, rfl, wf_i64' wa, wf_i64' wb, wf_i64' wc, wf_i64' we⟩
set_option maxRecDepth 20000 in
/-- roots that came in -/
theorem open_roots (hv : Value.okWide Tryz.prog w r base 62 v) (h : DataW.Trod enc Tryz.prog w 0 (fun _ => true) true 62 v d ps) (hz : (d.weights Tryz.prog 62).all (· ≤ reachBytes) = true) :
    ∃ (A : Option Addr) (c : Nat) (L : List RotX), v = .slice A L.length c ∧ L.length ≤ c ∧ c ≤ 140737488351232 ∧ (∀ x ∈ L, RotOk w x) ∧ RdX ycells 2 w A L := by
  have hb : decide (1 ≤ Tryz.prog.bytesOf 67) = true := by kernel_rfl
  have hC : Tryz.prog.cellsOf 67 = 2 := by kernel_rfl
  refine open_seq (P := Tryz.prog) ycells 2 RotOk Tryz.underlying62 hC (by omega) (of_decide_eq_true hb) (fun n cs x hl ht hz => ?_) hv h hz
  obtain ⟨v0, v1, y0, y1, m, rfl, t0, t1, z0, z1⟩ := open_two Tryz.underlying67 ⟨rfl, by kernel_rfl⟩ ⟨rfl, by kernel_rfl⟩ hl ht hz
  obtain ⟨s, ha, hy, -⟩ := DataW.trod_string Tryz.underlying9 t0
  obtain ⟨b, hb', -, wb⟩ := DataW.trod_int Tryz.underlying3 t1
  simp only [List.cons.injEq, and_true] at ha hb'
  subst ha hb' hy
  have h2 := of_decide_eq_true (List.all_eq_true.1 z0 s.data.toList.length (by simp [DataW.weights]))
  have h3 : reachBytes = 140737488351232 := by decide
  exact ⟨⟨s.data.toList, b⟩, rfl, by simp only at *; omega, wf_i64' wb⟩
end
end Go.Proofs.YtcahgmnkphmnhaaGreat
/- ImageBack: what the walk leans on. -/
namespace Go.Proofs.YtcahgmnkphmnhaaGreat
open Go.RowKit

theorem iget_t (A : Option Addr) (n c : Nat) (l : Bytes) (k : Nat) (w : World) (hn : l.length = n) (hr : rightB n = true) (hnc : n ≤ c) (hrd : Rd w A l) (hk : k < 40) (hE : hasE (rawE l k) = true) :
    Calls Tryz.prog 49 #[.slice A n c, .int .i64 ((k : Int) + 1)] w fun e w' => e = .returned (.tuple #[.agg #[.int .i64 ((k : Int) + 1), .int .i64 (rAt (rawE l k)), .int .i64 (rLen (rawE l k)), .int .i64 (rTag (rawE l k))], .nilIface]) ∧ Below w.heap.size w w' :=
  (iget_ok A n c l k w hn hr hnc hrd hk).mono fun _ _ h => ⟨h.1 hE, h.2.2⟩
theorem iget_f (A : Option Addr) (n c : Nat) (l : Bytes) (k : Nat) (w : World) (hn : l.length = n) (hr : rightB n = true) (hnc : n ≤ c) (hrd : Rd w A l) (hk : k < 40) (hE : hasE (rawE l k) = false) :
    Calls Tryz.prog 49 #[.slice A n c, .int .i64 ((k : Int) + 1)] w fun e w' => e = .returned (.tuple #[.agg #[.int .i64 0, .int .i64 0, .int .i64 0, .int .i64 0], .iface 88 (.int .i64 5)]) ∧ Below w.heap.size w w' :=
  (iget_ok A n c l k w hn hr hnc hrd hk).mono fun _ _ h => ⟨h.2.1 hE, h.2.2⟩
theorem below_four {w w' : World} {a b c d : Value} {t : TypeId} (hb : Below (w.alloc (.cells #[a, b, c, d] t)).heap.size (w.alloc (.cells #[a, b, c, d] t)) w') :
    w'.cell? ⟨w.heap.size, 0, none⟩ = some a ∧ w'.cell? ⟨w.heap.size, 1, none⟩ = some b ∧ w'.cell? ⟨w.heap.size, 2, none⟩ = some c ∧ w'.cell? ⟨w.heap.size, 3, none⟩ = some d := by
  have h := (hb.block w.heap.size (by simp)).trans (heap_alloc_new w (.cells #[a, b, c, d] t))
  refine ⟨?_, ?_, ?_, ?_⟩ <;> simp [World.cell?, h]
/-- the image that the law has come to -/
structure ImB (w wr : World) (n gb cap : Nat) (lb : Bytes) (i : Nat) : Prop where
  row : Row wr 5 gb cap lb
  len : lb.length = n
  no : NoRoots lb i
  bel : Below w.heap.size w wr
theorem ImB.below {w wr w' : World} {n gb cap i : Nat} {lb : Bytes} (h : ImB w wr n gb cap lb i) (hb : Below wr.heap.size wr w') : ImB w w' n gb cap lb i :=
  ⟨h.row.below hb h.row.lt, h.len, h.no, h.bel.trans (hb.mono h.bel.size)⟩
theorem ImB.up {w wr : World} {n gb cap i : Nat} {lb : Bytes} (h : ImB w wr n gb cap lb i) : ImB w wr n gb cap lb (i + 1) :=
  ⟨h.row, h.len, fun j h1 h2 => h.no j (by omega) h2, h.bel⟩
theorem noRoots_new (n : Nat) (hn : 288 ≤ n) : NoRoots (List.replicate n 0) 0 := fun j _ hj => by
  unfold rawR
  rw [List.drop_replicate, List.take_replicate]
  congr 1; omega
theorem ent_back (l : Bytes) (kk : Nat) (a b t : Int) (hk : kk < 40) (hl : 200 ≤ l.length) (ha : 0 ≤ a ∧ a < 65536) (hb : 0 ≤ b ∧ b < 65536) (ht : 0 ≤ t ∧ t ≤ 15) :
    putEnt l ((kk : Int) + 1) a b t = splice l (5 * kk) (entB a.toNat b.toNat t.toNat) ∧ hasE (rawE (putEnt l ((kk : Int) + 1) a b t) kk) = true ∧ (rAt (rawE (putEnt l ((kk : Int) + 1) a b t) kk) : Int) = a ∧ (rLen (rawE (putEnt l ((kk : Int) + 1) a b t) kk) : Int) = b ∧ rTag (rawE (putEnt l ((kk : Int) + 1) a b t) kk) = t := by
  have hp : putEnt l ((kk : Int) + 1) a b t = splice l (5 * kk) (entB a.toNat b.toNat t.toNat) := by unfold putEnt; rw [entO_k]
  have hr : rawE (putEnt l ((kk : Int) + 1) a b t) kk = entB a.toNat b.toNat t.toNat := by rw [hp, rawE_splice _ _ _ _ (entB_len _ _ _) hk hk hl, if_pos rfl]
  obtain ⟨h1, h2, h3, h4⟩ := entB_rd a.toNat b.toNat t.toNat (by omega) (by omega) (by omega)
  rw [hr]
  exact ⟨hp, h1, by rw [h2]; omega, by rw [h3]; omega, by rw [h4]; omega⟩
theorem rootB_zero (s : Bytes) (h : Int) (hh : handleB h = true) : zeroE (rootB s h) = false := by
  have hb := handleB_true.1 hh
  have hd : (UInt8.ofNat h.toNat).toNat = h.toNat := by rw [UInt8.toNat_ofNat', Nat.mod_eq_of_lt (by omega)]
  unfold zeroE
  rw [Bool.not_eq_false', List.any_eq_true]
  refine ⟨UInt8.ofNat h.toNat, by simp [rootB], ?_⟩
  unfold nonZero
  rw [bne_iff_ne]
  intro e
  rw [e] at hd
  simp at hd
  omega
theorem rootB_P (s : Bytes) (h : Int) (hh : handleB h = true) (hnm : isName s = true) : rootP (rootB s h) = (s, h.toNat) := by
  have hb := handleB_true.1 hh
  have hd : (UInt8.ofNat h.toNat).toNat = h.toNat := by rw [UInt8.toNat_ofNat', Nat.mod_eq_of_lt (by omega)]
  have h8 := nameB_len s hnm
  obtain ⟨h1, h2⟩ := nameB_back s hnm
  have ht : (rootB s h).take 8 = nameB s := by unfold rootB; rw [List.take_append_of_le_length (by omega), List.take_of_length_le (by omega)]
  have h3 : nmR (rootB s h) = s := by unfold nmR; rw [ht]; exact h2
  unfold rootP
  rw [ht, if_pos h1, h3]
  congr 1
  unfold rootB
  rw [List.getD_eq_getElem?_getD, List.getElem?_append_right (by omega), h8]
  exact hd
theorem rootB_len (s : Bytes) (h : Int) (hnm : isName s = true) : (rootB s h).length = 11 := by unfold rootB; simp [nameB_len s hnm]
theorem root_back (gb n c : Nat) (l : Bytes) (i : Nat) (s : Bytes) (h : Int) (w : World) (hs : s.length ≤ 140737488351232) (hn : l.length = n) (hnc : n ≤ c) (hrd : Rd w (some ⟨gb, 0, none⟩) l) (hr : rightB n = true) (hi : i < 8) (hz : NoRoots l i) :
    Calls Tryz.prog 100 #[.slice (some ⟨gb, 0, none⟩) n c, .int .i64 (i : Int), rootV s h] w fun e w' => (∃ x, e = .returned (.tuple #[.slice none 0 0, .iface 88 (.int .i64 x)]) ∧ Below w.heap.size w w') ∨
      (∃ g cp lc, e = .returned (.tuple #[.slice (some ⟨g, 0, none⟩) n cp, .nilIface]) ∧ n ≤ cp ∧ Row w' 5 g cp lc ∧ lc.length = n ∧ NoRoots lc (i + 1) ∧ Below w.heap.size w w' ∧
        ((s.isEmpty = true ∧ rootsL lc = rootsL l) ∨ (s.isEmpty = false ∧ rootsL lc = rootsL l ++ [(s, h.toNat)] ∧ (h.toNat : Int) = h))) := by
  have hnb := rightB_true.1 hr
  have hsp : ∀ X : Bytes, X.length = 11 → (splice l (rootO (i : Int)) X).length = n := fun X hX => by rw [rootO_k, splice_len _ _ _ (by omega)]; exact hn
  by_cases h0 : s = [] ∧ h = 0
  · obtain ⟨rfl, rfl⟩ := h0
    refine (root_zero (some ⟨gb, 0, none⟩) n c l i w hn hnc hrd hr (by omega) (by omega)).mono ?_
    rintro e w' ⟨g, cap, he, hg, hrow, hb⟩
    have h1 := roots_put l (List.replicate 11 0) i (by simp) hi (by omega) hz
    have h2 := hsp (List.replicate 11 0) (by simp)
    rw [zeros_zero, if_pos rfl, List.append_nil] at h1
    rw [rootO_k] at hrow h2
    exact .inr ⟨g, cap, _, he, by have := hrow.le.1; omega, hrow, h2, h1.2, hb, .inl ⟨rfl, h1.1⟩⟩
  cases hh : handleB h with
  | false => exact (root_e1h _ n c i s h w hr (by omega) (by omega) h0 hh).mono fun e w' he => .inl ⟨1, he⟩
  | true =>
    cases hnm : isName s with
    | false => exact (root_e2 _ n c i s h w hs hr (by omega) (by omega) hh hnm).mono fun e w' he => .inl ⟨2, he⟩
    | true =>
      refine (root_ok _ n c l i s h w hn hrd hr (by omega) (by omega) hh hnm).mono ?_
      rintro e w' ⟨g, cap, he, hg, hrow, hb⟩
      have hb' := handleB_true.1 hh
      have h11 := rootB_len s h hnm
      have h1 := roots_put l (rootB s h) i h11 hi (by omega) hz
      have h2 := hsp (rootB s h) h11
      rw [rootB_zero s h hh, rootB_P s h hh hnm, if_neg (by simp)] at h1
      rw [rootO_k] at hrow h2
      have hse : s.isEmpty = false := by
        cases s with
        | nil => cases hnm
        | cons x r => rfl
      exact .inr ⟨g, cap, _, he, by have := hrow.le.1; omega, hrow, h2, h1.2, hb, .inr ⟨hse, h1.1, by omega⟩⟩
theorem flatMap_at {X : Type} (f : X → List Value) (C : Nat) (hC : ∀ x, (f x).length = C) : ∀ (L : List X) (i : Nat) (h : i < L.length) (q : Nat), q < C → (L.flatMap f)[i * C + q]? = (f L[i])[q]?
  | [], i, h, _, _ => absurd h (by simp)
  | x :: r, 0, _, q, hq => by
    rw [List.flatMap_cons, Nat.zero_mul, Nat.zero_add, List.getElem?_append_left (by rw [hC]; exact hq)]; rfl
  | x :: r, i + 1, h, q, hq => by
    have hx := hC x
    rw [List.flatMap_cons, List.getElem?_append_right (by rw [hx, Nat.succ_mul]; omega), hx, show (i + 1) * C + q - C = i * C + q by rw [Nat.succ_mul]; omega]
    exact flatMap_at f C hC r i (by simpa using h) q hq
theorem own_rdX {X : Type} {f : X → List Value} {C : Nat} {w : World} {base : Nat} {e : TypeId} {v : Value} {L : List X} (hC : ∀ x, (f x).length = C) (h : w.ownsRow base e C v L.length (L.flatMap f)) : ∃ A c, v = .slice A L.length c ∧ L.length ≤ c ∧ RdX f C w A L := by
  rcases h.2 with ⟨rfl, h0⟩ | ⟨g, cap, cur, rfl, _, hh, hc, hm, hz, ht⟩
  · exact ⟨none, 0, by rw [h0], by omega, fun i hi => by omega⟩
  · refine ⟨_, cap, rfl, hc, fun i hi => ⟨g, 0, rfl, fun q u hq => ?_⟩⟩
    have hqC : q < C := by rw [← hC L[i]]; exact (List.getElem?_eq_some_iff.1 hq).1
    have := h.cells (g := g) rfl (i * C + q) u (by rw [flatMap_at f C hC L i hi q hqC]; exact hq)
    rw [Addr.add_lit] at this
    rw [Nat.add_assoc]
    exact this
theorem rcells_len (x : Bytes × Nat) : (rcells x).length = 2 := rfl
end Go.Proofs.YtcahgmnkphmnhaaGreat
/- Roots that are set and unset, plainly: where names lead then. No walk here. -/
namespace Go.Proofs.YtcahgmnkphmnhaaGreat
open Go.RowKit

theorem leadR_mem {L : List (Bytes × Nat)} {s : Bytes} {r : Bytes × Nat} (hr : r ∈ L) (hs : r.1 = s) (hu : ∀ x ∈ L, x.1 = s → x.2 = r.2) : leadR L s = r.2 := by
  unfold leadR
  cases hf : L.find? (fun r => r.1 == s) with
  | none =>
    have := List.find?_eq_none.1 hf r hr
    simp [hs] at this
  | some x =>
    have h1 := List.find?_some hf
    have h2 := List.mem_of_find?_eq_some hf
    exact hu x h2 (by simpa using h1)
theorem mem_rootsF {S : Nat → Bytes} {m : Nat} {x : Bytes × Nat} : x ∈ rootsF S m ↔ ∃ i, i < m ∧ zeroE (S i) = false ∧ rootP (S i) = x := by
  unfold rootsF
  simp only [List.mem_map, List.mem_filter, List.mem_range, Bool.not_eq_true']
  constructor
  · rintro ⟨i, ⟨h1, h2⟩, h3⟩; exact ⟨i, h1, h2, h3⟩
  · rintro ⟨i, h1, h2, h3⟩; exact ⟨i, ⟨h1, h2⟩, h3⟩
theorem good_rootP {l : Bytes} (hg : Good l) {i : Nat} (hi : i < 8) (hz : zeroE (rawR l i) = false) : rootP (rawR l i) = (nmR (rawR l i), ((rawR l i).getD 10 0).toNat) := by
  unfold rootP; rw [if_pos (hg.got hi hz)]
/-- where a name leads, by the place of its root -/
theorem lead_at {l s : Bytes} (hg : Good l) {i : Nat} (hi : i < 8) (hz : zeroE (rawR l i) = false) (hs : nmR (rawR l i) = s) : leadR (rootsL l) s = ((rawR l i).getD 10 0).toNat := by
  have hm : rootP (rawR l i) ∈ rootsL l := mem_rootsF.2 ⟨i, hi, hz, rfl⟩
  rw [good_rootP hg hi hz] at hm
  refine leadR_mem hm hs fun x hx he => ?_
  obtain ⟨j, hj, hzj, rfl⟩ := mem_rootsF.1 hx
  rw [good_rootP hg hj hzj] at he ⊢
  dsimp only at he ⊢
  by_cases h : j = i
  · rw [h]
  · exfalso
    rcases Nat.lt_or_gt_of_ne h with h | h
    · exact hg.s.name i hi j h hz hzj (hs.trans he.symm)
    · exact hg.s.name j hj i h hzj hz (he.trans hs.symm)
theorem lead_no {l s : Bytes} (hg : Good l) (h : ∀ i, i < 8 → zeroE (rawR l i) = false → nmR (rawR l i) ≠ s) : leadR (rootsL l) s = 0 :=
  leadR_none fun x hx => by
    obtain ⟨j, hj, hzj, rfl⟩ := mem_rootsF.1 hx
    rw [good_rootP hg hj hzj]
    simpa using h j hj hzj
theorem count_upd (p : Nat → Bool) (i : Nat) (b : Bool) : ∀ n, ((List.range n).filter (fun j => if j = i then b else p j)).length + (if i < n ∧ p i = true then 1 else 0) = ((List.range n).filter p).length + (if i < n ∧ b = true then 1 else 0)
  | 0 => by simp
  | n + 1 => by
    have ih := count_upd p i b n
    rw [List.range_succ, List.filter_append, List.filter_append, List.length_append, List.length_append]
    by_cases h : n = i
    · subst h
      have h1 : ((List.range n).filter (fun j => if j = n then b else p j)) = (List.range n).filter p := List.filter_congr fun j hj => by
        rw [if_neg (by have := List.mem_range.1 hj; omega)]
      rw [h1]
      cases hb : b <;> cases hp : p n <;> simp [hp]
    · have e1 : (i < n + 1 ∧ p i = true) ↔ (i < n ∧ p i = true) := by constructor <;> rintro ⟨a, b⟩ <;> exact ⟨by omega, b⟩
      have e2 : (i < n + 1 ∧ b = true) ↔ (i < n ∧ b = true) := by constructor <;> rintro ⟨a, b⟩ <;> exact ⟨by omega, b⟩
      simp only [e1, e2]
      have e3 : ((List.filter (fun j => if j = i then b else p j) [n]).length) = (List.filter p [n]).length := by
        simp only [List.filter_cons, List.filter_nil, if_neg h]
      omega
/-- l' has x in the place of the root i; nothing else is another -/
structure PutsR (l l' : Bytes) (i : Nat) (x : Bytes) : Prop where
  i8 : i < 8
  x11 : x.length = 11
  eq : l' = splice l (200 + 11 * i) x
section
variable {l l' x : Bytes} {i : Nat}
theorem PutsR.len (h : PutsR l l' i x) (hb : 288 ≤ l.length) : l'.length = l.length := by rw [h.eq]; exact splice_len _ _ _ (by have := h.i8; have := h.x11; omega)
theorem PutsR.ents (h : PutsR l l' i x) (hb : 288 ≤ l.length) (j : Nat) (hj : j < 40) : rawE l' j = rawE l j := by rw [h.eq]; exact rawE_root l _ i j h.x11 h.i8 hj hb
theorem PutsR.rots (h : PutsR l l' i x) (hb : 288 ≤ l.length) (j : Nat) (hj : j < 8) : rawR l' j = if j = i then x else rawR l j := by rw [h.eq]; exact rawR_splice l _ i j h.x11 h.i8 hj hb
theorem same_ents {l l' : Bytes} (h : ∀ j, j < 40 → rawE l' j = rawE l j) (y : Int) : hE l' y = hE l y ∧ gT l' y = gT l y ∧ gA l' y = gA l y ∧ gL l' y = gL l y := by
  have hx : hE l' y = hE l y ∧ (hE l y = 0 → hR l' y = hR l y) := by
    unfold hE hR
    by_cases hb : handleB y = false
    · rw [if_pos hb, if_pos hb]; exact ⟨rfl, fun h => by cases h⟩
    · have := handleB_true.1 (show handleB y = true by
        cases hx : handleB y with
        | true => rfl
        | false => exact absurd hx hb)
      rw [if_neg hb, if_neg hb, h (y - 1).toNat (by omega)]
      exact ⟨rfl, fun _ => rfl⟩
  unfold gT gL gA
  rw [hx.1]
  by_cases h0 : hE l y = 0
  · rw [if_pos h0, if_pos h0, if_pos h0, if_pos h0, if_pos h0, if_pos h0, hx.2 h0]; exact ⟨rfl, rfl, rfl, rfl⟩
  · rw [if_neg h0, if_neg h0, if_neg h0, if_neg h0, if_neg h0, if_neg h0]; exact ⟨rfl, rfl, rfl, rfl⟩
theorem PutsR.same (h : PutsR l l' i x) (hb : 288 ≤ l.length) (y : Int) : hE l' y = hE l y ∧ gT l' y = gT l y ∧ gA l' y = gA l y ∧ gL l' y = gL l y := same_ents (h.ents hb) y
theorem goodS_ents {n : Nat} {R R' S : Nat → Bytes} (g : GoodS n R S) (h : ∀ j, j < 40 → R' j = R j) : GoodS n R' S where
  none j hj hh := by rw [h j hj] at hh ⊢; exact g.none j hj hh
  fit j hj hh := by rw [h j hj] at hh ⊢; exact g.fit j hj hh
  apart i hi j hj hh hh' := by rw [h i hi] at hh ⊢; rw [h j (by omega)] at hh' ⊢; exact g.apart i hi j hj hh hh'
  root i hi hz := badR_mono (g.root i hi hz) fun hl => by
    obtain ⟨j, hj, hh, hx⟩ := leadsS_iff.1 hl
    exact leadsS_iff.2 ⟨j, hj, by rw [h j hj]; exact hh, hx⟩
  name := g.name
theorem PutsR.good (h : PutsR l l' i x) (hg : Good l) (hx : zeroE x = true ∨ (badR (leadsS (rawE l)) x = false ∧ ∀ j, j < 8 → j ≠ i → zeroE (rawR l j) = false → nmR x ≠ nmR (rawR l j))) : Good l' := by
  have hb := hg.bd.1
  refine good_iff.2 ⟨by rw [h.len hb]; exact hg.len, ?_⟩
  rw [h.len hb]
  exact goodS_ents (hg.s.putR i x (h.rots hb) hx) (h.ents hb)
theorem PutsR.count (h : PutsR l l' i x) (hb : 288 ≤ l.length) : (rootsL l').length + (if zeroE (rawR l i) = false then 1 else 0) = (rootsL l).length + (if zeroE x = false then 1 else 0) := by
  have hc := count_upd (fun j => !zeroE (rawR l j)) i (!zeroE x) 8
  have e : (List.range 8).filter (fun j => !zeroE (rawR l' j)) = (List.range 8).filter (fun j => if j = i then !zeroE x else !zeroE (rawR l j)) := List.filter_congr fun j hj => by
    rw [h.rots hb j (List.mem_range.1 hj)]; split <;> rfl
  unfold rootsL rootsF
  rw [List.length_map, List.length_map, e]
  have hi := h.i8
  cases h1 : zeroE (rawR l i) <;> cases h2 : zeroE x <;> simp [h1, h2, hi] at hc ⊢ <;> omega
end
theorem putRo_zero : putRo [] 0 = List.replicate 11 0 := by decide
theorem rootB_facts (s : Bytes) (y : Int) (hh : handleB y = true) (hnm : isName s = true) : zeroE (rootB s y) = false ∧ nmR (rootB s y) = s ∧ (rootB s y).length = 11 ∧ ((rootB s y).getD 10 0).toNat = y.toNat ∧ gotName ((rootB s y).take 8) = true ∧ (rootB s y).getD 8 0 = 0 ∧ (rootB s y).getD 9 0 = 0 := by
  have hb := handleB_true.1 hh
  have h8 := nameB_len s hnm
  obtain ⟨h1, h2⟩ := nameB_back s hnm
  have ht : (rootB s y).take 8 = nameB s := by unfold rootB; rw [List.take_append_of_le_length (by omega), List.take_of_length_le (by omega)]
  have hd : (UInt8.ofNat y.toNat).toNat = y.toNat := by rw [UInt8.toNat_ofNat', Nat.mod_eq_of_lt (by omega)]
  refine ⟨rootB_zero s y hh, by unfold nmR; rw [ht]; exact h2, rootB_len s y hnm, ?_, by rw [ht]; exact h1, ?_, ?_⟩
  · unfold rootB
    rw [List.getD_eq_getElem?_getD, List.getElem?_append_right (by omega), h8]
    exact hd
  · unfold rootB
    rw [List.getD_eq_getElem?_getD, List.getElem?_append_right (by omega), h8]
    rfl
  · unfold rootB
    rw [List.getD_eq_getElem?_getD, List.getElem?_append_right (by omega), h8]
    rfl
theorem putRo_name (s : Bytes) (y : Int) (hh : handleB y = true) : putRo s y = rootB s y := by
  have hb := handleB_true.1 hh
  unfold putRo
  rw [if_neg (by simp; omega)]
theorem hE_handle {l : Bytes} {y : Int} (h : hE l y = 0) : handleB y = true := by
  obtain ⟨k, hk, rfl, -, -⟩ := hE_zero h
  exact handleB_true.2 (by omega)
/-- what is said of a name that is set -/
structure SetIs (l l' s : Bytes) (y : Int) : Prop where
  good : Good l'
  same : ∀ z, hE l' z = hE l z ∧ gT l' z = gT l z ∧ gA l' z = gA l z ∧ gL l' z = gL l z
  lead : (leadR (rootsL l') s : Int) = y
  rest : ∀ t, t ≠ s → leadR (rootsL l') t = leadR (rootsL l) t
  count : (rootsL l').length = (rootsL l).length + (if (placeF l s 8).1 < 0 then 1 else 0)
  own : ∃ r ∈ rootsL l', (r.2 : Int) = y
  puts : ∃ i, PutsR l l' i (rootB s y)
theorem set_is {l s : Bytes} {y : Int} {i : Nat} (hg : Good l) (hn : isName s = true) (hy : hE l y = 0) (hi : i < 8) (ha : setAt l s = i) : SetIs l (splice l (200 + 11 * i) (rootB s y)) s y := by
  have hb := hg.bd.1
  have hh := hE_handle hy
  have hyb := handleB_true.1 hh
  have hyn : ((y.toNat : Nat) : Int) = y := Int.toNat_of_nonneg (by omega)
  obtain ⟨f1, f2, f3, f4, f5, f6, f7⟩ := rootB_facts s y hh hn
  have hP : PutsR l (splice l (200 + 11 * i) (rootB s y)) i (rootB s y) := ⟨hi, f3, rfl⟩
  obtain ⟨p1, p2⟩ := placeF_spec l s 8 (Nat.le_refl _)
  have hno : ∀ j, j < 8 → j ≠ i → zeroE (rawR l j) = false → nmR (rawR l j) ≠ s := fun j hj hne hz => by
    rcases p1 with ⟨a, b⟩ | ⟨q, _, b, c, d, e, _⟩
    · exact b j (by omega) hj hz
    · unfold setAt at ha
      rw [if_neg (by omega), c] at ha
      obtain rfl : q = i := by omega
      intro hs
      rcases Nat.lt_or_gt_of_ne hne with h | h
      · exact hg.s.name q b j h d hz (e.trans hs.symm)
      · exact hg.s.name j hj q h hz d (hs.trans e.symm)
  have hz : zeroE (rawR l i) = decide ((placeF l s 8).1 < 0) := by
    rcases p1 with ⟨a, b⟩ | ⟨q, _, b, c, d, e, _⟩
    · unfold setAt at ha
      rw [if_pos (by omega)] at ha
      rcases p2 with ⟨a2, b2⟩ | ⟨q, _, b2, c2, d2, e2⟩
      · omega
      · obtain rfl : q = i := by omega
        rw [d2, a]; rfl
    · unfold setAt at ha
      rw [if_neg (by omega), c] at ha
      obtain rfl : q = i := by omega
      rw [d, c]; simp
  have hG : Good (splice l (200 + 11 * i) (rootB s y)) := hP.good hg (.inr ⟨by
    unfold badR
    rw [f5, f6, f7]
    have : leadsS (rawE l) ((rootB s y).getD 10 0) = true := by
      obtain ⟨k, hk, rfl, hk1, -⟩ := hE_zero hy
      exact leadsS_iff.2 ⟨k, hk, hk1, by rw [f4]; omega⟩
    rw [this]; rfl, fun j hj hne hz => by rw [f2]; exact (hno j hj hne hz).symm⟩)
  have hr := hP.rots hb
  have hLs : leadR (rootsL (splice l (200 + 11 * i) (rootB s y))) s = y.toNat := by
    have := lead_at hG (s := s) hi (by rw [hr i hi, if_pos rfl]; exact f1) (by rw [hr i hi, if_pos rfl]; exact f2)
    rw [hr i hi, if_pos rfl, f4] at this
    exact this
  refine ⟨hG, hP.same hb, by rw [hLs]; exact hyn, fun t ht => ?_, ?_, ?_, i, hP⟩
  · by_cases hex : ∃ j, j < 8 ∧ zeroE (rawR l j) = false ∧ nmR (rawR l j) = t
    · obtain ⟨j, hj, hzj, hnj⟩ := hex
      have hne : j ≠ i := fun e => by
        subst e
        rw [hz] at hzj
        have h1 : ¬ (placeF l s 8).1 < 0 := by simpa using hzj
        rcases p1 with ⟨a, b⟩ | ⟨q, _, b, c, d, e, _⟩
        · omega
        · unfold setAt at ha
          rw [if_neg h1, c] at ha
          obtain rfl : q = j := by omega
          exact ht (hnj.symm.trans e)
      rw [lead_at hg hj hzj hnj, lead_at hG hj (by rw [hr j hj, if_neg hne]; exact hzj) (by rw [hr j hj, if_neg hne]; exact hnj), hr j hj, if_neg hne]
    · rw [lead_no hg (fun j hj hzj hnj => hex ⟨j, hj, hzj, hnj⟩), lead_no hG (fun j hj hzj hnj => ?_)]
      rw [hr j hj] at hzj hnj
      by_cases e : j = i
      · rw [if_pos e, f2] at hnj; exact ht hnj.symm
      · rw [if_neg e] at hzj hnj; exact hex ⟨j, hj, hzj, hnj⟩
  · have hc := hP.count hb
    rw [f1, hz] at hc
    by_cases h0 : (placeF l s 8).1 < 0
    · simp [h0] at hc ⊢; omega
    · simp [h0] at hc ⊢; omega
  · refine ⟨rootP (rootB s y), mem_rootsF.2 ⟨i, hi, by rw [hr i hi, if_pos rfl]; exact f1, by rw [hr i hi, if_pos rfl]⟩, ?_⟩
    rw [rootB_P s y hh hn]
    exact hyn
/-- a name that was set lies at its own place then -/
theorem SetIs.place {l l' s : Bytes} {y : Int} (h : SetIs l l' s y) (hg : Good l) (hn : isName s = true) (hy : hE l y = 0) : ∃ i : Nat, i < 8 ∧ (placeF l' s 8).1 = i ∧ zeroE (rawR l' i) = false ∧ nmR (rawR l' i) = s := by
  obtain ⟨i, hP⟩ := h.puts
  obtain ⟨f1, f2, -⟩ := rootB_facts s y (hE_handle hy) hn
  have hr := hP.rots hg.bd.1 i hP.i8
  rw [if_pos rfl] at hr
  obtain ⟨p1, -⟩ := placeF_spec l' s 8 (Nat.le_refl _)
  rcases p1 with ⟨a, b⟩ | ⟨q, _, b, c, d, e, _⟩
  · exact absurd (by rw [hr]; exact f2) (b i (by have := hP.i8; omega) hP.i8 (by rw [hr]; exact f1))
  · exact ⟨q, b, c, d, e⟩
/-- unset -/
theorem unset_is {l s : Bytes} {i : Nat} (hg : Good l) (hi : i < 8) (hz : zeroE (rawR l i) = false) (hs : nmR (rawR l i) = s) : Good (splice l (200 + 11 * i) (List.replicate 11 0)) ∧ leadR (rootsL (splice l (200 + 11 * i) (List.replicate 11 0))) s = 0 ∧ (placeF (splice l (200 + 11 * i) (List.replicate 11 0)) s 8).1 = -1 := by
  have hP : PutsR l (splice l (200 + 11 * i) (List.replicate 11 0)) i (List.replicate 11 0) := ⟨hi, by simp, rfl⟩
  have hG := hP.good hg (.inl (zeros_zero 11))
  have hr := hP.rots hg.bd.1
  have hno : ∀ j, j < 8 → zeroE (rawR (splice l (200 + 11 * i) (List.replicate 11 0)) j) = false → nmR (rawR (splice l (200 + 11 * i) (List.replicate 11 0)) j) ≠ s := fun j hj hzj hnj => by
    rw [hr j hj] at hzj hnj
    by_cases e : j = i
    · rw [if_pos e, zeros_zero] at hzj; cases hzj
    · rw [if_neg e] at hzj hnj
      rcases Nat.lt_or_gt_of_ne e with h | h
      · exact hg.s.name i hi j h hz hzj (hs.trans hnj.symm)
      · exact hg.s.name j hj i h hzj hz (hnj.trans hs.symm)
  refine ⟨hG, lead_no hG hno, ?_⟩
  obtain ⟨p1, -⟩ := placeF_spec (splice l (200 + 11 * i) (List.replicate 11 0)) s 8 (Nat.le_refl _)
  rcases p1 with ⟨a, _⟩ | ⟨q, _, b, c, d, e, _⟩
  · exact a
  · exact absurd e (hno q b d)
end Go.Proofs.YtcahgmnkphmnhaaGreat
/- root.Set of whatever, and root.Unset. -/
namespace Go.Proofs.YtcahgmnkphmnhaaGreat
open Go.RowKit

/-- the fault of Set; the image behind it -/
def setE (l s : Bytes) (x : Int) : Nat := if isName s = false then 2 else if hE l x ≠ 0 then hE l x else if setAt l s < 0 then 4 else 0
def setL (l s : Bytes) (x : Int) : Bytes := if setE l s x = 0 then splice l (200 + 11 * (setAt l s).toNat) (rootB s x) else l
def unE (l s : Bytes) : Nat := if isName s = false then 2 else if (placeF l s 8).1 < 0 then 5 else 0
def unL (l s : Bytes) : Bytes := if unE l s = 0 then splice l (200 + 11 * (placeF l s 8).1.toNat) (List.replicate 11 0) else l
theorem setAt_lt (l s : Bytes) : -1 ≤ setAt l s ∧ setAt l s < 8 := by
  obtain ⟨p1, p2⟩ := placeF_spec l s 8 (Nat.le_refl _)
  unfold setAt
  split
  · rcases p2 with ⟨a, _⟩ | ⟨q, _, b, c, _⟩ <;> omega
  · rcases p1 with ⟨a, _⟩ | ⟨q, _, b, c, _⟩ <;> omega
theorem setE_ok {l s : Bytes} {x : Int} (h : setE l s x = 0) : isName s = true ∧ hE l x = 0 ∧ ∃ i : Nat, i < 8 ∧ setAt l s = i ∧ setL l s x = splice l (200 + 11 * i) (rootB s x) := by
  have h' := h
  unfold setE at h
  cases hn : isName s with
  | false => rw [hn] at h; simp at h
  | true =>
    rw [hn] at h
    by_cases h0 : hE l x = 0
    · by_cases h1 : setAt l s < 0
      · simp [h0, h1] at h
      · have := setAt_lt l s
        refine ⟨rfl, h0, (setAt l s).toNat, by omega, by omega, ?_⟩
        unfold setL; rw [if_pos h']
    · simp [h0] at h
theorem setE_is {l s : Bytes} {x : Int} (hg : Good l) (h : setE l s x = 0) : SetIs l (setL l s x) s x := by
  obtain ⟨h1, h2, i, h3, h4, h5⟩ := setE_ok h
  rw [h5]; exact set_is hg h1 h2 h3 h4
theorem unL_good {l s : Bytes} (hg : Good l) : Good (unL l s) := by
  unfold unL
  split
  · rename_i h
    obtain ⟨p1, p2⟩ := placeF_spec l s 8 (Nat.le_refl _)
    rcases p1 with ⟨a, _⟩ | ⟨q, _, b, c, d, e, _⟩
    · unfold unE at h; rw [if_pos (by omega : (placeF l s 8).1 < 0)] at h; split at h <;> simp at h
    · rw [c, Int.toNat_natCast]; exact (unset_is hg b d e).1
  · exact hg
section
variable {w0 w : World} {F : Nat → Prop} {h : Nat} {l : Bytes}
set_option maxRecDepth 100000 in
theorem rset_any (s : Bytes) (x : Int) (hp : Hp w0 w F h l) (hg : Good l) (hs : s.length ≤ 140737488351232) :
    Calls Tryz.prog 17 #[.pointer (some ⟨h, 0, none⟩), sv s, .int .i64 x] w fun e w' => e = .returned (.tuple #[.bool (decide (setE l s x = 0 ∧ (placeF l s 8).1 < 0)), errV (setE l s x)]) ∧ ∃ F', HpM w0 w w' F F' h (setL l s x) := by
  cases hn : isName s with
  | false =>
    have he : setE l s x = 2 := by unfold setE; rw [if_pos hn]
    have hL : setL l s x = l := by unfold setL; rw [he]; rfl
    rw [he, hL]
    rw [show decide ((2 : Nat) = 0 ∧ (placeF l s 8).1 < 0) = false from by simp]
    have HP := Hidden.mk hp
    have HC := Hidden.mk (putName_no s w hs hn)
    clear hp hg he hL hn
    go_enter Tryz.func17, Tryz.ntmps17
    go_wp2_with fail
    refine HC.out.mono ?_
    rintro e w2 ⟨rfl, hb2⟩
    have HB := Hidden.mk (HP.out.same hb2)
    clear hb2 HC
    go_wp2_with fail
    go_ret2
    exact ⟨rfl, F, HB.out⟩
  | true =>
    by_cases hx : hE l x = 0
    · have hA := setAt_lt l s
      by_cases ha : setAt l s < 0
      · have he : setE l s x = 4 := by unfold setE; rw [if_neg (by rw [hn]; decide), if_neg (by omega), if_pos ha]
        have hL : setL l s x = l := by unfold setL; rw [he]; rfl
        rw [he, hL]
        rw [show decide ((4 : Nat) = 0 ∧ (placeF l s 8).1 < 0) = false from by simp]
        refine (rset_full s x hp hg hn hx ha).mono ?_
        rintro e w' ⟨rfl, hb⟩
        exact ⟨rfl, F, hp.same hb⟩
      · have he : setE l s x = 0 := by unfold setE; rw [if_neg (by rw [hn]; decide), if_neg (by omega), if_neg ha]
        obtain ⟨_, _, i, hi, hai, hL⟩ := setE_ok he
        rw [he, hL]
        refine (rset_ok s x i hp hg hn hx hi hai).mono ?_
        rintro e w' ⟨rfl, F', hm⟩
        rw [putRo_name s x (hE_handle hx)] at hm
        refine ⟨?_, F', hm⟩
        rw [show decide ((0 : Nat) = 0 ∧ (placeF l s 8).1 < 0) = decide ((placeF l s 8).1 < 0) from by simp]
        rfl
    · have he : setE l s x = hE l x := by unfold setE; rw [if_neg (by rw [hn]; decide), if_pos hx]
      have hL : setL l s x = l := by unfold setL; rw [he, if_neg hx]
      have hev : errV (hE l x) = .iface 88 (.int .i64 (hE l x : Int)) := by unfold errV; rw [if_neg hx]
      rw [he, hL]
      rw [show decide (hE l x = 0 ∧ (placeF l s 8).1 < 0) = false from by simp [hx]]
      have HP := Hidden.mk hp
      have HC := Hidden.mk (putName_ok s w hn)
      have HT : Hidden (∀ W, Below w.heap.size w W → Calls Tryz.prog 60 #[.pointer (some ⟨h, 0, none⟩), .int .i64 x] W fun e w' => e = .returned (.tuple #[.int .i64 (gT l x), .iface 88 (.int .i64 (hE l x : Int))]) ∧ Below W.heap.size W w') := ⟨fun W hW => by rw [← hev]; exact htag_any x (hp.below hW)⟩
      rw [hev]
      generalize gT l x = gt at *
      generalize (hE l x : Int) = q at *
      clear hp hg he hL hn hx hev
      go_enter Tryz.func17, Tryz.ntmps17
      go_wp2_with fail
      refine HC.out.mono ?_
      rintro e w1 ⟨gn, rfl, -, -, hb1⟩
      have HB1 := Hidden.mk hb1
      clear hb1 HC
      go_wp2_with fail
      refine (HT.out w1 HB1.out).mono ?_
      rintro e w2 ⟨rfl, hb2⟩
      have HB2 := Hidden.mk (HP.out.same (HB1.out.trans (hb2.mono HB1.out.size)))
      clear hb2 HT HB1
      go_wp2_with fail
      go_ret2
      exact ⟨rfl, F, HB2.out⟩
set_option maxRecDepth 100000 in
theorem runset_any (s : Bytes) (hp : Hp w0 w F h l) (hg : Good l) (hs : s.length ≤ 140737488351232) :
    Calls Tryz.prog 18 #[.pointer (some ⟨h, 0, none⟩), sv s] w fun e w' => e = .returned (errV (unE l s)) ∧ ∃ F', HpM w0 w w' F F' h (unL l s) := by
  have HP := Hidden.mk hp
  cases hn : isName s with
  | false =>
    have he : unE l s = 2 := by unfold unE; rw [if_pos hn]
    have hL : unL l s = l := by unfold unL; rw [he]; rfl
    rw [he, hL]
    have HC := Hidden.mk (putName_no s w hs hn)
    clear hp hg he hL hn
    go_enter Tryz.func18, Tryz.ntmps18
    go_wp2_with fail
    refine HC.out.mono ?_
    rintro e w2 ⟨rfl, hb2⟩
    have HB := Hidden.mk (HP.out.same hb2)
    clear hb2 HC
    go_wp2_with fail
    go_ret
    exact ⟨rfl, F, HB.out⟩
  | true =>
    have HC := Hidden.mk (putName_ok s w hn)
    have HPL : Hidden (∀ W, Below w.heap.size w W → Calls Tryz.prog 61 #[.pointer (some ⟨h, 0, none⟩), sv s] W fun e w' => e = .returned (.tuple #[.int .i64 (placeF l s 8).1, .int .i64 (placeF l s 8).2]) ∧ Below W.heap.size W w') := ⟨fun W hW => place_any s (hp.below hW) hg⟩
    obtain ⟨p1, -⟩ := placeF_spec l s 8 (Nat.le_refl _)
    rcases p1 with ⟨a, _⟩ | ⟨i, _, b, c, d, e, _⟩
    · have he : unE l s = 5 := by unfold unE; rw [if_neg (by rw [hn]; decide), if_pos (by omega)]
      have hL : unL l s = l := by unfold unL; rw [he]; rfl
      rw [he, hL]
      rw [a] at HPL
      generalize (placeF l s 8).2 = p2 at *
      clear hp hg he hL hn a
      go_enter Tryz.func18, Tryz.ntmps18
      go_wp2_with fail
      refine HC.out.mono ?_
      rintro e w1 ⟨gn, rfl, -, -, hb1⟩
      have HB1 := Hidden.mk hb1
      clear hb1 HC
      go_wp2_with fail
      refine (HPL.out w1 HB1.out).mono ?_
      rintro e w2 ⟨rfl, hb2⟩
      have HB2 := Hidden.mk (HP.out.same (HB1.out.trans (hb2.mono HB1.out.size)))
      clear hb2 HPL HB1
      go_wp2_with fail
      go_ret
      exact ⟨rfl, F, HB2.out⟩
    · have he : unE l s = 0 := by unfold unE; rw [if_neg (by rw [hn]; decide), if_neg (by omega)]
      have hL : unL l s = splice l (200 + 11 * i) (List.replicate 11 0) := by unfold unL; rw [if_pos he, c, Int.toNat_natCast]
      rw [he, hL]
      rw [c] at HPL
      have HPR : Hidden (∀ W, Below w.heap.size w W → Calls Tryz.prog 62 #[.pointer (some ⟨h, 0, none⟩), .int .i64 (i : Int), .agg #[sv [], .int .i64 0]] W fun e w' => e = .returned .nilIface ∧ ∃ F', HpM w0 W w' F F' h (splice l (200 + 11 * i) (List.replicate 11 0))) := ⟨fun W hW => by
        have := hroot_ok i [] 0 (hp.below hW) b (.inl ⟨rfl, rfl⟩)
        rw [putRo_zero] at this; exact this⟩
      have d1 : decide ((i : Int) < 0) = false := by simp
      generalize splice l (200 + 11 * i) (List.replicate 11 0) = l' at *
      generalize (placeF l s 8).2 = p2 at *
      clear hp hg he hL hn c d e b
      go_enter Tryz.func18, Tryz.ntmps18
      go_wp2_with fail
      refine HC.out.mono ?_
      rintro e w1 ⟨gn, rfl, -, -, hb1⟩
      have HB1 := Hidden.mk hb1
      clear hb1 HC
      go_wp2_with fail
      refine (HPL.out w1 HB1.out).mono ?_
      rintro e w2 ⟨rfl, hb2⟩
      have HB2 := Hidden.mk (HB1.out.trans (hb2.mono HB1.out.size))
      clear hb2 HPL HB1
      go_wp2_with fail
      refine (HPR.out w2 HB2.out).mono ?_
      rintro e w3 ⟨rfl, F', hm⟩
      have HF := Hidden.mk ((HP.out.same HB2.out).trans hm)
      clear hm HPR HB2
      go_wp2_with fail
      go_ret
      exact ⟨rfl, F', HF.out⟩
end
end Go.Proofs.YtcahgmnkphmnhaaGreat
/- UndoBack: the plain law: how many bytes differ, and what an op makes of an image. -/
namespace Go.Proofs.YtcahgmnkphmnhaaGreat
open Go.RowKit

/-- how many of the first places differ -/
def cntD (a b : Bytes) : Nat → Nat
  | 0 => 0
  | k + 1 => cntD a b k + (if a[k]? = b[k]? then 0 else 1)
def toldL (L : List Chg) : Nat := (L.map fun c => c.new.length).sum
theorem toldL_succ (L : List Chg) (k : Nat) (hk : k < L.length) : toldL (L.take (k + 1)) = toldL (L.take k) + L[k].new.length := by
  unfold toldL; rw [List.take_succ_eq_append_getElem hk, List.map_append, List.sum_append]; simp
theorem cntD_run (a b : Bytes) (i : Nat) : ∀ r, (∀ p, i ≤ p → p < i + r → a[p]? ≠ b[p]?) → cntD a b (i + r) = cntD a b i + r
  | 0, _ => rfl
  | r + 1, h => by
    show cntD a b (i + r) + (if a[i + r]? = b[i + r]? then 0 else 1) = _
    rw [cntD_run a b i r (fun p h1 h2 => h p h1 (by omega)), if_neg (h (i + r) (by omega) (by omega))]; omega
theorem told_cnt (a b : Bytes) (hl : a.length = b.length) (f : Nat) : ∀ i, a.length - i ≤ f → i ≤ a.length + 1 → toldL (diffF a b f i) + cntD a b (min i a.length) = cntD a b a.length := by
  induction f with
  | zero => intro i hf _; rw [show min i a.length = a.length by omega]; simp [diffF, toldL]
  | succ f ih =>
    intro i hf hi
    simp only [diffF]
    by_cases hlt : i < a.length
    · rw [if_pos hlt]
      have hr := runAt_le a b i hl (by omega)
      have h1 := ih (i + runAt a b i + 1) (by omega) (by omega)
      have h2 := cntD_run a b i (runAt a b i) (fun p h1 h2 => runAt_ne a b i p h1 h2)
      have h3 : cntD a b (min (i + runAt a b i + 1) a.length) = cntD a b (i + runAt a b i) := by
        by_cases he : i + runAt a b i < a.length
        · rw [show min (i + runAt a b i + 1) a.length = i + runAt a b i + 1 by omega]
          show cntD a b (i + runAt a b i) + _ = _
          rw [if_pos (runAt_stop a b i hl he)]; rfl
        · rw [show min (i + runAt a b i + 1) a.length = i + runAt a b i by omega]
      rw [h3, h2] at h1
      rw [show min i a.length = i by omega]
      split
      · unfold toldL at h1 ⊢
        rw [List.map_append, List.sum_append]
        have : ((b.drop i).take (runAt a b i)).length = runAt a b i := by simp; omega
        simp only [List.map_cons, List.map_nil, List.sum_cons, List.sum_nil, this]
        omega
      · have h0 : runAt a b i = 0 := by omega
        rw [List.nil_append]; omega
    · rw [if_neg hlt, show min i a.length = a.length by omega]; simp [toldL]
theorem told_all (a b : Bytes) (hl : a.length = b.length) : toldL (diffL a b) = cntD a b a.length := by
  have := told_cnt a b hl a.length 0 (by omega) (by omega)
  rw [Nat.zero_min] at this
  exact this
theorem cntD_le (a b : Bytes) : ∀ k, cntD a b k ≤ k
  | 0 => Nat.le_refl _
  | k + 1 => by unfold cntD; have := cntD_le a b k; split <;> omega
theorem cntD_symm (a b : Bytes) : ∀ k, cntD a b k = cntD b a k
  | 0 => rfl
  | k + 1 => by
    unfold cntD; rw [cntD_symm a b k]
    by_cases h : a[k]? = b[k]?
    · rw [if_pos h, if_pos h.symm]
    · rw [if_neg h, if_neg (fun e => h e.symm)]
/-- an image that came of another by one op -/
structure StepR (l l' : Bytes) : Prop where
  good : Good l'
  len : l'.length = l.length
theorem stepR_alloc {l : Bytes} (hg : Good l) (n t : Int) : StepR l (allocL l n t) := by
  refine ⟨alloc_good hg _ _, ?_⟩
  by_cases h0 : allocE l n t = 0
  · obtain ⟨k, a, n', t', _, _, _, _, h⟩ := alloc_is hg h0
    exact h.len
  · have : allocL l n t = l := by unfold allocL; rw [if_neg h0]
    rw [this]
theorem stepR_free {l : Bytes} (hg : Good l) (x : Int) : StepR l (freeL l x) := by
  refine ⟨free_good hg _, ?_⟩
  by_cases h0 : freeE l x = 0
  · obtain ⟨k, _, h⟩ := free_is hg h0
    exact h.len
  · have : freeL l x = l := by unfold freeL; rw [if_neg h0]
    rw [this]
theorem stepR_write {l : Bytes} (hg : Good l) (x c : Int) (b : Bytes) : StepR l (writeL l x c b) := by
  refine ⟨write_good hg x c b, ?_⟩
  by_cases h : someE l x c b.length = 0
  · obtain ⟨k, o, _, _, hw⟩ := write_is hg h
    exact hw.len
  · have : writeL l x c b = l := by unfold writeL; rw [if_neg h]
    rw [this]
theorem stepR_set {l : Bytes} (hg : Good l) (s : Bytes) (x : Int) : StepR l (setL l s x) := by
  by_cases h : setE l s x = 0
  · have hs := setE_is hg h
    obtain ⟨i, hp⟩ := hs.puts
    exact ⟨hs.good, hp.len hg.bd.1⟩
  · have : setL l s x = l := by unfold setL; rw [if_neg h]
    rw [this]; exact ⟨hg, rfl⟩
theorem stepR_unset {l : Bytes} (hg : Good l) (s : Bytes) : StepR l (unL l s) := by
  refine ⟨unL_good hg, ?_⟩
  unfold unL
  split
  · rename_i h
    obtain ⟨p1, -⟩ := placeF_spec l s 8 (Nat.le_refl _)
    have hb := hg.bd
    rw [splice_len _ _ _ (by
      rw [List.length_replicate]
      rcases p1 with ⟨p1, -⟩ | ⟨i, h1, h2, h3, -⟩
      · exfalso
        unfold unE at h
        split at h
        · omega
        · rw [if_pos (by rw [p1]; decide)] at h; omega
      · rw [h3, Int.toNat_natCast]; omega)]
  · rfl
theorem stepR_moved {l l' : Bytes} (h : MovedR l l') : StepR l l' := ⟨h.good, h.len⟩
theorem StepR.refl {l : Bytes} (hg : Good l) : StepR l l := ⟨hg, rfl⟩
theorem StepR.trans {l l' l'' : Bytes} (a : StepR l l') (b : StepR l' l'') : StepR l l'' := ⟨b.good, b.len.trans a.len⟩
end Go.Proofs.YtcahgmnkphmnhaaGreat
/- RootFull: the plain law. -/
namespace Go.Proofs.YtcahgmnkphmnhaaGreat
open Go.RowKit

/-- the name number q -/
def nmQ (q : Nat) : Bytes := [UInt8.ofNat (97 + q)]
theorem nmQ_facts : ∀ q : Fin 8, isName (nmQ q) = true ∧ (∀ x : Fin 3, zeroE (rootB (nmQ q) x) = false ∧ nmR (rootB (nmQ q) x) = nmQ q ∧ gotName ((rootB (nmQ q) x).take 8) = true ∧ (rootB (nmQ q) x).getD 8 0 = 0 ∧ (rootB (nmQ q) x).getD 9 0 = 0 ∧ ((rootB (nmQ q) x).getD 10 0).toNat = x.val ∧ (rootB (nmQ q) x).length = 11) := by decide
theorem nmQ_inj : ∀ q p : Fin 8, nmQ q = nmQ p → q = p := by decide
theorem nmQ_zz : ∀ q : Fin 8, nmQ q ≠ [122, 122] := by decide
theorem nmQ_ne {q p : Nat} (hq : q < 8) (hp : p < 8) (h : q ≠ p) : nmQ q ≠ nmQ p := fun e => h (by
  have := nmQ_inj ⟨q, hq⟩ ⟨p, hp⟩ e
  exact congrArg Fin.val this)
theorem putRo_nm (q : Nat) (x : Int) : putRo (nmQ q) x = rootB (nmQ q) x := by
  unfold putRo
  rw [if_neg (fun h => by have := h.1; simp [nmQ] at this)]
/-- an image with two objects; the first k roots have the first k names, and lead to f -/
structure NamIs (k : Nat) (f : Nat → Fin 3) (l : Bytes) : Prop where
  good : Good l
  h1 : hE l 1 = 0
  h2 : hE l 2 = 0
  t2 : gT l 2 = 0
  k8 : k ≤ 8
  f0 : ∀ q, q < k → (f q).val ≠ 0
  has : ∀ q, q < k → rawR l q = rootB (nmQ q) (f q)
  free : ∀ q, k ≤ q → q < 8 → rawR l q = List.replicate 11 0
section
variable {k : Nat} {f : Nat → Fin 3} {l : Bytes}
theorem NamIs.nz (h : NamIs k f l) {q : Nat} (hq : q < k) : zeroE (rawR l q) = false ∧ nmR (rawR l q) = nmQ q := by
  have h8 := h.k8
  have := (nmQ_facts ⟨q, by omega⟩).2 (f q)
  rw [h.has q hq]
  exact ⟨this.1, this.2.1⟩
theorem NamIs.z (h : NamIs k f l) {q : Nat} (hq : k ≤ q) (h8 : q < 8) : zeroE (rawR l q) = true := by
  rw [h.free q hq h8]; decide
theorem NamIs.placeNew (h : NamIs k f l) (s : Bytes) (hs : ∀ q, q < k → nmQ q ≠ s) : (placeF l s 8).1 = -1 ∧ (placeF l s 8).2 = if k < 8 then (k : Int) else -1 := by
  obtain ⟨p1, p2⟩ := placeF_spec l s 8 (Nat.le_refl _)
  constructor
  · rcases p1 with ⟨a, _⟩ | ⟨i, _, b, c, d, e, _⟩
    · exact a
    · by_cases hi : i < k
      · rw [(h.nz hi).2] at e; exact absurd e (hs i hi)
      · rw [h.z (by omega) b] at d; cases d
  · rcases p2 with ⟨a, b⟩ | ⟨i, _, b, c, d, e⟩
    · by_cases hk : k < 8
      · have := b k (by omega) hk
        rw [h.z (Nat.le_refl _) hk] at this; cases this
      · rw [if_neg hk]; exact a
    · by_cases hi : i < k
      · rw [(h.nz hi).1] at d; cases d
      · rw [if_pos (by omega), c]
        by_cases hik : i = k
        · rw [hik]
        · have := e k (by omega) (by omega)
          rw [h.z (Nat.le_refl _) (by omega)] at this; cases this
theorem NamIs.placeOwn (h : NamIs k f l) (q : Nat) (hq : q < k) : (placeF l (nmQ q) 8).1 = q := by
  have h8 := h.k8
  obtain ⟨p1, _⟩ := placeF_spec l (nmQ q) 8 (Nat.le_refl _)
  rcases p1 with ⟨_, a⟩ | ⟨i, _, b, c, d, e, _⟩
  · exact absurd (h.nz hq).2 (a q (by omega) (by omega) (h.nz hq).1)
  · by_cases hi : i < k
    · rw [(h.nz hi).2] at e
      by_cases hiq : i = q
      · rw [c, hiq]
      · exact absurd e (nmQ_ne b (by omega) hiq)
    · rw [h.z (by omega) b] at d; cases d
/-- a name set, at its own place or at the first that is free -/
theorem NamIs.put (h : NamIs k f l) (i : Nat) (hi : i ≤ k) (hi8 : i < 8) (x : Fin 3) (hx : x.val ≠ 0) : NamIs (if i = k then k + 1 else k) (fun q => if q = i then x else f q) (splice l (200 + 11 * i) (rootB (nmQ i) x)) := by
  have hb := h.good.bd
  obtain ⟨g1, g2, g3, g4, g5, g6, g7⟩ := (nmQ_facts ⟨i, hi8⟩).2 x
  dsimp only at g1 g2 g3 g4 g5 g6 g7
  have hlen : (splice l (200 + 11 * i) (rootB (nmQ i) x)).length = l.length := splice_len _ _ _ (by rw [g7]; omega)
  have hE' : ∀ j, j < 40 → rawE (splice l (200 + 11 * i) (rootB (nmQ i) x)) j = rawE l j := fun j hj => rawE_root l _ i j g7 hi8 hj (by omega)
  have hR' : ∀ j, j < 8 → rawR (splice l (200 + 11 * i) (rootB (nmQ i) x)) j = if j = i then rootB (nmQ i) x else rawR l j := fun j hj => rawR_splice l _ i j g7 hi8 hj (by omega)
  have hx3 := x.isLt
  have hhas : ∀ y : Nat, (y = 1 ∨ y = 2) → hasE (rawE l (y - 1)) = true := fun y hy => by
    rcases hy with rfl | rfl
    · obtain ⟨q, _, e, hh, _⟩ := hE_zero h.h1
      obtain rfl : q = 0 := by omega
      exact hh
    · obtain ⟨q, _, e, hh, _⟩ := hE_zero h.h2
      obtain rfl : q = 1 := by omega
      exact hh
  have hhE : ∀ y : Int, hE l y = 0 → hE (splice l (200 + 11 * i) (rootB (nmQ i) x)) y = 0 ∧ gT (splice l (200 + 11 * i) (rootB (nmQ i) x)) y = gT l y := fun y hy => by
    obtain ⟨q, hq, rfl, hh, _⟩ := hE_zero hy
    have a := hE_has (l := splice l (200 + 11 * i) (rootB (nmQ i) x)) hq (by rw [hE' q hq]; exact hh)
    have b := hE_has hq hh
    refine ⟨a.1, ?_⟩
    unfold gT
    rw [if_pos a.1, if_pos b.1, a.2, b.2, hE' q hq]
  refine ⟨?_, (hhE 1 h.h1).1, (hhE 2 h.h2).1, by rw [(hhE 2 h.h2).2]; exact h.t2, by have := h.k8; split <;> omega, fun q hq => ?_, fun q hq => ?_, fun q hq h8 => ?_⟩
  · refine good_iff.2 ⟨by rw [hlen]; exact h.good.1, ?_⟩
    rw [hlen]
    have hs := h.good.s
    have h0 : GoodS l.length (rawE (splice l (200 + 11 * i) (rootB (nmQ i) x))) (rawR l) := by
      refine hs.putE 0 (by omega) (rawE l 0) (fun j hj => by rw [hE' j hj]; split <;> simp_all) (hhas 1 (.inl rfl)) (hs.fit 0 (by omega) (hhas 1 (.inl rfl))) (fun j hj hne hh => ?_)
      rw [overE_symm]
      exact hs.apart j hj 0 (by omega) hh (hhas 1 (.inl rfl))
    refine h0.putR i (rootB (nmQ i) x) hR' (.inr ⟨?_, fun j hj hne hz => ?_⟩)
    · unfold badR
      rw [g3, g4, g5]
      have hl : leadsS (rawE (splice l (200 + 11 * i) (rootB (nmQ i) x))) ((rootB (nmQ i) x).getD 10 0) = true := by
        refine leadsS_iff.2 ⟨x.val - 1, by omega, ?_, by rw [g6]; omega⟩
        rw [hE' _ (by omega)]
        exact hhas x.val (by omega)
      rw [hl]; rfl
    · rw [g2]
      by_cases hjk : j < k
      · rw [(h.nz hjk).2]; exact nmQ_ne hi8 hj (fun e => hne e.symm)
      · rw [h.z (by omega) hj] at hz; cases hz
  · by_cases e : q = i
    · simp only [if_pos e]; exact hx
    · simp only [if_neg e]
      refine h.f0 q ?_
      split at hq <;> omega
  · have hq8 : q < 8 := by have := h.k8; split at hq <;> omega
    rw [hR' q hq8]
    by_cases e : q = i
    · simp [e]
    · simp only [if_neg e]
      refine h.has q ?_
      split at hq <;> omega
  · rw [hR' q h8, if_neg (by split at hq <;> omega)]
    refine h.free q ?_ h8
    split at hq <;> omega
theorem NamIs.roots (h : NamIs 8 f l) : rootsL l = (List.range 8).map fun q => (nmQ q, (f q).val) := by
  unfold rootsL rootsF
  rw [List.filter_eq_self.2 (fun q hq => by rw [(h.nz (List.mem_range.1 hq)).1]; rfl)]
  refine List.map_congr_left fun q hq => ?_
  have hq8 := List.mem_range.1 hq
  obtain ⟨g1, g2, g3, g4, g5, g6, g7⟩ := (nmQ_facts ⟨q, hq8⟩).2 (f q)
  dsimp only at g1 g2 g3 g4 g5 g6 g7
  unfold rootP
  rw [h.has q hq8, g3, if_pos rfl, g2, g6]
end
end Go.Proofs.YtcahgmnkphmnhaaGreat
/- RootFull: the heap in which its law begins. -/
namespace Go.Proofs.YtcahgmnkphmnhaaGreat
open Go.RowKit

theorem fH_first {l : Bytes} (k : Nat) (hk : k < 40) (h0 : ∀ j, j < k → hasE (rawE l j) = true) (h1 : hasE (rawE l k) = false) : fH l 40 = k + 1 := by
  rcases fH_spec l 40 (Nat.le_refl _) with ⟨_, hall⟩ | ⟨q, _, k2, k3, k4, k5⟩
  · have := hall k (by omega) hk
    rw [h1] at this; cases this
  · rw [k3]
    rcases Nat.lt_trichotomy q k with hq | rfl | hq
    · rw [h0 q hq] at k4; cases k4
    · rfl
    · have := k5 k (by omega) hq
      rw [h1] at this; cases this
theorem full_start : ∃ l1 l2 : Bytes, allocL (List.replicate 400 0) 1 0 = l1 ∧ allocE (List.replicate 400 0) 1 0 = 0 ∧ allocH (List.replicate 400 0) 1 0 = 1 ∧ allocL l1 1 0 = l2 ∧ allocE l1 1 0 = 0 ∧ allocH l1 1 0 = 2 ∧ NamIs 0 (fun _ => 1) l2 := by
  have hg : Good (List.replicate 400 0) := good_zero' rfl
  have hz : ∀ j, j < 40 → rawE (List.replicate 400 0) j = List.replicate 5 0 := fun j hj => zeros_cut 400 (5 * j) 5 (by omega)
  have hr : ∀ i, i < 8 → rawR (List.replicate 400 0) i = List.replicate 11 0 := fun i hi => zeros_cut 400 (200 + 11 * i) 11 (by omega)
  have hlen : (List.replicate 400 (0 : UInt8)).length = 400 := List.length_replicate
  generalize List.replicate 400 (0 : UInt8) = l at *
  have hn : ∀ j, j < 40 → hasE (rawE l j) = false := fun j hj => by rw [hz j hj]; exact zeros_has
  have hc := good_chk hg
  rw [hlen] at hc
  have f1 := fH_first (l := l) 0 (by omega) (fun j hj => by omega) (hn 0 (by omega))
  have hE : allocE l 1 0 = 0 := by
    have hf : fitE ((400 : Nat) - 288 : Int) (takenL l) 1 = 0 := fit_exists hc (p := 0) (by omega) (by omega) (by omega) (fun e he => by
      obtain ⟨j, hj, hh, _⟩ := takenL_mem.1 he
      rw [hn j hj] at hh; cases hh)
    unfold allocE
    rw [if_neg (by decide), hlen, if_neg (by rw [f1, hf]; decide)]
  have hH : allocH l 1 0 = 1 := by unfold allocH; rw [if_pos hE, f1]; rfl
  obtain ⟨k, a, n', t', e1, e2, hH', _, hi⟩ := alloc_is hg hE
  obtain rfl : n' = 1 := by omega
  obtain rfl : t' = 0 := by omega
  obtain rfl : k = 0 := by omega
  have hg1 := hi.good hg
  have he1 := hi.ent hg.bd.2
  have hlen1 : (allocL l 1 0).length = 400 := by rw [hi.len, hlen]
  have hents := hi.ents
  have hrots := hi.rots
  generalize allocL l 1 0 = l1 at *
  have hn1 : ∀ j, j < 40 → j ≠ 0 → hasE (rawE l1 j) = false := fun j hj hne => by rw [hents j hj, if_neg hne]; exact hn j hj
  have hc1 := good_chk hg1
  rw [hlen1] at hc1
  have f2 := fH_first (l := l1) 1 (by omega) (fun j hj => by rw [show j = 0 by omega]; exact he1.1) (hn1 1 (by omega) (by omega))
  have hE2 : allocE l1 1 0 = 0 := by
    have hf : fitE ((400 : Nat) - 288 : Int) (takenL l1) 1 = 0 := fit_exists hc1 (p := if a = 288 then 1 else 0) (by split <;> omega) (by omega) (by split <;> omega) (fun e he => by
      obtain ⟨j, hj, hh, rfl⟩ := takenL_mem.1 he
      by_cases h0 : j = 0
      · rw [h0, he1.2.1, he1.2.2.1]
        have := hi.a0
        dsimp only
        split <;> omega
      · rw [hn1 j hj h0] at hh; cases hh)
    unfold allocE
    rw [if_neg (by decide), hlen1, if_neg (by rw [f2, hf]; decide)]
  have hH2 : allocH l1 1 0 = 2 := by unfold allocH; rw [if_pos hE2, f2]; rfl
  obtain ⟨k2, a2, n2, t2, e1, e2, hHk, _, hi2⟩ := alloc_is hg1 hE2
  obtain rfl : n2 = 1 := by omega
  obtain rfl : t2 = 0 := by omega
  obtain rfl : k2 = 1 := by omega
  have d1 := hi2.ent hg1.bd.2
  have d0 : hasE (rawE (allocL l1 1 0) 0) = true := by rw [hi2.ents 0 (by omega), if_neg (by omega)]; exact he1.1
  refine ⟨l1, _, rfl, hE, hH, rfl, hE2, hH2, hi2.good hg1, (hE_has (k := 0) (by omega) d0).1, (hE_has (k := 1) (by omega) d1.1).1, ?_, by omega, fun q hq => by omega, fun q hq => by omega, fun q _ h8 => by rw [hi2.rots q h8, hrots q h8]; exact hr q h8⟩
  have := hE_has (k := 1) (by omega) d1.1
  rw [show ((1 : Nat) : Int) + 1 = 2 from rfl] at this
  unfold gT
  rw [if_pos this.1, this.2, d1.2.2.2]
  rfl
end Go.Proofs.YtcahgmnkphmnhaaGreat
/- The reference on who names whom: Handle, Refs. -/
namespace Go.Proofs.YtcahgmnkphmnhaaGreat
open Go.RowKit

theorem refsL_obj {l : Bytes} (hg : Good l) {k : Nat} (hk : k < 40) (hh : hasE (rawE l k) = true) : 0 ≤ objT l k ∧ objT l k ≤ 15 ∧ (objS l k).length ≤ 1000 ∧ refsL l ((k : Int) + 1) = refsB l ((objS l k).take (objT l k).toNat) := by
  have hs := strayE_false (hg.s.fit k hk hh)
  obtain ⟨e0, e1, e2, e3⟩ := hd_of hk hh
  have ht : objT l k = rTag (rawE l k) := by unfold objT; rw [if_pos hh]
  have hb : objS l k = (l.drop (rAt (rawE l k))).take (rLen (rawE l k)) := by unfold objS; rw [if_pos hh]
  refine ⟨by omega, by omega, by rw [hb]; simp; omega, ?_⟩
  unfold refsL
  rw [e2, e3]
  have hso : someE l ((k : Int) + 1) 0 (min (rLen (rawE l k) : Int) (rTag (rawE l k))) = 0 := some_zero e0 (by omega) (by omega) (by rw [e2]; omega)
  unfold readL
  rw [if_pos hso, e1, hb, ht, List.take_take]
  congr 2
  · omega
end Go.Proofs.YtcahgmnkphmnhaaGreat
/- The reference's extents, plainly: its holes are the program's. No walk here. -/
namespace Go.Proofs.YtcahgmnkphmnhaaGreat
open Go.RowKit

/-- a place that is free, behind runs -/
def addR (out : List Ext) (i : Int) : List Ext := match out.getLast? with
  | some h => if h.1 + h.2 = i then out.dropLast ++ [(h.1, h.2 + 1)] else out ++ [(i, 1)]
  | none => out ++ [(i, 1)]
def goR (T : Nat → Bool) (acc : List Ext) (i : Nat) : Nat → List Ext
  | 0 => acc
  | m + 1 => if T (i + m) = true then goR T acc i m else addR (goR T acc i m) ((i + m : Nat) : Int)
theorem goR_add (T : Nat → Bool) (acc : List Ext) (i a : Nat) : ∀ b, goR T acc i (a + b) = goR T (goR T acc i a) (i + a) b
  | 0 => rfl
  | b + 1 => by
    rw [← Nat.add_assoc, goR, goR, goR_add T acc i a b, Nat.add_assoc]
theorem goR_taken (T : Nat → Bool) (acc : List Ext) (i : Nat) : ∀ m, (∀ j, j < m → T (i + j) = true) → goR T acc i m = acc
  | 0, _ => rfl
  | m + 1, h => by rw [goR, if_pos (h m (by omega)), goR_taken T acc i m (fun j hj => h j (by omega))]
/-- the last run ends ahead of a -/
def EndsLt (acc : List Ext) (a : Int) : Prop := ∀ h, acc.getLast? = some h → h.1 + h.2 < a
theorem goR_free (T : Nat → Bool) (acc : List Ext) (i : Nat) (he : EndsLt acc i) : ∀ m, (∀ j, j < m + 1 → T (i + j) = false) → goR T acc i (m + 1) = acc ++ [((i : Int), ((m + 1 : Nat) : Int))]
  | 0, h => by
    rw [goR, goR, if_neg (by rw [h 0 (by omega)]; decide)]
    unfold addR
    cases hl : acc.getLast? with
    | none => simp
    | some x =>
      have := he x hl
      simp only
      rw [if_neg (by omega)]; simp
  | m + 1, h => by
    rw [goR, if_neg (by rw [h (m + 1) (by omega)]; decide), goR_free T acc i he m (fun j hj => h j (by omega))]
    unfold addR
    rw [List.getLast?_append]
    simp only [List.getLast?_singleton, Option.or]
    rw [if_pos (by omega), List.dropLast_concat]
    congr 1
def coverX (e : Ext) (i : Nat) : Bool := decide (e.1 ≤ i) && decide ((i : Int) < e.1 + e.2)
theorem goR_runs (T : Nat → Bool) (n : Nat) : ∀ (S : List Ext) (a : Nat) (acc : List Ext), Tidy a S n → (∀ i, a ≤ i → i < n → T i = S.any (fun e => coverX e i)) → EndsLt acc a → goR T acc a (n - a) = acc ++ runsX a S n
  | [], a, acc, ht, hT, he => by
    have ht : (a : Int) ≤ n := ht
    rw [runsX_nil]
    by_cases h : a < n
    · obtain ⟨m, hm⟩ : ∃ m, n - a = m + 1 := ⟨n - a - 1, by omega⟩
      rw [hm, goR_free T acc a he m (fun j hj => by rw [hT (a + j) (by omega) (by omega)]; rfl), if_pos (by omega)]
      rw [show ((m + 1 : Nat) : Int) = (n : Int) - a by omega]
    · rw [show n - a = 0 by omega, if_neg (by omega)]
      simp [goR]
  | e :: r, a, acc, ht, hT, he => by
    obtain ⟨h1, h2, h3⟩ := ht
    have h4 := tidy_le h3
    obtain ⟨x, y⟩ := e
    dsimp only at h1 h2 h3 h4
    obtain ⟨p, rfl⟩ := Int.eq_ofNat_of_zero_le (show 0 ≤ x by omega)
    obtain ⟨q, rfl⟩ := Int.eq_ofNat_of_zero_le (show 0 ≤ y by omega)
    have hrest : ∀ i, i < p + q → r.any (fun e => coverX e i) = false := fun i hi => by
      rw [List.any_eq_false]
      intro z hz
      have := tidy_mem h3 z hz
      simp [coverX]; omega
    have e1 : n - a = (p - a) + (q + (n - (p + q))) := by omega
    have s1 : goR T acc a (p - a) = acc ++ (if (a : Int) < (p : Int) then [((a : Int), (p : Int) - a)] else []) := by
      by_cases h : a < p
      · obtain ⟨m, hm⟩ : ∃ m, p - a = m + 1 := ⟨p - a - 1, by omega⟩
        rw [hm, goR_free T acc a he m (fun j hj => ?_), if_pos (by omega)]
        · rw [show ((m + 1 : Nat) : Int) = (p : Int) - a by omega]
        · rw [hT (a + j) (by omega) (by omega), List.any_cons, hrest (a + j) (by omega)]
          simp [coverX]; omega
      · rw [show p - a = 0 by omega, if_neg (by omega)]
        simp [goR]
    have hends : EndsLt (acc ++ (if (a : Int) < (p : Int) then [((a : Int), (p : Int) - a)] else [])) ((p + q : Nat) : Int) := by
      intro h hh
      by_cases hc : (a : Int) < (p : Int)
      · rw [if_pos hc, List.getLast?_append] at hh
        simp only [List.getLast?_singleton, Option.or, Option.some.injEq] at hh
        subst hh
        dsimp only; omega
      · rw [if_neg hc, List.append_nil] at hh
        have := he h hh; omega
    rw [e1, goR_add, s1, goR_add, goR_taken T _ (a + (p - a)) q (fun j hj => by
      rw [hT (a + (p - a) + j) (by omega) (by omega), List.any_cons]
      have : coverX ((p : Int), (q : Int)) (a + (p - a) + j) = true := by simp [coverX]; omega
      rw [this]; rfl)]
    rw [show a + (p - a) + q = p + q by omega]
    rw [goR_runs T n r (p + q) _ (by simpa using h3) (fun i h5 h6 => by
      rw [hT i (by omega) h6, List.any_cons]
      have : coverX ((p : Int), (q : Int)) i = false := by simp [coverX]; omega
      rw [this, Bool.false_or]) hends]
    rw [runsX_cons, List.append_assoc]
    simp
/-- the reference's holes are the program's -/
theorem goR_holes {n : Nat} {l : List Ext} (h : chkX n l = 0) (T : Nat → Bool) (hT : ∀ i, i < n → T i = l.any (fun e => coverX e i)) : goR T [] 0 n = holesX n l := by
  have ht := tidy_of h
  have := goR_runs T n (sortE l) 0 [] ht (fun i _ hi => by
    rw [hT i hi, Bool.eq_iff_iff, List.any_eq_true, List.any_eq_true]
    constructor
    · rintro ⟨x, h1, h2⟩; exact ⟨x, (sortE_perm l).mem_iff.2 h1, h2⟩
    · rintro ⟨x, h1, h2⟩; exact ⟨x, (sortE_perm l).mem_iff.1 h1, h2⟩) (fun h hh => by cases hh)
  rw [Nat.sub_zero, List.nil_append] at this
  rw [this, holes_runs]; rfl
/-- the reference's choice: where; how long -/
def refF (size : Int) (H : List Ext) : Int × Int := H.foldl (fun b h => if size ≤ h.2 ∧ (b.1 < 0 ∨ h.2 < b.2) then h else b) (-1, 0)
theorem refF_succ (size : Int) (H : List Ext) (k : Nat) (hk : k < H.length) : refF size (H.take (k + 1)) = if size ≤ H[k].2 ∧ ((refF size (H.take k)).1 < 0 ∨ H[k].2 < (refF size (H.take k)).2) then H[k] else refF size (H.take k) := by
  unfold refF
  rw [List.take_succ_eq_append_getElem hk, List.foldl_append]; rfl
theorem refF_best (size : Int) (H : List Ext) : (∀ h ∈ H, 0 ≤ h.1 ∧ 1 ≤ h.2) → (bestX size H = (0, 0) ∧ refF size H = (-1, 0)) ∨ (1 ≤ (bestX size H).2 ∧ 0 ≤ (bestX size H).1 ∧ refF size H = bestX size H) := by
  induction H using snocE with
  | h0 => exact fun _ => .inl ⟨rfl, rfl⟩
  | h1 L x ih =>
    intro hH
    have hx := hH x (by simp)
    rw [bestX_snoc]
    have hs : refF size (L ++ [x]) = if size ≤ x.2 ∧ ((refF size L).1 < 0 ∨ x.2 < (refF size L).2) then x else refF size L := by
      unfold refF; rw [List.foldl_append]; rfl
    rw [hs]
    rcases ih (fun h hh => hH h (List.mem_append_left _ hh)) with ⟨a, b⟩ | ⟨a, b, c⟩
    · rw [a, b]
      by_cases h : size ≤ x.2
      · rw [if_pos ⟨h, .inl rfl⟩, if_pos ⟨h, .inl (by decide)⟩]
        exact .inr ⟨hx.2, hx.1, rfl⟩
      · rw [if_neg (fun hh => h hh.1), if_neg (fun hh => h hh.1)]
        exact .inl ⟨rfl, rfl⟩
    · rw [c]
      by_cases h : size ≤ x.2 ∧ x.2 < (bestX size L).2
      · rw [if_pos ⟨h.1, .inr h.2⟩, if_pos ⟨h.1, .inr h.2⟩]
        exact .inr ⟨hx.2, hx.1, rfl⟩
      · rw [if_neg (fun hh => h ⟨hh.1, by omega⟩), if_neg (fun hh => h ⟨hh.1, by omega⟩)]
        exact .inr ⟨a, b, rfl⟩
theorem refF_fit {n : Int} {l : List Ext} (h : chkX n l = 0) (size : Int) (hs : ¬ (size < 1 ∨ 6400 < size)) : ((refF size (holesX n l)).1 < 0 ∧ fitE n l size = 4 ∧ fitA n l size = 0) ∨ (0 ≤ (refF size (holesX n l)).1 ∧ fitE n l size = 0 ∧ fitA n l size = (refF size (holesX n l)).1) := by
  have hb := refF_best size (holesX n l) (fun x hx => by have := holes_mem h x hx; omega)
  rcases hb with ⟨a, b⟩ | ⟨a, b, c⟩
  · left
    have e : fitE n l size = 4 := by unfold fitE; rw [if_pos h, if_neg hs, a]; rfl
    exact ⟨by rw [b]; decide, e, by unfold fitA; rw [e]; rfl⟩
  · right
    have e : fitE n l size = 0 := by unfold fitE; rw [if_pos h, if_neg hs, if_neg (by omega)]
    exact ⟨by rw [c]; exact b, e, by unfold fitA; rw [if_pos e, c]⟩
theorem stat_used {n : Int} {l : List Ext} (h : chkX n l = 0) : n - sumX (holesX n l) = sumX l ∧ n - sumX l = sumX (holesX n l) := by
  have := holds_sum h; omega
end Go.Proofs.YtcahgmnkphmnhaaGreat
/- The reference's extents: Extents, Holes. -/
namespace Go.Proofs.YtcahgmnkphmnhaaGreat
open Go.RowKit

/-- a cell of an own row, stored into -/
theorem own_set {w : World} {base size n g cap k : Nat} {e : TypeId} {xs : List Value} (h : w.ownsRow base e size (.slice (some ⟨g, 0, none⟩) n cap) n xs) (_hk : k < xs.length) (u : Value) :
    (w.setCell ⟨g, k, none⟩ u).ownsRow base e size (.slice (some ⟨g, 0, none⟩) n cap) n (xs.set k u) ∧ w.frozen? ⟨g, k, none⟩ = false := by
  rcases h with ⟨h0, ⟨h1, _⟩ | ⟨g', cap', cur, he, hb, hh, hn, hm, hc, ht⟩⟩
  · cases h1
  · injection he with he _ hcap
    injection he with he
    injection he with he
    subst he hcap
    refine ⟨⟨by rw [List.length_set]; exact h0, .inr ⟨g, cap, _, rfl, hb, heap_setK (k := k) hh u, hn, hm, by simp [hc], ?_⟩⟩, frozen_of_row _ g k _ _ hh⟩
    rw [← ht, Array.toList_setIfInBounds, List.take_set]
theorem loopX_step (n : Int) (l : List Ext) (k : Nat) (hk : k < l.length) (h : loopX n l k = 0) : loopX n l (k + 1) = faultX n l k l[k] := by
  rw [loopX, if_pos h]
  have hg : l.getD k (0, 0) = l[k] := by simp [hk]
  rw [hg]
theorem loopX_chk {n : Int} {l : List Ext} (hn : ¬ (n < 0 ∨ 6400 < n)) (hl : ¬ 200 < l.length) (k : Nat) (hk : k ≤ l.length) {q : Nat} (hq : loopX n l k = q) (h0 : q ≠ 0) : chkX n l = q := by
  unfold chkX
  rw [if_neg hn, if_neg hl, loopX_stop n l k (by omega) l.length hk, hq]
end Go.Proofs.YtcahgmnkphmnhaaGreat
/- The reference's extents: Holes. -/
namespace Go.Proofs.YtcahgmnkphmnhaaGreat
open Go.RowKit

theorem coverX_step (e : Ext) (j i : Nat) (h0 : 0 ≤ e.1) : (decide (e.1 ≤ i) && decide ((i : Int) < e.1 + ((j + 1 : Nat) : Int))) = ((decide (e.1 ≤ i) && decide ((i : Int) < e.1 + (j : Int))) || decide (i = e.1.toNat + j)) := by
  rw [Bool.eq_iff_iff]
  simp only [Bool.and_eq_true, Bool.or_eq_true, decide_eq_true_eq]
  omega
theorem goR_succ (T : Nat → Bool) (i : Nat) : goR T [] 0 (i + 1) = if T i = true then goR T [] 0 i else addR (goR T [] 0 i) (i : Int) := by
  rw [goR, Nat.zero_add]
theorem goR_len (T : Nat → Bool) : ∀ i, (goR T [] 0 i).length ≤ i
  | 0 => Nat.le_refl _
  | i + 1 => by
    rw [goR_succ]
    have := goR_len T i
    split
    · omega
    · unfold addR
      split
      · split <;> simp <;> omega
      · simp; omega
theorem tcells_flat (L : List Ext) : (L.flatMap tcells).length = L.length * 2 := by
  induction L with
  | nil => rfl
  | cons x r ih => rw [List.flatMap_cons, List.length_append, ih, List.length_cons]; simp [tcells]; omega
/-- runs lie within what was looked at -/
theorem goR_in (T : Nat → Bool) : ∀ i, ∀ x ∈ goR T [] 0 i, 0 ≤ x.1 ∧ 1 ≤ x.2 ∧ x.1 + x.2 ≤ i
  | 0 => fun x hx => by cases hx
  | i + 1 => fun x hx => by
    have ih := goR_in T i
    rw [goR_succ] at hx
    by_cases ht : T i = true
    · rw [if_pos ht] at hx
      have := ih x hx; omega
    · rw [if_neg ht] at hx
      unfold addR at hx
      cases hl : (goR T [] 0 i).getLast? with
      | none =>
        rw [hl] at hx
        simp only [List.mem_append, List.mem_singleton] at hx
        rcases hx with hx | rfl
        · have := ih x hx; omega
        · dsimp only; omega
      | some y =>
        rw [hl] at hx
        have hy := ih y (List.mem_of_getLast? hl)
        simp only at hx
        by_cases he : y.1 + y.2 = (i : Int)
        · rw [if_pos he] at hx
          simp only [List.mem_append, List.mem_singleton] at hx
          rcases hx with hx | rfl
          · have := ih x ((List.dropLast_sublist _).subset hx); omega
          · dsimp only; omega
        · rw [if_neg he] at hx
          simp only [List.mem_append, List.mem_singleton] at hx
          rcases hx with hx | rfl
          · have := ih x hx; omega
          · dsimp only; omega
end Go.Proofs.YtcahgmnkphmnhaaGreat
/- The reference's extents: Fit, Stat; extents that are the same. -/
namespace Go.Proofs.YtcahgmnkphmnhaaGreat
open Go.RowKit

section
variable (n : Nat) (A : Option Addr) (m c : Nat) (l : List Ext) (w : World) (hl : l.length = m) (hr : RdX tcells 2 w A l) (hc : chkX (n : Int) l = 0)
include hl hr hc
end
end Go.Proofs.YtcahgmnkphmnhaaGreat
/- The reference's extents: Stat. -/
namespace Go.Proofs.YtcahgmnkphmnhaaGreat
open Go.RowKit

theorem fiveCells {w : World} {b : Nat} {a0 a1 a2 a3 a4 : Int} {t : TypeId} (h : w.heap[b]? = some (.cells #[.int .i64 a0, .int .i64 a1, .int .i64 a2, .int .i64 a3, .int .i64 a4] t (0, 0))) : w.cell? ⟨b, 0, none⟩ = some (.int .i64 a0) ∧ w.cell? ⟨b, 1, none⟩ = some (.int .i64 a1) ∧ w.cell? ⟨b, 2, none⟩ = some (.int .i64 a2) ∧ w.cell? ⟨b, 3, none⟩ = some (.int .i64 a3) ∧ w.cell? ⟨b, 4, none⟩ = some (.int .i64 a4) ∧ ∀ q, w.frozen? ⟨b, q, none⟩ = false := by
  refine ⟨?_, ?_, ?_, ?_, ?_, fun q => frozen_of_row _ _ q _ _ h⟩ <;> simp [World.cell?, h]
theorem results_one {fn : Func} {p : Tmp} {ty : TypeId} (h : fn.results = #[.cell p ty]) (tmps : Array Value) (P : Program) (w : World) :
    (results fn tmps).run P w = ((asAddr (tmps.getD p undef)).run P w).andThen fun a w₁ => (loadVar ty a).run P w₁ := by
  simp only [results, h]
  simp [Sem.run_bind, Result.andThen]
end Go.Proofs.YtcahgmnkphmnhaaGreat
/- The reference's step of moving, plainly. No walk here. -/
namespace Go.Proofs.YtcahgmnkphmnhaaGreat
open Go.RowKit

/-- the first from a place on, so far -/
def upB (a : Nat) (b : Option Ent) (e : Ent) : Option Ent :=
  match b with
  | none => if a ≤ rAt e.2 then some e else none
  | some x => if a ≤ rAt e.2 ∧ rAt e.2 < rAt x.2 then some e else some x
def bestM (a : Nat) (E : List Ent) : Option Ent := E.foldl (upB a) none
theorem bestM_succ (a : Nat) (E : List Ent) (k : Nat) (hk : k < E.length) : bestM a (E.take (k + 1)) = upB a (bestM a (E.take k)) E[k] := by
  unfold bestM; rw [List.take_succ_eq_append_getElem hk, List.foldl_append]; rfl
theorem bestM_spec (a : Nat) (E : List Ent) : ∀ k, k ≤ E.length → (bestM a (E.take k) = none ∧ ∀ e ∈ E.take k, rAt e.2 < a) ∨ ∃ x, x ∈ E.take k ∧ bestM a (E.take k) = some x ∧ a ≤ rAt x.2 ∧ ∀ e ∈ E.take k, a ≤ rAt e.2 → rAt x.2 ≤ rAt e.2
  | 0, _ => Or.inl ⟨by simp [bestM], fun e he => by simp at he⟩
  | k + 1, hk => by
    have hk' : k < E.length := hk
    rw [bestM_succ a E k hk', List.take_succ_eq_append_getElem hk']
    rcases bestM_spec a E k (by omega) with ⟨h1, h2⟩ | ⟨x, h0, h1, h2, h3⟩
    · rw [h1]
      unfold upB
      by_cases hc : a ≤ rAt E[k].2
      · right
        refine ⟨E[k], List.mem_append_right _ (List.mem_singleton.2 rfl), by simp [hc], hc, fun e he hae => ?_⟩
        rcases List.mem_append.1 he with he | he
        · have := h2 e he; omega
        · simp only [List.mem_singleton] at he; subst he; exact Nat.le_refl _
      · left
        refine ⟨by simp [hc], fun e he => ?_⟩
        rcases List.mem_append.1 he with he | he
        · exact h2 e he
        · simp only [List.mem_singleton] at he; subst he; omega
    · rw [h1]
      unfold upB
      right
      by_cases hc : a ≤ rAt E[k].2 ∧ rAt E[k].2 < rAt x.2
      · refine ⟨E[k], List.mem_append_right _ (List.mem_singleton.2 rfl), by simp [hc], hc.1, fun e he hae => ?_⟩
        rcases List.mem_append.1 he with he | he
        · have := h3 e he hae; omega
        · simp only [List.mem_singleton] at he; subst he; exact Nat.le_refl _
      · refine ⟨x, List.mem_append_left _ h0, by simp [hc], h2, fun e he hae => ?_⟩
        rcases List.mem_append.1 he with he | he
        · exact h3 e he hae
        · simp only [List.mem_singleton] at he; subst he; omega
/-- where the scan stands: k of the sorted ones lie ahead of a -/
structure Stands (l : Bytes) (k a : Nat) : Prop where
  le : k ≤ (sortM l).length
  tidy : TidyM a ((sortM l).drop k) l.length
  ahead : ∀ e ∈ (sortM l).take k, rAt e.2 < a
  gap : gapM 288 (sortM l) = gapM a ((sortM l).drop k)
theorem stands_start {l : Bytes} (hg : Good l) : Stands l 0 288 := ⟨Nat.zero_le _, tidy_sortM hg, fun e he => by simp at he, rfl⟩
theorem Stands.none {l : Bytes} {a : Nat} (h : Stands l (sortM l).length a) : bestM a (entriesL l) = none ∧ gapM 288 (sortM l) = Option.none := by
  refine ⟨?_, by rw [h.gap, List.drop_length]; rfl⟩
  have := bestM_spec a (entriesL l) (entriesL l).length (Nat.le_refl _)
  rw [List.take_length] at this
  rcases this with ⟨h1, _⟩ | ⟨x, h0, h1, h2, h3⟩
  · exact h1
  · have := h.ahead x (by rw [List.take_length]; exact (sortM_perm l).mem_iff.2 h0); omega
theorem Stands.some {l : Bytes} {k a : Nat} (h : Stands l k a) (hk : k < (sortM l).length) : bestM a (entriesL l) = some (sortM l)[k] ∧ (sortM l)[k] ∈ entriesL l ∧ a ≤ rAt (sortM l)[k].2 ∧ (a < rAt (sortM l)[k].2 → gapM 288 (sortM l) = Option.some ((sortM l)[k], a)) ∧ (¬ a < rAt (sortM l)[k].2 → Stands l (k + 1) (a + rLen (sortM l)[k].2)) := by
  have hd := List.drop_eq_getElem_cons hk
  have htd := h.tidy
  rw [hd] at htd
  obtain ⟨t1, t2, t3⟩ := htd
  have hmem : (sortM l)[k] ∈ entriesL l := (sortM_perm l).mem_iff.1 (List.getElem_mem hk)
  refine ⟨?_, hmem, t1, fun hlt => ?_, fun hge => ?_⟩
  · have := bestM_spec a (entriesL l) (entriesL l).length (Nat.le_refl _)
    rw [List.take_length] at this
    rcases this with ⟨_, h2⟩ | ⟨x, h0, h1, h2, h3⟩
    · have := h2 _ hmem; omega
    · rw [h1]
      have hx := (sortM_perm l).mem_iff.2 h0
      rw [← List.take_append_drop k (sortM l)] at hx
      rcases List.mem_append.1 hx with hx | hx
      · have := h.ahead x hx; omega
      · rw [hd] at hx
        rcases List.mem_cons.1 hx with hx | hx
        · rw [hx]
        · have := tidyM_mem t3 x hx
          have := h3 _ hmem t1
          omega
  · rw [h.gap, hd]; unfold gapM; rw [if_pos hlt]
  · have he : rAt (sortM l)[k].2 = a := by omega
    rw [he] at t3
    refine ⟨hk, t3, fun e hx => ?_, ?_⟩
    · rw [List.take_succ_eq_append_getElem hk] at hx
      rcases List.mem_append.1 hx with hx | hx
      · have := h.ahead e hx; omega
      · simp only [List.mem_singleton] at hx; subst hx; omega
    · rw [h.gap, hd]; show gapM a (_ :: _) = _; rw [gapM, if_neg hge, he]
/-- the object's bytes laid one after the other -/
theorem splice_more (l x : Bytes) (a j : Nat) (hj : j < x.length) (h : a + x.length ≤ l.length) : (splice l a (x.take j)).set (a + j) x[j] = splice l a (x.take (j + 1)) := by
  have h1 : (x.take j).length = j := by simp; omega
  have h2 : (x.take (j + 1)).length = j + 1 := by simp; omega
  apply List.ext_getElem?
  intro p
  rw [List.getElem?_set, splice_len _ _ _ (by omega), splice_rd _ _ _ _ (by omega), splice_rd _ _ _ _ (by omega), h1, h2]
  by_cases b : a + j = p
  · subst b
    rw [if_pos rfl, if_pos (by omega), if_pos (by omega), Nat.add_sub_cancel_left, List.getElem?_take, if_pos (by omega), List.getElem?_eq_getElem hj]
  · rw [if_neg b]
    by_cases c : a ≤ p ∧ p < a + j
    · rw [if_pos c, if_pos (show a ≤ p ∧ p < a + (j + 1) from by omega), List.getElem?_take, List.getElem?_take, if_pos (by omega), if_pos (by omega)]
    · rw [if_neg c, if_neg (show ¬ (a ≤ p ∧ p < a + (j + 1)) from by omega)]
end Go.Proofs.YtcahgmnkphmnhaaGreat
/- The reference's Put and PutEntry: the row that they give is a new one. -/
namespace Go.Proofs.YtcahgmnkphmnhaaGreat
open Go.RowKit

/-- an answer: bytes in a new row, and a number -/
def RowAnsO (w w' : World) (e : Ending) (l : Bytes) (x : Value) : Prop := ∃ A' c', e = .returned (.tuple #[.slice A' l.length c', x]) ∧ (l ≠ [] → ∃ g, A' = some ⟨g, 0, none⟩ ∧ w.heap.size ≤ g ∧ Row w' 5 g c' l) ∧ Below w.heap.size w w'
set_option maxRecDepth 100000 in
set_option maxHeartbeats 1000000 in
theorem refPut_own (A : Option Addr) (n c : Nat) (l : Bytes) (at_ x size : Int) (w : World) (hn : l.length = n) (hl : n ≤ 140737488351232) (hr : Rd w A l) :
    Calls Tryz.prog 156 #[.slice A n c, .int .i64 at_, .int .i64 x, .int .i64 size] w fun e w' => RowAnsO w w' e (putF l at_ x size) (.int .i64 (putE n at_ x size)) := by
  obtain ⟨i0, hi0, hz0, hz1, hz2⟩ := info_parts byte_info
  generalize hF : putF l at_ x size = F
  generalize hE : putE n at_ x size = E
  unfold putF at hF
  rw [hn, hE] at hF
  unfold putE at hE
  by_cases hs : 1 ≤ size ∧ size ≤ 4
  · obtain ⟨h1, h4⟩ := hs
    obtain ⟨s, rfl⟩ := Int.eq_ofNat_of_zero_le (show 0 ≤ size by omega)
    have HM : Hidden (mostN (s : Int) = (2 ^ (8 * s) : Nat) - 1) := ⟨by simp [mostN]⟩
    have HE := Hidden.mk hE
    have HF := Hidden.mk hF
    clear hE hF
    go_enter Tryz.func156, Tryz.ntmps156
    go_wp2_with fail
    go_loop [10, 11] (fun mv iv => ∃ k : Nat, k ≤ s ∧ iv = .int .i64 k ∧ mv = .int .i64 ((2 ^ (8 * k) : Nat) : Int)) (fun _ iv => s - (intOf iv).toNat)
    case atStart => exact ⟨0, Nat.zero_le _, rfl, rfl⟩
    case round =>
      obtain ⟨k, hk, rfl, rfl⟩ := hrel
      by_cases hlt : k < s
      · have hp : 2 ^ (8 * k) ≤ 16777216 := by
          calc 2 ^ (8 * k) ≤ 2 ^ 24 := Nat.pow_le_pow_right (by omega) (by omega)
            _ = 16777216 := by decide
        have HD : Hidden (2 ^ (8 * k) * 256 = 2 ^ (8 * (k + 1))) := ⟨by rw [show 8 * (k + 1) = 8 * k + 8 from by omega, Nat.pow_add]⟩
        generalize 2 ^ (8 * k) = M at *
        have s1 : IntKind.i64.wrap ((M : Int) * 256) = (M : Int) * 256 := IntWalk.i64_in _ (by omega)
        go_wp2_with fail
        go_round
        case rel => exact ⟨k + 1, by omega, by go_num, int_i64 (by have := HD.out; omega)⟩
        case measure => simp [intOf]; omega
      · obtain rfl : k = s := by omega
        have hp : 2 ^ (8 * k) ≤ 4294967296 := by
          calc 2 ^ (8 * k) ≤ 2 ^ 32 := Nat.pow_le_pow_right (by omega) (by omega)
            _ = 4294967296 := by decide
        by_cases hx : 0 ≤ x ∧ x ≤ mostN (k : Int)
        · obtain ⟨X, rfl⟩ := Int.eq_ofNat_of_zero_le hx.1
          have hxm := hx.2
          rw [HM.out] at hxm
          by_cases ha : at_ < 0 ∨ (n : Int) - k < at_
          · have he : E = 3 := by rw [← HE.out, if_pos ⟨h1, h4, hx.1, hx.2⟩, if_pos ha]
            have hf : F = [] := by rw [← HF.out, if_neg (by omega)]
            subst he hf
            clear HE HF hx HM
            generalize 2 ^ (8 * k) = M at *
            by_cases h0 : at_ < 0
            · clear ha
              go_wp2_with fail
              go_ret2
              exact ⟨none, 0, rfl, fun h => absurd rfl h, Below.refl _ _⟩
            · by_cases hb : (n : Int) < at_
              · clear ha
                go_wp2_with fail
                go_ret2
                exact ⟨none, 0, rfl, fun h => absurd rfl h, Below.refl _ _⟩
              · have hc3 : (n : Int) - at_ < k := by omega
                have s1 : IntKind.i64.wrap ((n : Int) - at_) = (n : Int) - at_ := IntWalk.i64_in _ (by omega)
                clear ha
                go_wp2_with fail
                go_ret2
                exact ⟨none, 0, rfl, fun h => absurd rfl h, Below.refl _ _⟩
          · have he : E = 0 := by rw [← HE.out, if_pos ⟨h1, h4, hx.1, hx.2⟩, if_neg ha]
            have hf : F = putB l at_ X k := by rw [← HF.out, if_pos he]
            obtain ⟨a, rfl⟩ := Int.eq_ofNat_of_zero_le (show 0 ≤ at_ by omega)
            have hfa : F = splice l a (numB X k) := by rw [hf]; simp [putB]
            have HFA := Hidden.mk hfa
            subst he
            clear HE HF hx HM hf hfa
            have hfit : a + k ≤ n := by omega
            have hk1 : 1 ≤ k := by omega
            have s1 : IntKind.i64.wrap ((n : Int) - a) = (n : Int) - a := IntWalk.i64_in _ (by omega)
            have t1 : decide (n < a) = false := by simp; omega
            have t2 : decide ((n : Int) - a < k) = false := by simp; omega
            obtain ⟨p, off, rfl, _⟩ := hr.lt (by omega)
            generalize 2 ^ (8 * k) = M at *
            have t3 : decide (M ≤ X) = false := by simp; omega
            have t0 : decide ((a : Int) < 0) = false := by simp
            have t5 : decide ((X : Int) < 0) = false := by simp
            clear ha
            go_wp2_with (at_builtin; refine wpList_append_own _ rfl (.tmp 50) (.tmp 51) _ rfl w.heap.size 5 i0 _ 1 1 Tryz.underlying22 hi0 hz0 hz1 hz2 rfl (by decide) (.slice none 0 0) 0 [] rfl (World.ownsRow_nil _ _ _ _) ⟨p, off, none⟩ n c (l.map bv) rfl (by simp; omega) hr.cells one_bv (by simp only [maxLen]; omega) (by omega) (Nat.le_refl _) ?_; intro v1 w1 hown1 hg1 hnn1)
            have hb1 : Below w.heap.size w w1 := (Below.refl _ _).grown hg1 (Nat.le_refl _) (fun k hk => by simp [Value.ownBlock] at hk)
            have hO : Own w1 w.heap.size 5 v1 l := by unfold Own; simpa [hn] using hown1
            have hne : v1 ≠ .slice none 0 0 := fun h => by
              subst h
              rcases hO.2 with ⟨_, h0⟩ | ⟨g, cap, cur, h, _⟩
              · omega
              · cases h
            obtain ⟨g, cap, hv, hbg, hrow⟩ := Row.of_own hO hne
            rw [hn] at hv
            subst hv
            clear hO hne hown1 hg1 hnn1
            go_loopw [2, 13] (fun nv iv wr => ∃ j : Nat, j ≤ k ∧ iv = .int .i64 j ∧ nv = .int .i64 ((X / 2 ^ (8 * j) : Nat) : Int) ∧ Below w.heap.size w wr ∧ Row wr 5 g cap (splice l a (numB X j))) (fun _ iv _ => k - (intOf iv).toNat)
            case atStart => exact ⟨0, Nat.zero_le _, rfl, by simp, hb1, by simpa [numB, splice] using hrow⟩
            case round =>
              obtain ⟨j, hj, rfl, rfl, hbel, hrow2⟩ := hrel
              have hsl : (splice l a (numB X j)).length = n := by rw [splice_len _ _ _ (by rw [numB_length]; omega), hn]
              by_cases hlt2 : j < k
              · have hd := div_step X j
                have HD2 := Hidden.mk hd
                have hcell := hrow2.cell (a + j) (by omega)
                have hfr := hrow2.frozen (a + j)
                have hst := hrow2.store (a + j) (by omega) (UInt8.ofNat (X / 2 ^ (8 * j) % 256))
                rw [splice_put l a X j (by omega)] at hst
                have hbn := hbel.setCell (p := ⟨g, a + j, none⟩) hbg (bv (UInt8.ofNat (X / 2 ^ (8 * j) % 256)))
                have hbv : bv (UInt8.ofNat (X / 2 ^ (8 * j) % 256)) = .int .u8 ((X / 2 ^ (8 * j) : Nat) % 256 : Int) := by simp only [bv, ofNat_mod]; rfl
                have hmle : X / 2 ^ (8 * j) ≤ X := Nat.div_le_self _ _
                have hcap := hrow2.le.1
                rw [hbv] at hst hbn
                generalize X / 2 ^ (8 * j) = m at *
                have q1 : IntKind.i64.wrap ((a : Int) + j) = (a : Int) + j := IntWalk.i64_in _ (by omega)
                have k0 : (0 : Int) ≤ (a : Int) + j := by omega
                have k1 : (a : Int) + j < n := by omega
                generalize (splice l a (numB X j))[a + j] = u at hcell
                clear hd hbv hrow2 hsl
                go_wp2_with fail
                go_roundw
                case rel => exact ⟨j + 1, by omega, by go_num, int_i64 (by have := HD2.out; omega), hbn, hst⟩
                case measure => simp [intOf]; omega
              · obtain rfl : j = k := by omega
                go_wp2_with fail
                go_ret2
                refine ⟨some ⟨g, 0, none⟩, cap, ?_, fun _ => ⟨g, rfl, hbg, by rw [HFA.out]; exact hrow2⟩, hbel⟩
                rw [show F.length = n from by rw [HFA.out]; exact hsl]
                rfl
        · have he : E = 1 := by rw [← HE.out, if_neg (fun h => hx ⟨h.2.2.1, h.2.2.2⟩)]
          have hf : F = [] := by rw [← HF.out, if_neg (by omega)]
          rw [HM.out] at hx
          subst he hf
          clear HE HF HM
          generalize 2 ^ (8 * k) = M at *
          by_cases h0 : x < 0
          · clear hx
            go_wp2_with fail
            go_ret2
            exact ⟨none, 0, rfl, fun h => absurd rfl h, Below.refl _ _⟩
          · have t3 : (M : Int) ≤ x := by omega
            clear hx
            go_wp2_with fail
            go_ret2
            exact ⟨none, 0, rfl, fun h => absurd rfl h, Below.refl _ _⟩
  · have he : E = 1 := by rw [← hE, if_neg (fun h => hs ⟨h.1, h.2.1⟩)]
    have hf : F = [] := by rw [← hF, if_neg (by omega)]
    subst he hf
    clear hE hF
    by_cases h1 : size < 1
    · clear hs
      go_enter Tryz.func156, Tryz.ntmps156
      go_wp2_with fail
      go_ret2
      exact ⟨none, 0, rfl, fun h => absurd rfl h, Below.refl _ _⟩
    · have h4 : 4 < size := by omega
      clear hs
      go_enter Tryz.func156, Tryz.ntmps156
      go_wp2_with fail
      go_ret2
      exact ⟨none, 0, rfl, fun h => absurd rfl h, Below.refl _ _⟩
theorem refPut_fitO (A : Option Addr) (n c : Nat) (l : Bytes) (a x s : Nat) (w : World) (hn : l.length = n) (hl : n ≤ 140737488351232) (hr : Rd w A l) (h1 : 1 ≤ s) (h4 : s ≤ 4) (hx : (x : Int) ≤ mostN (s : Int)) (ha : a + s ≤ n) :
    Calls Tryz.prog 156 #[.slice A n c, .int .i64 (a : Int), .int .i64 (x : Int), .int .i64 (s : Int)] w fun e w' => ∃ g c', e = .returned (.tuple #[.slice (some ⟨g, 0, none⟩) n c', .int .i64 0]) ∧ w.heap.size ≤ g ∧ Row w' 5 g c' (splice l a (numB x s)) ∧ Below w.heap.size w w' := by
  have hE : putE n (a : Int) (x : Int) (s : Int) = 0 := by
    unfold putE; rw [if_pos ⟨by omega, by omega, by omega, hx⟩, if_neg (by omega)]
  have hF : putF l (a : Int) (x : Int) (s : Int) = splice l a (numB x s) := by
    unfold putF; rw [hn, if_pos hE]; rfl
  have hL : (splice l a (numB x s)).length = n := by rw [splice_len _ _ _ (by rw [numB_length]; omega)]; exact hn
  refine (refPut_own A n c l a x s w hn hl hr).mono ?_
  rintro e w' ⟨A', c', rfl, hrd, hb⟩
  rw [hF] at hrd
  obtain ⟨g, rfl, hg, hrow⟩ := hrd (fun h => by have h2 : (splice l a (numB x s)).length = 0 := (by rw [h]; rfl); omega)
  rw [hF, hE, hL]
  exact ⟨g, c', rfl, hg, hrow, hb⟩
def PutAtO (n : Nat) (o : Nat) (x s : Int) (l l' : Bytes) : Prop := ∀ (A : Option Addr) (c : Nat) (W : World), Rd W A l → Calls Tryz.prog 156 #[.slice A n c, .int .i64 (o : Int), .int .i64 x, .int .i64 s] W fun e w' => ∃ g c', e = .returned (.tuple #[.slice (some ⟨g, 0, none⟩) n c', .int .i64 0]) ∧ W.heap.size ≤ g ∧ Row w' 5 g c' l' ∧ Below W.heap.size W w'
theorem putAtO (n o x s : Nat) (l : Bytes) (hn : l.length = n) (hl : n ≤ 140737488351232) (h1 : 1 ≤ s) (h4 : s ≤ 4) (hx : (x : Int) ≤ mostN (s : Int)) (ha : o + s ≤ n) : PutAtO n o (x : Int) (s : Int) l (splice l o (numB x s)) :=
  fun A c W hW => refPut_fitO A n c l o x s W hn hl hW h1 h4 hx ha
set_option maxRecDepth 100000 in
theorem refPutEntry_walkO (A : Option Addr) (n c k o o1 o3 t tt b m : Nat) (l l1 l2 l3 : Bytes) (w : World) (hrd : Rd w A l) (hh : handleB ((k : Int) + 1) = true)
    (s0 : IntKind.i64.wrap (k : Int) = (k : Int)) (s1 : IntKind.i64.wrap (5 * (k : Int)) = (o : Int)) (s2 : IntKind.i64.wrap ((t : Int) + 1) = (tt : Int))
    (s3 : IntKind.i64.wrap ((o : Int) + 1) = (o1 : Int)) (s4 : IntKind.i64.wrap ((o : Int) + 3) = (o3 : Int)) (ht : t ≤ 15) (hm1 : 1 ≤ m) (hm : m ≤ 1000) (hb : 288 ≤ b) (hbn : b + m ≤ n) (hn : n ≤ 6400)
    (c1 : PutAtO n o tt 1 l l1) (c2 : PutAtO n o1 b 2 l1 l2) (c3 : PutAtO n o3 m 2 l2 l3) :
    Calls Tryz.prog 123 #[.slice A n c, entV ((k : Int) + 1) b m t] w fun e w' => ∃ g c', e = .returned (.tuple #[.slice (some ⟨g, 0, none⟩) n c', .int .i64 0]) ∧ w.heap.size ≤ g ∧ Row w' 5 g c' l3 ∧ Below w.heap.size w w' := by
  have hB : Below w.heap.size w (w.alloc (.cells #[.int .i64 ((k : Int) + 1), .int .i64 b, .int .i64 m, .int .i64 t] 97)) := (Below.refl _ _).alloc (Nat.le_refl _) _
  have hF0 := fourAt_one w ((k : Int) + 1) b m t 97
  have s5 : IntKind.i64.wrap ((n : Int) - b) = (n : Int) - b := IntWalk.i64_in _ (by omega)
  have t1 : decide ((t : Int) < 0) = false := by simp
  have t2 : decide (15 < (t : Int)) = false := by simp; omega
  have t2' : decide (15 < t) = false := by simp; omega
  have t3 : decide ((m : Int) < 1) = false := by simp; omega
  have t3' : decide (m < 1) = false := by simp; omega
  have t4 : decide (1000 < (m : Int)) = false := by simp; omega
  have t4' : decide (1000 < m) = false := by simp; omega
  have t5 : decide ((b : Int) < 288) = false := by simp; omega
  have t5' : decide (b < 288) = false := by simp; omega
  have t6 : decide ((n : Int) < b) = false := by simp; omega
  have t6' : decide (n < b) = false := by simp; omega
  have t7 : decide ((n : Int) - b < m) = false := by simp; omega
  have hr0 := hrd.below hB
  have C1 := Hidden.mk c1
  have C2 := Hidden.mk c2
  have C3 := Hidden.mk c3
  clear ht hm1 hm hb hbn hn c1 c2 c3 hrd
  unfold entV
  go_enter Tryz.func123, Tryz.ntmps123
  go_wp2_with fail
  refine (ref_handle_any _ _).mono ?_
  rintro e w1 ⟨rfl, rfl⟩
  rw [hh]
  clear hh
  go_wp2_with fail
  generalize w.alloc (.cells #[.int .i64 ((k : Int) + 1), .int .i64 (b : Int), .int .i64 (m : Int), .int .i64 (t : Int)] 97) = w0 at *
  refine (C1.out A c _ hr0).mono ?_
  rintro e w1 ⟨g1, c1, rfl, hg1, hr1, hb1⟩
  have hF1 := hF0.below hb1
  have hB1 := hB.trans (hb1.mono hB.size)
  have HF1 := Hidden.mk hF1
  obtain ⟨x0, x1, x2, x3⟩ := hF1
  clear hb1 hF0
  go_wp2_with fail
  refine (C2.out _ c1 _ hr1.rd).mono ?_
  rintro e w2 ⟨g2, c2, rfl, hg2, hr2, hb2⟩
  have hF2 := HF1.out.below hb2
  have hB2 := hB1.trans (hb2.mono hB1.size)
  obtain ⟨y0, y1, y2, y3⟩ := hF2
  clear hb2 x0 x1 x2 x3
  go_wp2_with fail
  refine (C3.out _ c2 _ hr2.rd).mono ?_
  rintro e w3 ⟨g3, c3, rfl, hg3, hr3, hb3⟩
  have hB3 := hB2.trans (hb3.mono hB2.size)
  have HG3 : Hidden (w.heap.size ≤ g3) := ⟨Nat.le_trans hB2.size hg3⟩
  clear hg1 hg2 hg3 hb3 y0 y1 y2 y3
  go_wp2_with fail
  go_ret2
  exact ⟨g3, c3, rfl, HG3.out, hr3, hB3⟩
theorem refPutEntry_own (A : Option Addr) (n c : Nat) (l : Bytes) (h a len tag : Int) (w : World) (hln : l.length = n) (hr : rightB n = true) (hrd : Rd w A l) (hh : handleB h = true) (ht : tagB tag = true) (hl : lenB len = true) (hw : withinB n a len = true) :
    Calls Tryz.prog 123 #[.slice A n c, entV h a len tag] w fun e w' => ∃ g c', e = .returned (.tuple #[.slice (some ⟨g, 0, none⟩) n c', .int .i64 0]) ∧ w.heap.size ≤ g ∧ Row w' 5 g c' (putEnt l h a len tag) ∧ Below w.heap.size w w' := by
  have htb := tagB_true.1 ht
  have hlb := lenB_true.1 hl
  have hhb := handleB_true.1 hh
  have hwb := withinB_true.1 hw
  have hnb := rightB_true.1 hr
  obtain ⟨k, rfl⟩ : ∃ k : Nat, h = (k : Int) + 1 := ⟨(h - 1).toNat, by omega⟩
  obtain ⟨t, rfl⟩ := Int.eq_ofNat_of_zero_le (show 0 ≤ tag by omega)
  obtain ⟨b, rfl⟩ := Int.eq_ofNat_of_zero_le (show 0 ≤ a by omega)
  obtain ⟨m, rfl⟩ := Int.eq_ofNat_of_zero_le (show 0 ≤ len by omega)
  rw [putEnt_three l k t b m (by omega) (by omega)]
  have hl1 : (splice l (5 * k) (numB (t + 1) 1)).length = n := by rw [splice_len _ _ _ (by rw [numB_length]; omega)]; exact hln
  have hl2 : (splice (splice l (5 * k) (numB (t + 1) 1)) (5 * k + 1) (numB b 2)).length = n := by rw [splice_len _ _ _ (by rw [numB_length, hl1]; omega)]; exact hl1
  have hm1 : mostN ((1 : Nat) : Int) = 255 := rfl
  have hm2 : mostN ((2 : Nat) : Int) = 65535 := rfl
  exact refPutEntry_walkO A n c k (5 * k) (5 * k + 1) (5 * k + 3) t (t + 1) b m l _ _ _ w hrd hh (IntWalk.i64_in _ (by omega)) (by rw [IntWalk.i64_in _ (by omega)]; omega) (by rw [IntWalk.i64_in _ (by omega)]; omega) (by rw [IntWalk.i64_in _ (by omega)]; omega) (by rw [IntWalk.i64_in _ (by omega)]; omega)
    (by omega) (by omega) (by omega) (by omega) (by omega) (by omega)
    (putAtO n (5 * k) (t + 1) 1 l hln (by omega) (by omega) (by omega) (by rw [hm1]; omega) (by omega))
    (putAtO n (5 * k + 1) b 2 _ hl1 (by omega) (by omega) (by omega) (by rw [hm2]; omega) (by omega))
    (putAtO n (5 * k + 3) m 2 _ hl2 (by omega) (by omega) (by omega) (by rw [hm2]; omega) (by omega))
end Go.Proofs.YtcahgmnkphmnhaaGreat
/- Maps told by a function from keys to values: lookup, store, len, clear as equations; over whatever program. -/
namespace Go.Proofs.YtcahgmnkphmnhaaGreat
open Go.RowKit Go.Maps Go.ChangeMaps

/-- any value, as it stands -/
def heldR (v : Value) : Option (DataW Value × List MemPlace) := some (.held v, [])
section
variable {P : Program} {T K E : TypeId} {κ : Type} {kl : κ → Lit} {w w' : World} {b cnt : Nat} {f : κ → Option Value}
/-- what a datum has at each key -/
def Has (kl : κ → Lit) (D : DataW Value) (f : κ → Option Value) : Prop := (∀ k, (f k = none → Maps.has D (kl k) = false) ∧ ∀ v, f k = some v → Maps.has D (kl k) = true ∧ ∀ z, D.atKey (kl k) z = .held v) ∧ ∀ l, Maps.has D l = true → ∃ k, l = kl k ∧ (f k).isSome = true
/-- block b is a map of cnt entries: at each key what f says -/
def IM (P : Program) (K : TypeId) (kl : κ → Lit) (w : World) (b : Nat) (f : κ → Option Value) (cnt : Nat) : Prop :=
  ∃ D : DataW Value, w.ownsMap P K heldR b cnt D ∧ Maps.size D = cnt ∧ Has kl D f
theorem ownsMap_tight {D : DataW Value} {n : Nat} (h : w.ownsMap P K heldR b n D) : w.ownsMap P K heldR b (Maps.size D) D := by
  obtain ⟨es, clock, hb, F, _, rfl⟩ := h
  refine ⟨es, clock, hb, F, ?_, rfl⟩
  simp [Maps.size, length_sorted]
theorem IM.made (w : World) : IM P K kl (w.alloc (.map #[] 0)) w.heap.size (fun _ => none) 0 :=
  ⟨_, World.ownsMap_made w P K heldR, rfl, fun k => ⟨fun _ => rfl, fun v h => by cases h⟩, fun l h => by cases h⟩
theorem IM.block (h : IM P K kl w b f cnt) (hb : w'.heap[b]? = w.heap[b]?) : IM P K kl w' b f cnt := by
  obtain ⟨D, ⟨es, clock, h1, h2⟩, h3⟩ := h
  exact ⟨D, ⟨es, clock, hb.trans h1, h2⟩, h3⟩
theorem IM.lt (h : IM P K kl w b f cnt) : b < w.heap.size := by
  obtain ⟨D, h, _⟩ := h
  exact h.lt
theorem IM.isMap (h : IM P K kl w b f cnt) : ∃ es clock, w.heap[b]? = some (.map es clock) := by
  obtain ⟨D, ⟨es, clock, hb, _⟩, _⟩ := h
  exact ⟨es, clock, hb⟩
theorem IM.look_some (h : IM P K kl w b f cnt) (KL : Keyed P K) (ht : P.underlying T = some (.map K E)) {z : Value} (hz : (zeroValue E).run P w = .ok z w) {key : Value} {k : κ} (hkey : keyOf P K key = some (kl k)) {v : Value} (hf : f k = some v) :
    (Instr.lookup T (.map (some b)) key true).run P w = .ok (.tuple #[v, .bool true]) w ∧ (Instr.lookup T (.map (some b)) key false).run P w = .ok v w := by
  obtain ⟨D, h, _, hh⟩ := h
  obtain ⟨h1, h2⟩ := (hh.1 k).2 v hf
  constructor
  · obtain ⟨v', ps, hrun, hv⟩ := h.look_ok KL ht hz (zd := .held z) (zp := []) rfl hkey
    rw [h2, heldR] at hv
    simp only [Option.some.injEq, Prod.mk.injEq, DataW.held.injEq] at hv
    rw [h1, hv.1] at hrun
    exact hrun
  · obtain ⟨v', ps, hrun, hv⟩ := h.lookup KL ht hz (zd := .held z) (zp := []) rfl hkey
    rw [h2, heldR] at hv
    simp only [Option.some.injEq, Prod.mk.injEq, DataW.held.injEq] at hv
    rw [hv.1] at hrun
    exact hrun
theorem IM.look_none (h : IM P K kl w b f cnt) (KL : Keyed P K) (ht : P.underlying T = some (.map K E)) {z : Value} (hz : (zeroValue E).run P w = .ok z w) {key : Value} {k : κ} (hkey : keyOf P K key = some (kl k)) (hf : f k = none) :
    (Instr.lookup T (.map (some b)) key true).run P w = .ok (.tuple #[z, .bool false]) w ∧ (Instr.lookup T (.map (some b)) key false).run P w = .ok z w := by
  obtain ⟨D, h, _, hh⟩ := h
  have h1 := (hh.1 k).1 hf
  constructor
  · obtain ⟨v', ps, hrun, hv⟩ := h.look_ok KL ht hz (zd := .held z) (zp := []) rfl hkey
    rw [atKey_of_not_has h1, heldR] at hv
    simp only [Option.some.injEq, Prod.mk.injEq, DataW.held.injEq] at hv
    rw [h1, hv.1] at hrun
    exact hrun
  · obtain ⟨v', ps, hrun, hv⟩ := h.lookup KL ht hz (zd := .held z) (zp := []) rfl hkey
    rw [atKey_of_not_has h1, heldR] at hv
    simp only [Option.some.injEq, Prod.mk.injEq, DataW.held.injEq] at hv
    rw [hv.1] at hrun
    exact hrun
/-- f with another value at one key -/
def upd [DecidableEq κ] (f : κ → Option Value) (k : κ) (v : Value) : κ → Option Value := fun x => if x = k then some v else f x
theorem IM.store [DecidableEq κ] (h : IM P K kl w b f cnt) (KL : Keyed P K) (hinj : ∀ x y, kl x = kl y → x = y) (ht : P.underlying T = some (.map K E)) (hn : cnt < maxLen) {key : Value} {k : κ} (hkey : keyOf P K key = some (kl k)) (v : Value) :
    ∃ w', (Instr.mapUpdate T (.map (some b)) key v).run P w = .ok () w' ∧ IM P K kl w' b (upd f k v) (if (f k).isSome then cnt else cnt + 1) ∧ w.grownBy w' (some b) ∧ w'.heap.size = w.heap.size := by
  obtain ⟨D, h, hs, hh⟩ := h
  obtain ⟨w', hrun, h', ht'⟩ := h.store KL ht hn (d := .held v) (ps := []) hkey rfl
  obtain ⟨w2, hrun2, _, hg⟩ := h.update KL ht hn (d := .held v) (ps := []) hkey rfl
  have e : w' = w2 := by
    rw [hrun] at hrun2
    injection hrun2
  subst e
  have hik : WideAt.IsKeyLit (kl k) := KL.key hkey
  have hsz : Maps.size (D.put (kl k) (.held v)) = if (f k).isSome then cnt else cnt + 1 := by
    rw [size_put (h.tidy KL), hs]
    cases hf : f k with
    | none => rw [(hh.1 k).1 hf]; simp
    | some u => rw [((hh.1 k).2 u hf).1]; simp
  refine ⟨w', hrun, ⟨_, ?_, hsz, fun x => ?_, fun l hl => ?_⟩, hg, ?_⟩
  · rw [← hsz]; exact ownsMap_tight h'
  · unfold upd
    by_cases hx : x = k
    · subst hx
      rw [if_pos rfl]
      refine ⟨(fun h => by cases h), fun u hu => ?_⟩
      obtain rfl := Option.some.inj hu
      exact ⟨has_put_same h.isMap hik _, fun z => atKey_put_same h.isMap hik _ z⟩
    · rw [if_neg hx]
      have hne : kl x ≠ kl k := fun e => hx (hinj _ _ e)
      refine ⟨fun h0 => by rw [has_put_other hne]; exact (hh.1 x).1 h0, fun u hu => ?_⟩
      rw [has_put_other hne]
      exact ⟨((hh.1 x).2 u hu).1, fun z => by rw [atKey_put_other hne]; exact ((hh.1 x).2 u hu).2 z⟩
  · by_cases hx : l = kl k
    · exact ⟨k, hx, by unfold upd; rw [if_pos rfl]; rfl⟩
    · rw [has_put_other hx] at hl
      obtain ⟨x, hx', hfx⟩ := hh.2 l hl
      refine ⟨x, hx', ?_⟩
      unfold upd
      split
      · rfl
      · exact hfx
  · obtain ⟨es, clock, es', clock', _, hw⟩ := ht'
    rw [hw]; simp [setBlock]
theorem IM.len_ (h : IM P K kl w b f cnt) (ht : P.underlying T = some (.map K E)) (ty : TypeId) : (Builtin.len_ #[T] ty #[.map (some b)]).run P w = .ok (.int .i64 cnt) w := by
  obtain ⟨D, h, hs, _⟩ := h
  rw [← hs]
  exact h.len ht ty
theorem IM.clear_ (h : IM P K kl w b f cnt) (ht : P.underlying T = some (.map K E)) (ty : TypeId) :
    ∃ w', (Builtin.clear_ #[T] ty #[.map (some b)]).run P w = .ok (.tuple #[]) w' ∧ IM P K kl w' b (fun _ => none) 0 ∧ w.grownBy w' (some b) ∧ w'.heap.size = w.heap.size := by
  obtain ⟨D, ⟨es, clock, hb, F, _⟩, _⟩ := h
  refine ⟨setBlock w b (.map #[] clock), ?_, ⟨.map [], ⟨#[], clock, heap_setBlock_same hb _, ⟨by simp, ?_, by simp⟩, Nat.le_refl _, rfl⟩, rfl, fun k => ⟨fun _ => rfl, fun v h => by cases h⟩, fun l h => by cases h⟩,
    ⟨rfl, rfl, rfl, by simp [setBlock], fun i _ hi => heap_setBlock_other hb _ (fun e => hi (by rw [e]))⟩, by simp [setBlock]⟩
  · simp [Builtin.clear_, run_underlying ht, MapKept.run_getObj_map hb, MapKept.run_setObj_map _ hb, Result.andThen, setBlock]
  · exact MapKept.stamped_empty _
end
end Go.Proofs.YtcahgmnkphmnhaaGreat
/- A device in memory: what lies where. -/
namespace Go.Proofs.YtcahgmnkphmnhaaGreat
open Go.RowKit

/-- what a device is -/
structure Dv where
  S : List Bytes
  O : List Nat
  M : Nat → Bytes
  left : Int
  down : Bool
/-- where it lies -/
structure Lay where
  gs : Nat
  cs : Nat
  gm : Nat
  vo : Value
  sb : Nat → Nat
  sc : Nat → Nat
  mb : Nat → Nat
  mc : Nat → Nat
def natL (k : Nat) : Lit := .int .i64 k
theorem natL_inj (x y : Nat) (h : natL x = natL y) : x = y := by
  unfold natL at h; injection h with _ h; omega
def rowV (g c : Nat) : Value := .slice (some ⟨g, 0, none⟩) 32 c
def memF (O : List Nat) (Y : Lay) (k : Nat) : Option Value := if k ∈ O then some (rowV (Y.mb k) (Y.mc k)) else none
section
variable {w w' : World} {F F' : Nat → Prop} {d : Nat} {D : Dv} {Y : Lay} {live : Nat → Prop}
end
end Go.Proofs.YtcahgmnkphmnhaaGreat
/- The contracts of package device: Len, Down, step, Fail, forget. -/
namespace Go.Proofs.YtcahgmnkphmnhaaGreat
open Go.RowKit

theorem five {w : World} {d : Nat} {a b c e f : Value} {t : TypeId} (h : w.heap[d]? = some (.cells #[a, b, c, e, f] t (0, 0))) :
    (w.cell? ⟨d, 0, none⟩ = some a ∧ w.cell? ⟨d, 1, none⟩ = some b ∧ w.cell? ⟨d, 2, none⟩ = some c ∧ w.cell? ⟨d, 3, none⟩ = some e ∧ w.cell? ⟨d, 4, none⟩ = some f) ∧ ∀ k, w.frozen? ⟨d, k, none⟩ = false := by
  refine ⟨⟨?_, ?_, ?_, ?_, ?_⟩, fun k => by simp [World.frozen?, h]⟩ <;> simp [World.cell?, h]
theorem heap_set5 {w : World} {d k : Nat} {cur : Array Value} {t : TypeId} (h : w.heap[d]? = some (.cells cur t (0, 0))) (v : Value) : (w.setCell ⟨d, k, none⟩ v).heap[d]? = some (.cells (cur.setIfInBounds k v) t (0, 0)) := by
  rw [setCell_eq_setRow w d k cur t _ _ h]
  exact setRow_heap w d cur _ t _ h
theorem Keep.setCell {F : Nat → Prop} {w w' : World} (h : Keep F w w') {p : Addr} (hp : F p.block ∨ w.heap.size ≤ p.block) (u : Value) : Keep F w (w'.setCell p u) :=
  ⟨h.os, h.tape, h.output, by simpa using h.size, fun k hk hn => by
    have : k ≠ p.block := fun e => by rcases hp with h' | h'; exact hn (e ▸ h'); omega
    exact (Below.heap_setCell w' p u k this).trans (h.block k hk hn)⟩
/-- one step of the power -/
def stepD (D : Dv) : Dv := { D with left := max (-1) (D.left - 1), down := D.left == 0 }
end Go.Proofs.YtcahgmnkphmnhaaGreat
/- The reference on heaps: Taken, Step. -/
namespace Go.Proofs.YtcahgmnkphmnhaaGreat
open Go.RowKit

end Go.Proofs.YtcahgmnkphmnhaaGreat
/- The reference's Step of moving. -/
namespace Go.Proofs.YtcahgmnkphmnhaaGreat
open Go.RowKit

def bH : Option Ent → Int
  | none => 0
  | some x => x.1
def bA : Option Ent → Nat
  | none => 0
  | some x => rAt x.2
def bL : Option Ent → Nat
  | none => 0
  | some x => rLen x.2
def bT : Option Ent → Int
  | none => 0
  | some x => rTag x.2
def FourB (w : World) (g : Nat) (a b c d : Int) : Prop := w.heap[g]? = some (.cells #[.int .i64 a, .int .i64 b, .int .i64 c, .int .i64 d] 97 (0, 0))
theorem FourB.get {w : World} {g : Nat} {a b c d : Int} (h : FourB w g a b c d) : FourAt w g a b c d ∧ ∀ q, w.frozen? ⟨g, q, none⟩ = false := by
  refine ⟨?_, fun q => frozen_of_row _ _ q _ _ h⟩
  unfold FourAt
  simp only [World.cell?]
  rw [h]
  exact ⟨rfl, rfl, rfl, rfl⟩
theorem FourB.set {w : World} {g : Nat} {a b c d : Int} (h : FourB w g a b c d) (x0 x1 x2 x3 : Int) :
    FourB ((((w.setCell ⟨g, 0, none⟩ (.int .i64 x0)).setCell ⟨g, 1, none⟩ (.int .i64 x1)).setCell ⟨g, 2, none⟩ (.int .i64 x2)).setCell ⟨g, 3, none⟩ (.int .i64 x3)) g x0 x1 x2 x3 := by
  have e0 : (w.setCell ⟨g, 0, none⟩ (.int .i64 x0)).heap[g]? = _ := heap_setK h _
  have e1 := heap_setK (k := 1) e0 (.int .i64 x1)
  have e2 := heap_setK (k := 2) e1 (.int .i64 x2)
  exact heap_setK (k := 3) e2 (.int .i64 x3)
theorem FourB.set1 {w : World} {g : Nat} {a b c d : Int} (h : FourB w g a b c d) (x : Int) : FourB (w.setCell ⟨g, 1, none⟩ (.int .i64 x)) g a x c d := heap_setK (k := 1) h _
/-- all but one block is as it was -/
abbrev But (g : Nat) (w w' : World) : Prop := Keep (fun k => k = g) w w'
theorem But.four {g : Nat} {w w' : World} (h : But g w w') (a b c d : Value) : But g w ((((w'.setCell ⟨g, 0, none⟩ a).setCell ⟨g, 1, none⟩ b).setCell ⟨g, 2, none⟩ c).setCell ⟨g, 3, none⟩ d) :=
  (((h.setCell (p := ⟨g, 0, none⟩) (.inl rfl) _).setCell (p := ⟨g, 1, none⟩) (.inl rfl) _).setCell (p := ⟨g, 2, none⟩) (.inl rfl) _).setCell (p := ⟨g, 3, none⟩) (.inl rfl) _
theorem own_far {X : Type} {f : X → List Value} {C : Nat} {w : World} {base : Nat} {e : TypeId} {A : Option Addr} {n c g : Nat} {L : List X} (hC : ∀ x, (f x).length = C) (hn : L.length = n) (h : w.ownsRow base e C (.slice A n c) n (L.flatMap f)) (hg : g < base) (W : World) (hW : But g w W) : RdX f C W A L := by
  refine (own_rdX3 hC hn h).block fun ad he hlt => hW.block _ hlt ?_
  rcases h.2 with ⟨he', _⟩ | ⟨g', cap, cur, he', hb, _⟩
  · injection he' with h1; rw [h1] at he; cases he
  · injection he' with h1
    rw [h1] at he
    have := Option.some.inj he
    subst this
    dsimp only; omega
end Go.Proofs.YtcahgmnkphmnhaaGreat
/- What comes in: slices of ints. -/
namespace Go.Proofs.YtcahgmnkphmnhaaGreat
open Go.RowKit Go.ChangeShapes Go.WideShapes Go.ChangeAt

def icell (x : Int) : List Value := [.int .i64 x]
section
variable {H : Type} {enc : TypeId × Value → H} {w : World} {v : Value} {d : DataW H} {ps : List MemPlace} {base : Nat} {r : Reach}
set_option maxRecDepth 20000 in
theorem open_ints (hv : Value.okWide Tryz.prog w r base 24 v) (h : DataW.Trod enc Tryz.prog w 0 (fun _ => true) true 24 v d ps) (hz : (d.weights Tryz.prog 24).all (· ≤ reachBytes) = true) :
    ∃ (A : Option Addr) (c : Nat) (L : List Int), v = .slice A L.length c ∧ L.length ≤ c ∧ c ≤ 140737488351232 ∧ (∀ x ∈ L, -9223372036854775808 ≤ x ∧ x ≤ 9223372036854775807) ∧ RdX icell 1 w A L := by
  have hb : decide (1 ≤ Tryz.prog.bytesOf 3) = true := by kernel_rfl
  have hC : Tryz.prog.cellsOf 3 = 1 := by kernel_rfl
  refine open_seq (P := Tryz.prog) icell 1 (fun _ x => -9223372036854775808 ≤ x ∧ x ≤ 9223372036854775807) Tryz.underlying24 hC (by omega) (of_decide_eq_true hb) (fun n cs x hl ht hz => ?_) hv h hz
  match cs, hl with
  | [c0], _ =>
    obtain ⟨a, ha, -, wa⟩ := DataW.trod_int Tryz.underlying3 ht
    obtain ⟨lo, hi⟩ := wf_i64' wa
    exact ⟨a, by simpa [icell] using ha, lo, hi⟩
end
end Go.Proofs.YtcahgmnkphmnhaaGreat
