/- Contracts and plain laws, put together: HeapP, KeepP, MoveP, LayE, Move1, Move2, Move3, SameN, RefXP, RefX1, RefX2, RefX3, RefX4, StepP, RefPO, MapI, Dev0, Dev1, RefS2, RefS3, Open5, Stat1, RefA1, Told, Told2, Told3. -/
import Derived.Test.YtecjjhfaljdcpaaGreatDoorStatTellsFrameM3
import Derived.Shelf.SlGeneric
import Derived.Shelf.SlSortCmp.WholeK
import Derived.Ground.SlsfProg
import Derived.Test.YtecjjhfaljdcpaaGreatDoorStatTellsFrameM1
import Derived.Deep.DeepCutAuto
import Derived.Deep.CutBlock
import Derived.Deep.LoopGhost
import Derived.BigQuiet
import Derived.StillTailTactics
import Derived.Test.YtecjjhfaljdcpaaGreatDoorStatTellsFrameM2
import Derived.Maps.Own
import Derived.Maps.OwnSet
import Derived.Maps.RangeWalk
import Derived.Deep.RegionHeld3
import Derived.Deep.AppendLies
import Derived.LaidEql
import Derived.Stop.Asserts
import Derived.RowKitTokens
/- The plain law of heaps: what stays right, what has room. No walk here. -/
namespace Go.Proofs.YtecjjhfaljdcpaaGreatDoor
open Go.RowKit

/-- where a run is free there is one of the runs -/
theorem run_cover : ∀ {S : List Ext} {a n p s : Int}, Tidy a S n → a ≤ p → p + s ≤ n → 1 ≤ s → (∀ e ∈ S, p + s ≤ e.1 ∨ e.1 + e.2 ≤ p) → ∃ h ∈ runsX a S n, h.1 ≤ p ∧ p + s ≤ h.1 + h.2
  | [], a, n, p, s, ht, h1, h2, h3, _ => by
    rw [runsX_nil, if_pos (by omega)]
    exact ⟨_, List.mem_singleton.2 rfl, by dsimp only; omega, by dsimp only; omega⟩
  | e :: r, a, n, p, s, ⟨t1, t2, t3⟩, h1, h2, h3, hall => by
    rw [runsX_cons]
    rcases hall e (List.mem_cons_self ..) with h | h
    · rw [if_pos (by omega)]
      exact ⟨_, List.mem_append_left _ (List.mem_singleton.2 rfl), by dsimp only; omega, by dsimp only; omega⟩
    · obtain ⟨x, hx, hh⟩ := run_cover t3 h h2 h3 (fun y hy => hall y (List.mem_cons_of_mem _ hy))
      exact ⟨x, List.mem_append_right _ hx, hh⟩
theorem fit_exists {n : Int} {l : List Ext} {p size : Int} (h : chkX n l = 0) (h0 : 0 ≤ p) (h1 : 1 ≤ size) (h2 : p + size ≤ n) (hall : ∀ e ∈ l, p + size ≤ e.1 ∨ e.1 + e.2 ≤ p) : fitE n l size = 0 := by
  obtain ⟨o0, o1, _⟩ := chkX_ok h
  obtain ⟨x, hx, hh⟩ := run_cover (tidy_of h) h0 h2 h1 (fun e he => hall e ((sortE_perm l).mem_iff.1 he))
  rw [← holes_runs] at hx
  refine Classical.byContradiction fun hf => ?_
  have := fit_none h hf x hx h1
  omega
theorem takenL_mem {l : Bytes} {e : Ext} : e ∈ takenL l ↔ ∃ k, k < 40 ∧ hasE (rawE l k) = true ∧ e = ((rAt (rawE l k) : Int) - 288, (rLen (rawE l k) : Int)) := by
  unfold takenL entriesL entsL
  simp only [List.map_map, List.mem_map, List.mem_filter, List.mem_range, Function.comp_apply, takeX]
  constructor
  · rintro ⟨k, ⟨h1, h2⟩, rfl⟩; exact ⟨k, h1, h2, rfl⟩
  · rintro ⟨k, h1, h2, rfl⟩; exact ⟨k, ⟨h1, h2⟩, rfl⟩
theorem overE_hit {r s : Bytes} (h : overE r s = false) : hitX ((rAt r : Int) - 288, (rLen r : Int)) ((rAt s : Int) - 288, (rLen s : Int)) = false := by
  rw [hitX_false]
  unfold overE at h
  simp only [Bool.and_eq_false_iff, decide_eq_false_iff_not] at h
  dsimp only
  omega
/-- the extents of a right image are right -/
theorem good_chk {l : Bytes} (hg : Good l) : chkX ((l.length : Int) - 288) (takenL l) = 0 := by
  have hb := hg.bd
  refine chkX_of (by omega) (by omega) (by have := takenL_len l; omega) (fun e he => ?_) ?_
  · obtain ⟨k, hk, hh, rfl⟩ := takenL_mem.1 he
    have := strayE_false (hg.s.fit k hk hh)
    exact badX_of (by dsimp only; omega)
  · unfold takenL entriesL entsL
    rw [List.map_map, List.pairwise_map]
    have hp : (List.range 40).Pairwise (fun a b => a < b) := List.pairwise_lt_range
    have hf := hp.filter (fun k => hasE (rawE l k))
    refine hf.imp_of_mem ?_
    intro a b ha hb' hab
    have ha := List.mem_filter.1 ha
    have hb2 := List.mem_filter.1 hb'
    have h1 := List.mem_range.1 hb2.1
    have := hg.s.apart b h1 a hab hb2.2 ha.2
    rw [overE_symm] at this
    exact overE_hit this
/-- what lies behind the head is not the head's -/
theorem rawE_tail (l x : Bytes) (o j : Nat) (ho : 288 ≤ o) (hx : o + x.length ≤ l.length) (hj : j < 40) : rawE (splice l o x) j = rawE l j := by
  apply List.ext_getElem?
  intro q
  unfold rawE
  rw [List.getElem?_take, List.getElem?_drop, List.getElem?_take, List.getElem?_drop]
  by_cases hq : q < 5
  · rw [if_pos hq, if_pos hq, splice_at _ _ _ _ hx, if_neg (by omega)]
  · rw [if_neg hq, if_neg hq]
theorem rawR_tail (l x : Bytes) (o j : Nat) (ho : 288 ≤ o) (hx : o + x.length ≤ l.length) (hj : j < 8) : rawR (splice l o x) j = rawR l j := by
  apply List.ext_getElem?
  intro q
  unfold rawR
  rw [List.getElem?_take, List.getElem?_drop, List.getElem?_take, List.getElem?_drop]
  by_cases hq : q < 11
  · rw [if_pos hq, if_pos hq, splice_at _ _ _ _ hx, if_neg (by omega)]
  · rw [if_neg hq, if_neg hq]
theorem rawE_root (l x : Bytes) (i j : Nat) (hx : x.length = 11) (hi : i < 8) (hj : j < 40) (hl : 288 ≤ l.length) : rawE (splice l (200 + 11 * i) x) j = rawE l j := by
  apply List.ext_getElem?
  intro q
  unfold rawE
  rw [List.getElem?_take, List.getElem?_drop, List.getElem?_take, List.getElem?_drop]
  by_cases hq : q < 5
  · rw [if_pos hq, if_pos hq, splice_at _ _ _ _ (by omega), if_neg (by omega)]
  · rw [if_neg hq, if_neg hq]
/-- bytes that are cut out elsewhere -/
theorem cut_splice (l x : Bytes) (o a m : Nat) (hx : o + x.length ≤ l.length) (h : a + m ≤ o ∨ o + x.length ≤ a) : ((splice l o x).drop a).take m = (l.drop a).take m := by
  apply List.ext_getElem?
  intro q
  rw [List.getElem?_take, List.getElem?_drop, List.getElem?_take, List.getElem?_drop]
  by_cases hq : q < m
  · rw [if_pos hq, if_pos hq, splice_at _ _ _ _ hx, if_neg (by omega)]
  · rw [if_neg hq, if_neg hq]
theorem cut_splice_in (l x : Bytes) (o a m : Nat) (hx : o + x.length ≤ l.length) (h1 : o ≤ a) (h2 : a + m ≤ o + x.length) : ((splice l o x).drop a).take m = (x.drop (a - o)).take m := by
  apply List.ext_getElem?
  intro q
  rw [List.getElem?_take, List.getElem?_drop, List.getElem?_take, List.getElem?_drop]
  by_cases hq : q < m
  · rw [if_pos hq, if_pos hq, splice_at _ _ _ _ hx, if_pos (by omega)]
    congr 1; omega
  · rw [if_neg hq, if_neg hq]
theorem zeros_cut (n a m : Nat) (h : a + m ≤ n) : ((List.replicate n (0 : UInt8)).drop a).take m = List.replicate m 0 := by
  rw [List.drop_replicate, List.take_replicate]; congr 1; omega
/-- an image of nothing -/
theorem good_zero {n : Nat} (h : rightB n = true) : Good (List.replicate n 0) := by
  have hb := rightB_true.1 h
  have hE : ∀ k, k < 40 → rawE (List.replicate n 0) k = List.replicate 5 0 := fun k hk => zeros_cut n (5 * k) 5 (by omega)
  have hR : ∀ i, i < 8 → rawR (List.replicate n 0) i = List.replicate 11 0 := fun i hi => zeros_cut n (200 + 11 * i) 11 (by omega)
  refine good_iff.2 ⟨by rw [List.length_replicate]; exact h, ⟨fun k hk _ => by rw [hE k hk]; exact zeros_zero 5, fun k hk hh => ?_, fun k hk j hj hh _ => ?_, fun i hi hz => ?_, fun i hi j hj hz _ => ?_⟩⟩
  · rw [hE k hk, zeros_has] at hh; cases hh
  · rw [hE k hk, zeros_has] at hh; cases hh
  · rw [hR i hi, zeros_zero] at hz; cases hz
  · rw [hR i hi, zeros_zero] at hz; cases hz
/-- what Alloc makes of an image -/
structure AllocIs (l l' : Bytes) (k a n t : Nat) : Prop where
  k40 : k < 40
  none : hasE (rawE l k) = false
  least : ∀ i, i < k → hasE (rawE l i) = true
  a0 : 288 ≤ a
  a1 : a + n ≤ l.length
  n0 : 1 ≤ n
  n1 : n ≤ 1000
  t1 : t ≤ 15
  len : l'.length = l.length
  ents : ∀ j, j < 40 → rawE l' j = if j = k then entB a n t else rawE l j
  rots : ∀ i, i < 8 → rawR l' i = rawR l i
  apart : ∀ j, j < 40 → hasE (rawE l j) = true → a + n ≤ rAt (rawE l j) ∨ rAt (rawE l j) + rLen (rawE l j) ≤ a
  zero : (l'.drop a).take n = List.replicate n 0
  rest : ∀ b m, 288 ≤ b → b + m ≤ a ∨ a + n ≤ b → (l'.drop b).take m = (l.drop b).take m
theorem alloc_is {l : Bytes} (hg : Good l) {n t : Int} (h0 : allocE l n t = 0) : ∃ k a n' t' : Nat, n = n' ∧ t = t' ∧ allocH l n t = (k : Int) + 1 ∧ allocA l n = a ∧ AllocIs l (allocL l n t) k a n' t' := by
  have hb := hg.bd
  have hE := h0
  unfold allocE at hE
  by_cases hbad : lenB n = false ∨ tagB t = false
  · rw [if_pos hbad] at hE; cases hE
  · rw [if_neg hbad] at hE
    by_cases hz : fH l 40 = 0 ∨ fitE ((l.length : Int) - 288) (takenL l) n ≠ 0
    · rw [if_pos hz] at hE; cases hE
    · have hn := lenB_true.1 (show lenB n = true by cases hx : lenB n <;> simp_all)
      have ht := tagB_true.1 (show tagB t = true by cases hx : tagB t <;> simp_all)
      have hf : fitE ((l.length : Int) - 288) (takenL l) n = 0 := by omega
      obtain ⟨i1, i2⟩ := alloc_in hf
      rcases fH_spec l 40 (Nat.le_refl _) with ⟨h, _⟩ | ⟨k, k1, k2, k3, k4, k5⟩
      · omega
      obtain ⟨a, ha⟩ := Int.eq_ofNat_of_zero_le (show 0 ≤ allocA l n by omega)
      obtain ⟨n', rfl⟩ := Int.eq_ofNat_of_zero_le (show 0 ≤ n by omega)
      obtain ⟨t', rfl⟩ := Int.eq_ofNat_of_zero_le (show 0 ≤ t by omega)
      have hL : allocL l n' t' = splice (splice l (5 * k) (entB a n' t')) a (List.replicate n' 0) := by
        unfold allocL
        rw [if_pos h0, ha, k3]
        unfold putEnt
        rw [show ((k + 1 : Nat) : Int) = (k : Int) + 1 by omega, entO_k]
        rfl
      have hl1 : (splice l (5 * k) (entB a n' t')).length = l.length := splice_len _ _ _ (by rw [entB_len]; omega)
      have hl2 : (allocL l n' t').length = l.length := by rw [hL, splice_len _ _ _ (by rw [hl1]; simp; omega), hl1]
      refine ⟨k, a, n', t', rfl, rfl, by unfold allocH; rw [if_pos h0, k3]; omega, ha, ⟨k2, k4, fun i hi => k5 i (by omega) hi, by omega, by omega, by omega, by omega, by omega, hl2, fun j hj => ?_, fun i hi => ?_, fun j hj hh => ?_, ?_, fun b m hb0 hbm => ?_⟩⟩
      · rw [hL, rawE_tail _ _ _ _ (by omega) (by rw [hl1]; simp; omega) hj]
        exact rawE_splice l (entB a n' t') k j (entB_len _ _ _) k2 hj (by omega)
      · rw [hL, rawR_tail _ _ _ _ (by omega) (by rw [hl1]; simp; omega) hi]
        exact rawR_head l _ _ _ (by rw [entB_len]; omega) (by omega)
      · have hc := good_chk hg
        obtain ⟨L, m1, m2, m3, _, _⟩ := fit_some hc hf
        have h4 := (holes_mem hc _ m1).2.2.2 _ (takenL_mem.2 ⟨j, hj, hh, rfl⟩)
        unfold allocA at ha
        dsimp only at h4
        omega
      · rw [hL, cut_splice_in _ _ _ _ _ (by rw [hl1]; simp; omega) (by omega) (by simp), Nat.sub_self, List.drop_zero, List.take_of_length_le (by simp)]
      · rw [hL, cut_splice _ _ _ _ _ (by rw [hl1]; simp; omega) (by simpa using hbm), cut_splice _ _ _ _ _ (by rw [entB_len]; omega) (by rw [entB_len]; omega)]
theorem AllocIs.ent {l l' : Bytes} {k a n t : Nat} (h : AllocIs l l' k a n t) (hb : l.length ≤ 6400) : hasE (rawE l' k) = true ∧ rAt (rawE l' k) = a ∧ rLen (rawE l' k) = n ∧ rTag (rawE l' k) = t := by
  rw [h.ents k h.k40, if_pos rfl]
  exact entB_rd a n t (by have := h.a1; omega) (by have := h.n1; omega) h.t1
theorem AllocIs.good {l l' : Bytes} {k a n t : Nat} (h : AllocIs l l' k a n t) (hg : Good l) : Good l' := by
  have hb := hg.bd
  obtain ⟨e1, e2, e3, e4⟩ := entB_rd a n t (by have := h.a1; omega) (by have := h.n1; omega) h.t1
  refine good_iff.2 ⟨by rw [h.len]; exact hg.len, ?_⟩
  rw [h.len]
  have h1 : GoodS l.length (rawE l') (rawR l) := by
    refine hg.s.putE k h.k40 (entB a n t) h.ents e1 ?_ (fun j hj _ hh => ?_)
    · unfold strayE
      rw [e2, e3, e4, tagB_true.2 ⟨by omega, by have := h.t1; omega⟩, lenB_true.2 ⟨by have := h.n0; omega, by have := h.n1; omega⟩, withinB_true.2 ⟨by have := h.a0; omega, by have := h.a1; omega, by have := h.a1; omega⟩]
      rfl
    · have := h.apart j hj hh
      unfold overE
      rw [e2, e3]
      simp only [Bool.and_eq_false_iff, decide_eq_false_iff_not]
      omega
  exact h1.putR 0 (rawR l 0) (fun j hj => by rw [h.rots j hj]; split <;> simp_all) (by
    cases hz : zeroE (rawR l 0) with
    | true => exact .inl rfl
    | false => exact .inr ⟨h1.root 0 (by omega) hz, fun j hj hne hz' => (h1.name j hj 0 (by omega) hz' hz).symm⟩)
theorem alloc_good {l : Bytes} (hg : Good l) (n t : Int) : Good (allocL l n t) := by
  by_cases h0 : allocE l n t = 0
  · obtain ⟨k, a, n', t', _, _, _, _, h⟩ := alloc_is hg h0
    exact h.good hg
  · have : allocL l n t = l := by unfold allocL; rw [if_neg h0]
    rw [this]; exact hg
theorem rootsL_mem {l : Bytes} {x : Bytes × Nat} : x ∈ rootsL l ↔ ∃ i, i < 8 ∧ zeroE (rawR l i) = false ∧ x = rootP (rawR l i) := by
  unfold rootsL rootsF
  simp only [List.mem_map, List.mem_filter, List.mem_range, Bool.not_eq_true']
  constructor
  · rintro ⟨i, ⟨h1, h2⟩, rfl⟩; exact ⟨i, h1, h2, rfl⟩
  · rintro ⟨i, h1, h2, rfl⟩; exact ⟨i, ⟨h1, h2⟩, rfl⟩
/-- what Free makes of an image -/
structure FreeIs (l l' : Bytes) (k : Nat) : Prop where
  k40 : k < 40
  has : hasE (rawE l k) = true
  len : l'.length = l.length
  ents : ∀ j, j < 40 → rawE l' j = if j = k then List.replicate 5 0 else rawE l j
  rots : ∀ i, i < 8 → rawR l' i = rawR l i
  nol : ∀ i, i < 8 → zeroE (rawR l i) = false → ((rawR l i).getD 10 0).toNat ≠ k + 1
  rest : ∀ b m, 288 ≤ b → (l'.drop b).take m = (l.drop b).take m
theorem free_is {l : Bytes} (hg : Good l) {x : Int} (h0 : freeE l x = 0) : ∃ k : Nat, x = (k : Int) + 1 ∧ FreeIs l (freeL l x) k := by
  have hb := hg.bd
  have hQ := h0
  unfold freeE at hQ
  by_cases hx : hE l x = 0
  · rw [if_neg (by simp [hx])] at hQ
    obtain ⟨k, hk, rfl, hh, _⟩ := hE_zero hx
    have hno : (rootsL l).any (fun r => (r.2 : Int) == (k : Int) + 1) = false := by
      cases ha : (rootsL l).any (fun r => (r.2 : Int) == (k : Int) + 1) with
      | false => rfl
      | true => rw [ha] at hQ; simp at hQ
    have hL : freeL l ((k : Int) + 1) = splice l (5 * k) (List.replicate 5 0) := by
      unfold freeL
      rw [if_pos h0, show ((k : Int) + 1 - 1).toNat = k by omega]
    rw [List.any_eq_false] at hno
    refine ⟨k, rfl, ⟨hk, hh, by rw [hL]; exact splice_len _ _ _ (by simp; omega), fun j hj => ?_, fun i hi => ?_, fun i hi hz => ?_, fun b m hb0 => ?_⟩⟩
    · rw [hL]; exact rawE_splice l _ k j (by simp) hk hj (by omega)
    · rw [hL]; exact rawR_head l _ _ _ (by simp; omega) (by omega)
    · have h1 := hno _ (rootsL_mem.2 ⟨i, hi, hz, rfl⟩)
      simp only [rootP, beq_iff_eq] at h1
      omega
    · rw [hL]; exact cut_splice _ _ _ _ _ (by simp; omega) (by simp; omega)
  · rw [if_pos hx] at hQ; exact absurd hQ hx
theorem FreeIs.good {l l' : Bytes} {k : Nat} (h : FreeIs l l' k) (hg : Good l) : Good l' := by
  refine good_iff.2 ⟨by rw [h.len]; exact hg.len, ?_⟩
  rw [h.len]
  have h1 : GoodS l.length (rawE l') (rawR l) := hg.s.dropE k h.k40 h.ents h.nol
  exact h1.putR 0 (rawR l 0) (fun j hj => by rw [h.rots j hj]; split <;> simp_all) (by
    cases hz : zeroE (rawR l 0) with
    | true => exact .inl rfl
    | false => exact .inr ⟨h1.root 0 (by omega) hz, fun j hj hne hz' => (h1.name j hj 0 (by omega) hz' hz).symm⟩)
theorem free_good {l : Bytes} (hg : Good l) (x : Int) : Good (freeL l x) := by
  by_cases h0 : freeE l x = 0
  · obtain ⟨k, _, h⟩ := free_is hg h0
    exact h.good hg
  · have : freeL l x = l := by unfold freeL; rw [if_neg h0]
    rw [this]; exact hg
end Go.Proofs.YtecjjhfaljdcpaaGreatDoor
/- HeapKeeps, the plain law: what an Alloc and a Write leave as it was. -/
namespace Go.Proofs.YtecjjhfaljdcpaaGreatDoor
open Go.RowKit

theorem obj_congr {l l' : Bytes} {k : Nat} (he : rawE l' k = rawE l k) (hs : hasE (rawE l k) = true → (l'.drop (rAt (rawE l k))).take (rLen (rawE l k)) = (l.drop (rAt (rawE l k))).take (rLen (rawE l k))) : objT l' k = objT l k ∧ objS l' k = objS l k := by
  unfold objT objS
  rw [he]
  by_cases h : hasE (rawE l k) = true
  · simp only [if_pos h, hs h]; exact ⟨trivial, trivial⟩
  · simp only [if_neg h]; exact ⟨trivial, trivial⟩
theorem hd_of {l : Bytes} {k : Nat} (hk : k < 40) (hh : hasE (rawE l k) = true) : hE l ((k : Int) + 1) = 0 ∧ gA l ((k : Int) + 1) = rAt (rawE l k) ∧ gL l ((k : Int) + 1) = rLen (rawE l k) ∧ gT l ((k : Int) + 1) = rTag (rawE l k) := by
  obtain ⟨h0, h1⟩ := hE_has hk hh
  unfold gA gL gT
  rw [if_pos h0, if_pos h0, if_pos h0, h1]
  exact ⟨h0, rfl, rfl, rfl⟩
section
variable {l l' : Bytes} {k a n t : Nat}
theorem AllocIs.keep (h : AllocIs l l' k a n t) (hg : Good l) {j : Nat} (hj : j < 40) (hne : j ≠ k) : objT l' j = objT l j ∧ objS l' j = objS l j := by
  refine obj_congr (by rw [h.ents j hj, if_neg hne]) fun hh => ?_
  have := strayE_false (hg.s.fit j hj hh)
  have := h.apart j hj hh
  exact h.rest _ _ (by omega) (by omega)
theorem AllocIs.hd (h : AllocIs l l' k a n t) (hg : Good l) : hE l' ((k : Int) + 1) = 0 ∧ gA l' ((k : Int) + 1) = a ∧ gL l' ((k : Int) + 1) = n ∧ gT l' ((k : Int) + 1) = t := by
  obtain ⟨e1, e2, e3, e4⟩ := h.ent hg.bd.2
  have := hd_of h.k40 e1
  rw [e2, e3, e4] at this
  exact this
theorem some_zero {x o m : Int} (h0 : hE l x = 0) (h1 : 0 ≤ o) (h2 : 0 ≤ m) (h3 : o + m ≤ gL l x) : someE l x o m = 0 := by
  unfold someE
  rw [if_neg (by omega), if_neg (by omega)]
theorem AllocIs.read (h : AllocIs l l' k a n t) (hg : Good l) : someE l' ((k : Int) + 1) 0 n = 0 ∧ readL l' ((k : Int) + 1) 0 n = List.replicate n 0 := by
  obtain ⟨e1, e2, e3, e4⟩ := h.hd hg
  have h0 : someE l' ((k : Int) + 1) 0 n = 0 := some_zero e1 (by omega) (by omega) (by omega)
  refine ⟨h0, ?_⟩
  unfold readL
  rw [if_pos h0, e2, show ((a : Int) + 0).toNat = a by omega, Int.toNat_natCast]
  exact h.zero
/-- what Write makes of an image -/
structure WriteIs (l l' : Bytes) (k o : Nat) (b : Bytes) : Prop where
  k40 : k < 40
  has : hasE (rawE l k) = true
  o0 : 288 ≤ o
  o1 : o + b.length ≤ l.length
  at0 : rAt (rawE l k) ≤ o
  at1 : o + b.length ≤ rAt (rawE l k) + rLen (rawE l k)
  eq : l' = splice l o b
theorem write_is (hg : Good l) {x c : Int} {b : Bytes} (h : someE l x c b.length = 0) : ∃ k o : Nat, x = (k : Int) + 1 ∧ gA l x + c = o ∧ WriteIs l (writeL l x c b) k o b := by
  obtain ⟨h0, h1, h2, h3, h4, h5, h6, h7⟩ := some_in hg h
  obtain ⟨k, hk, rfl, hh, he⟩ := hE_zero h0
  obtain ⟨_, f1, f2, f3⟩ := hd_of hk hh
  obtain ⟨o, ho⟩ := Int.eq_ofNat_of_zero_le (show 0 ≤ gA l ((k : Int) + 1) + c by omega)
  refine ⟨k, o, rfl, ho, hk, hh, by omega, by omega, by omega, by omega, ?_⟩
  unfold writeL
  rw [if_pos h, ho]
  rfl
variable {o : Nat} {b : Bytes}
theorem WriteIs.len (h : WriteIs l l' k o b) : l'.length = l.length := by rw [h.eq]; exact splice_len _ _ _ h.o1
theorem WriteIs.ents (h : WriteIs l l' k o b) (j : Nat) (hj : j < 40) : rawE l' j = rawE l j := by rw [h.eq]; exact rawE_tail _ _ _ _ h.o0 h.o1 hj
theorem WriteIs.rots (h : WriteIs l l' k o b) (j : Nat) (hj : j < 8) : rawR l' j = rawR l j := by rw [h.eq]; exact rawR_tail _ _ _ _ h.o0 h.o1 hj
theorem Good.apart {l : Bytes} (hg : Good l) {j k : Nat} (hj : j < 40) (hk : k < 40) (hne : j ≠ k) (h1 : hasE (rawE l j) = true) (h2 : hasE (rawE l k) = true) : overE (rawE l k) (rawE l j) = false := by
  rcases Nat.lt_or_gt_of_ne hne with h | h
  · exact hg.s.apart k hk j h h2 h1
  · rw [overE_symm]; exact hg.s.apart j hj k h h1 h2
theorem WriteIs.good (h : WriteIs l l' k o b) (hg : Good l) : Good l' := by
  refine good_iff.2 ⟨by rw [h.len]; exact hg.len, ?_⟩
  rw [h.len]
  have h1 : GoodS l.length (rawE l') (rawR l) := hg.s.putE k h.k40 (rawE l k) (fun j hj => by rw [h.ents j hj]; split <;> simp_all) h.has (hg.s.fit k h.k40 h.has) (fun j hj hne hh => hg.apart hj h.k40 hne hh h.has)
  exact h1.putR 0 (rawR l 0) (fun j hj => by rw [h.rots j hj]; split <;> simp_all) (by
    cases hz : zeroE (rawR l 0) with
    | true => exact .inl rfl
    | false => exact .inr ⟨h1.root 0 (by omega) hz, fun j hj hne hz' => (h1.name j hj 0 (by omega) hz' hz).symm⟩)
theorem write_good (hg : Good l) (x c : Int) (b : Bytes) : Good (writeL l x c b) := by
  by_cases h : someE l x c b.length = 0
  · obtain ⟨k, o, _, _, hw⟩ := write_is hg h
    exact hw.good hg
  · have : writeL l x c b = l := by unfold writeL; rw [if_neg h]
    rw [this]; exact hg
theorem WriteIs.keep (h : WriteIs l l' k o b) (hg : Good l) {j : Nat} (hj : j < 40) (hne : j ≠ k) : objT l' j = objT l j ∧ objS l' j = objS l j := by
  refine obj_congr (h.ents j hj) fun hh => ?_
  have := hg.apart hj h.k40 hne hh h.has
  unfold overE at this
  simp only [Bool.and_eq_false_iff, decide_eq_false_iff_not] at this
  have := h.at0
  have := h.at1
  rw [h.eq]
  exact cut_splice _ _ _ _ _ h.o1 (by omega)
theorem WriteIs.some (h : WriteIs l l' k o b) (x c m : Int) : someE l' x c m = someE l x c m ∧ gA l' x = gA l x := by
  have hx : hE l' x = hE l x ∧ (hE l x = 0 → hR l' x = hR l x) := by
    unfold hE hR
    by_cases hb : handleB x = false
    · rw [if_pos hb, if_pos hb]; exact ⟨rfl, fun h => by cases h⟩
    · have := handleB_true.1 (show handleB x = true by cases hx : handleB x <;> simp_all)
      rw [if_neg hb, if_neg hb, h.ents (x - 1).toNat (by omega)]
      exact ⟨rfl, fun _ => rfl⟩
  have hgl : gL l' x = gL l x ∧ gA l' x = gA l x := by
    unfold gL gA
    rw [hx.1]
    by_cases h0 : hE l x = 0
    · rw [if_pos h0, if_pos h0, if_pos h0, if_pos h0, hx.2 h0]; exact ⟨rfl, rfl⟩
    · rw [if_neg h0, if_neg h0, if_neg h0, if_neg h0]; exact ⟨rfl, rfl⟩
  unfold someE
  rw [hx.1, hgl.1]
  exact ⟨rfl, hgl.2⟩
end
theorem write_read {l : Bytes} (hg : Good l) {x c : Int} {b : Bytes} (h : someE l x c b.length = 0) : someE (writeL l x c b) x c b.length = 0 ∧ readL (writeL l x c b) x c b.length = b := by
  obtain ⟨k, o, _, ho, hw⟩ := write_is hg h
  obtain ⟨h1, h2⟩ := hw.some x c b.length
  rw [h] at h1
  refine ⟨h1, ?_⟩
  unfold readL
  rw [if_pos h1, h2, ho, Int.toNat_natCast, Int.toNat_natCast, hw.eq, cut_splice_in _ _ _ _ _ hw.o1 (Nat.le_refl _) (Nat.le_refl _), Nat.sub_self, List.drop_zero, List.take_of_length_le (Nat.le_refl _)]
theorem write_keep {l : Bytes} (hg : Good l) {x c : Int} {b : Bytes} (h : someE l x c b.length = 0) {j : Nat} (hj : j < 40) (hne : ((j : Int) + 1) ≠ x) : objT (writeL l x c b) j = objT l j ∧ objS (writeL l x c b) j = objS l j := by
  obtain ⟨k, o, hx, ho, hw⟩ := write_is hg h
  exact hw.keep hg hj (by omega)
theorem alloc_keep {l : Bytes} (hg : Good l) {n t : Int} (h : allocE l n t = 0) {j : Nat} (hj : j < 40) (hne : ((j : Int) + 1) ≠ allocH l n t) : objT (allocL l n t) j = objT l j ∧ objS (allocL l n t) j = objS l j := by
  obtain ⟨k, a, n', t', _, _, hH, _, hi⟩ := alloc_is hg h
  exact hi.keep hg hj (by omega)
theorem alloc_read {l : Bytes} (hg : Good l) {n t : Int} (h : allocE l n t = 0) : 1 ≤ n ∧ n ≤ 1000 ∧ 1 ≤ allocH l n t ∧ allocH l n t ≤ 40 ∧ someE (allocL l n t) (allocH l n t) 0 n = 0 ∧ readL (allocL l n t) (allocH l n t) 0 n = List.replicate n.toNat 0 ∧ hE (allocL l n t) (allocH l n t) = 0 ∧ gT (allocL l n t) (allocH l n t) = t := by
  obtain ⟨k, a, n', t', hn, ht, hH, _, hi⟩ := alloc_is hg h
  have h1 := hi.read hg
  have h2 := hi.hd hg
  have := hi.k40
  have := hi.n0
  have := hi.n1
  rw [hH, ht]
  rw [hn] at h1 h2 ⊢
  rw [ht] at h1 h2
  refine ⟨by omega, by omega, by omega, by omega, h1.1, ?_, h2.1, h2.2.2.2⟩
  rw [h1.2, Int.toNat_natCast]
theorem splice_cut (l x : Bytes) (o a m : Nat) (hx : o + x.length ≤ l.length) (h1 : a ≤ o) (h2 : o + x.length ≤ a + m) (h3 : a + m ≤ l.length) : ((splice l o x).drop a).take m = splice ((l.drop a).take m) (o - a) x := by
  apply List.ext_getElem?
  intro q
  have hl : ((l.drop a).take m).length = m := by simp; omega
  rw [splice_at _ _ _ _ (by omega), List.getElem?_take, List.getElem?_drop]
  by_cases hq : q < m
  · rw [if_pos hq, splice_at _ _ _ _ hx]
    by_cases hi : o ≤ a + q ∧ a + q < o + x.length
    · rw [if_pos hi, if_pos (by omega)]; congr 1; omega
    · rw [if_neg hi, if_neg (by omega), List.getElem?_take, List.getElem?_drop, if_pos hq]
  · rw [if_neg hq, if_neg (by omega), List.getElem?_take, if_neg hq]
/-- the first part of the law -/
theorem keeps_first : ∃ l1 : Bytes, allocL (List.replicate 320 0) 4 2 = l1 ∧ Good l1 ∧ allocE (List.replicate 320 0) 4 2 = 0 ∧ allocH (List.replicate 320 0) 4 2 = 1 ∧ someE l1 1 1 1 = 0 ∧ someE (writeL l1 1 1 [7]) 1 0 4 = 0 ∧ readL (writeL l1 1 1 [7]) 1 0 4 = [0, 7, 0, 0] := by
  have hg : Good (List.replicate 320 0) := good_zero' rfl
  have hz : ∀ j, j < 40 → hasE (rawE (List.replicate 320 0) j) = false := fun j hj => by
    rw [show rawE (List.replicate 320 0) j = List.replicate 5 0 from zeros_cut 320 (5 * j) 5 (by omega)]; exact zeros_has
  have hfh : fH (List.replicate 320 0) 40 = 1 := by
    rcases fH_spec (List.replicate 320 0) 40 (Nat.le_refl _) with ⟨_, hall⟩ | ⟨q, _, k2, k3, k4, k5⟩
    · have := hall 0 (by omega) (by omega)
      rw [hz 0 (by omega)] at this; cases this
    · rw [k3]
      by_cases hq : q = 0
      · rw [hq]
      · have := k5 0 (by omega) (by omega)
        rw [hz 0 (by omega)] at this; cases this
  have hc := good_chk hg
  have hlen : (List.replicate 320 (0 : UInt8)).length = 320 := List.length_replicate
  generalize List.replicate 320 (0 : UInt8) = l at *
  rw [hlen] at hc
  have hE : allocE l 4 2 = 0 := by
    have hf : fitE ((320 : Nat) - 288 : Int) (takenL l) 4 = 0 := fit_exists hc (p := 0) (by omega) (by omega) (by omega) (fun e he => by
      obtain ⟨j, hj, hh, _⟩ := takenL_mem.1 he
      rw [hz j hj] at hh; cases hh)
    unfold allocE
    rw [if_neg (by decide), hlen, if_neg (by rw [hfh, hf]; decide)]
  have hH : allocH l 4 2 = 1 := by unfold allocH; rw [if_pos hE, hfh]; rfl
  obtain ⟨k, a, n', t', hn, ht, hH', _, hi⟩ := alloc_is hg hE
  obtain rfl : n' = 4 := by omega
  obtain rfl : k = 0 := by omega
  have hg1 := hi.good hg
  obtain ⟨d1, d2, d3, d4⟩ := hi.hd hg
  have hzero := hi.zero
  have hl1 := hi.len
  have ha1 := hi.a1
  generalize allocL l 4 2 = l1 at *
  rw [show ((0 : Nat) : Int) + 1 = 1 from rfl] at *
  have hs : someE l1 1 1 ([7] : Bytes).length = 0 := some_zero d1 (by decide) (by decide) (by rw [d3]; decide)
  obtain ⟨k2, o, _, ho, hw⟩ := write_is hg1 hs
  have hs2 : someE (writeL l1 1 1 [7]) 1 0 4 = 0 := by
    rw [(hw.some 1 0 4).1]
    exact some_zero d1 (by decide) (by decide) (by rw [d3]; decide)
  refine ⟨l1, rfl, hg1, hE, hH, hs, hs2, ?_⟩
  unfold readL
  rw [if_pos hs2, (hw.some 1 0 4).2, d2, show ((a : Int) + 0).toNat = a by omega, show (4 : Int).toNat = 4 from rfl, hw.eq]
  rw [d2] at ho
  obtain rfl : o = a + 1 := by omega
  rw [splice_cut _ _ _ _ _ hw.o1 (by omega) (by simp) (by omega), hzero, Nat.add_sub_cancel_left]
  rfl
end Go.Proofs.YtecjjhfaljdcpaaGreatDoor
/- Objects moved closer together, plainly. No walk here. -/
namespace Go.Proofs.YtecjjhfaljdcpaaGreatDoor
open Go.RowKit Go.Sort Go.Shelf Go.Lib

abbrev Ent := Int × Bytes
def cmpM (x y : Ent) : Int := Lib.compareInt (rAt x.2 : Int) (rAt y.2 : Int)
theorem ltM (x y : Ent) : ltOf cmpM x y = decide (rAt x.2 < rAt y.2) := by
  unfold ltOf cmpM Lib.compareInt
  by_cases h1 : (rAt x.2 : Int) < rAt y.2
  · have : rAt x.2 < rAt y.2 := by omega
    simp [h1, this]
  · have h3 : ¬ rAt x.2 < rAt y.2 := by omega
    by_cases h2 : (rAt y.2 : Int) < rAt x.2 <;> simp [h1, h2, h3]
theorem swoM : SWO (ltOf cmpM) where
  irrefl x := by rw [ltM]; simp
  trans x y z h1 h2 := by rw [ltM] at *; simp at *; omega
  ntrans x y z h1 h2 := by rw [ltM] at *; simp at *; omega
/-- entries by where they begin -/
def sortM (l : Bytes) : List Ent := pdqL cmpM (entriesL l)
theorem sortM_perm (l : Bytes) : (sortM l).Perm (entriesL l) := (pdqL_perm cmpM swoM _).1
theorem sortM_sorted (l : Bytes) : (sortM l).Pairwise (fun a b => rAt a.2 ≤ rAt b.2) := (pdqL_perm cmpM swoM _).2.imp fun {a b} h => by
  rw [ltM] at h; simp at h; omega
/-- behind each other, from a to n -/
def TidyM : Nat → List Ent → Nat → Prop
  | a, [], n => a ≤ n
  | a, e :: r, n => a ≤ rAt e.2 ∧ 1 ≤ rLen e.2 ∧ TidyM (rAt e.2 + rLen e.2) r n
theorem tidyM_le : ∀ {S : List Ent} {a n : Nat}, TidyM a S n → a ≤ n
  | [], _, _, h => h
  | e :: r, _, _, ⟨h1, h2, h3⟩ => by have := tidyM_le h3; omega
theorem tidyM_mem : ∀ {S : List Ent} {a n : Nat}, TidyM a S n → ∀ e ∈ S, a ≤ rAt e.2 ∧ 1 ≤ rLen e.2 ∧ rAt e.2 + rLen e.2 ≤ n
  | [], _, _, _, e, he => by cases he
  | x :: r, _, _, ⟨h1, h2, h3⟩, e, he => by
    rcases List.mem_cons.1 he with rfl | he
    · have := tidyM_le h3; omega
    · have := tidyM_mem h3 e he; omega
theorem tidyM_mono : ∀ {S : List Ent} {a b n : Nat}, TidyM a S n → b ≤ a → TidyM b S n
  | [], _, _, _, h, hb => Nat.le_trans hb h
  | _ :: _, _, _, _, ⟨h1, h2, h3⟩, hb => ⟨by omega, h2, h3⟩
theorem tidyM_strict : ∀ {S : List Ent} {a n : Nat}, TidyM a S n → S.Pairwise (fun x y => rAt x.2 < rAt y.2)
  | [], _, _, _ => List.Pairwise.nil
  | e :: r, a, n, ⟨h1, h2, h3⟩ => List.Pairwise.cons (fun x hx => by have := tidyM_mem h3 x hx; omega) (tidyM_strict h3)
theorem tidyM_mk (n : Nat) : ∀ (S : List Ent) (a : Nat), (∀ e ∈ S, a ≤ rAt e.2 ∧ 1 ≤ rLen e.2 ∧ rAt e.2 + rLen e.2 ≤ n) → S.Pairwise (fun x y => rAt x.2 + rLen x.2 ≤ rAt y.2) → a ≤ n → TidyM a S n
  | [], _, _, _, h => h
  | e :: r, a, hb, hp, _ => by
    obtain ⟨h1, h2, h3⟩ := hb e (List.mem_cons_self ..)
    rw [List.pairwise_cons] at hp
    exact ⟨h1, h2, tidyM_mk n r _ (fun x hx => by have := hb x (List.mem_cons_of_mem _ hx); have := hp.1 x hx; omega) hp.2 (by omega)⟩
theorem entL_mem {l : Bytes} {e : Ent} : e ∈ entriesL l ↔ ∃ k : Nat, k < 40 ∧ hasE (rawE l k) = true ∧ e = ((k : Int) + 1, rawE l k) := by
  unfold entriesL entsL
  simp only [List.mem_map, List.mem_filter, List.mem_range]
  constructor
  · rintro ⟨k, ⟨h1, h2⟩, rfl⟩; exact ⟨k, h1, h2, rfl⟩
  · rintro ⟨k, h1, h2, rfl⟩; exact ⟨k, ⟨h1, h2⟩, rfl⟩
theorem entL_nodup (l : Bytes) : (entriesL l).Pairwise (fun a b => a.1 ≠ b.1) := by
  unfold entriesL entsL
  rw [List.pairwise_map]
  exact (List.pairwise_lt_range.filter _).imp fun {a b} h => by dsimp only; omega
theorem sortM_nodup (l : Bytes) : (sortM l).Pairwise (fun a b => a.1 ≠ b.1) := ((sortM_perm l).pairwise_iff (R := fun a b : Ent => a.1 ≠ b.1) (fun h => h.symm)).2 (entL_nodup l)
theorem tidy_sortM {l : Bytes} (hg : Good l) : TidyM 288 (sortM l) l.length := by
  have hb := hg.bd
  refine tidyM_mk _ _ _ (fun e he => ?_) ?_ hb.1
  · obtain ⟨k, hk, hh, rfl⟩ := entL_mem.1 ((sortM_perm l).mem_iff.1 he)
    have := strayE_false (hg.s.fit k hk hh)
    dsimp only; omega
  · rw [List.pairwise_iff_getElem]
    intro i j hi hj hij
    have hs := List.pairwise_iff_getElem.1 (sortM_sorted l) i j hi hj hij
    have hn := List.pairwise_iff_getElem.1 (sortM_nodup l) i j hi hj hij
    obtain ⟨k, hk, hh, e1⟩ := entL_mem.1 ((sortM_perm l).mem_iff.1 (List.getElem_mem hi))
    obtain ⟨q, hq, hh2, e2⟩ := entL_mem.1 ((sortM_perm l).mem_iff.1 (List.getElem_mem hj))
    rw [e1, e2] at hs hn ⊢
    dsimp only at hs hn ⊢
    have ha := hg.apart (j := q) (k := k) hq hk (by omega) hh2 hh
    have h1 := strayE_false (hg.s.fit k hk hh)
    have h2 := strayE_false (hg.s.fit q hq hh2)
    unfold overE at ha
    simp only [Bool.and_eq_false_iff, decide_eq_false_iff_not] at ha
    omega
theorem sortM_unique {l : Bytes} {S : List Ent} {a n : Nat} (hp : S.Perm (entriesL l)) (ht : TidyM a S n) : sortM l = S := by
  have h1 : (sortM l).Perm S := (sortM_perm l).trans hp.symm
  have hs := tidyM_strict ht
  refine List.Perm.eq_of_pairwise (le := fun x y : Ent => rAt x.2 ≤ rAt y.2) (fun x y hx hy h h' => ?_) (sortM_sorted l) (hs.imp fun h => Nat.le_of_lt h) h1
  have hx' : x ∈ S := h1.mem_iff.1 hx
  obtain ⟨i, hi, rfl⟩ := List.getElem_of_mem hx'
  obtain ⟨j, hj, rfl⟩ := List.getElem_of_mem hy
  rw [List.pairwise_iff_getElem] at hs
  rcases Nat.lt_trichotomy i j with hij | rfl | hij
  · have := hs i j hi hj hij; omega
  · rfl
  · have := hs j i hj hi hij; omega
/-- the first that has a gap ahead of it, and where it goes -/
def gapM : Nat → List Ent → Option (Ent × Nat)
  | _, [] => none
  | a, e :: r => if a < rAt e.2 then some (e, a) else gapM (rAt e.2 + rLen e.2) r
/-- how many stand behind the first gap -/
def packM : Nat → List Ent → Nat
  | _, [] => 0
  | a, e :: r => if a < rAt e.2 then r.length + 1 else packM (rAt e.2 + rLen e.2) r
theorem packM_le : ∀ (S : List Ent) (a : Nat), packM a S ≤ S.length
  | [], _ => Nat.le_refl _
  | e :: r, a => by
    unfold packM; split
    · simp
    · have := packM_le r (rAt e.2 + rLen e.2); simp; omega
theorem packM_zero : ∀ {S : List Ent} {a : Nat}, packM a S = 0 → gapM a S = none
  | [], _, _ => rfl
  | e :: r, a, h => by
    unfold packM at h; unfold gapM
    by_cases hc : a < rAt e.2
    · rw [if_pos hc] at h; omega
    · rw [if_neg hc] at h ⊢; exact packM_zero h
def swapE (e : Ent) (r' : Bytes) (x : Ent) : Ent := if x.1 = e.1 then (e.1, r') else x
theorem swap_none {e : Ent} {r' : Bytes} : ∀ {S : List Ent}, (∀ x ∈ S, x.1 ≠ e.1) → S.map (swapE e r') = S
  | [], _ => rfl
  | x :: r, h => by
    rw [List.map_cons, swap_none (fun y hy => h y (List.mem_cons_of_mem _ hy))]
    unfold swapE
    rw [if_neg (h x (List.mem_cons_self ..))]
theorem gap_swap {n : Nat} {e : Ent} {at_ : Nat} {r' : Bytes} (h1 : rAt r' = at_) (h2 : rLen r' = rLen e.2) : ∀ {S : List Ent} {a : Nat}, TidyM a S n → S.Pairwise (fun x y => x.1 ≠ y.1) → gapM a S = some (e, at_) →
    TidyM a (S.map (swapE e r')) n ∧ packM a (S.map (swapE e r')) < packM a S ∧ a ≤ at_ ∧ at_ < rAt e.2 ∧ e ∈ S ∧ ∀ x ∈ S, x.1 ≠ e.1 → at_ + rLen e.2 ≤ rAt x.2 ∨ rAt x.2 + rLen x.2 ≤ at_
  | [], _, _, _, h => by cases h
  | x :: r, a, ⟨t1, t2, t3⟩, hp, h => by
    rw [List.pairwise_cons] at hp
    unfold gapM at h
    by_cases hc : a < rAt x.2
    · rw [if_pos hc] at h
      have h' := Option.some.inj h
      injection h' with h3 h4
      subst h3 h4
      have hr : r.map (swapE x r') = r := swap_none (fun y hy => (hp.1 y hy).symm)
      rw [List.map_cons, hr]
      have hx : swapE x r' x = (x.1, r') := by unfold swapE; rw [if_pos rfl]
      rw [hx]
      have hm : TidyM (rAt r' + rLen r') r n := tidyM_mono t3 (by omega)
      refine ⟨⟨by dsimp only; omega, by dsimp only; omega, hm⟩, ?_, Nat.le_refl _, hc, List.mem_cons_self .., fun y hy hne => ?_⟩
      · unfold packM
        rw [if_pos hc, if_neg (by dsimp only; omega)]
        have := packM_le r (rAt r' + rLen r')
        dsimp only; omega
      · rcases List.mem_cons.1 hy with rfl | hy
        · exact absurd rfl hne
        · have := tidyM_mem t3 y hy; left; omega
    · rw [if_neg hc] at h
      obtain ⟨g1, g2, g3, g4, g5, g6⟩ := gap_swap h1 h2 t3 hp.2 h
      have hne : x.1 ≠ e.1 := hp.1 e g5
      have hx : swapE e r' x = x := by unfold swapE; rw [if_neg hne]
      rw [List.map_cons, hx]
      refine ⟨⟨t1, t2, g1⟩, ?_, by omega, g4, List.mem_cons_of_mem _ g5, fun y hy hne' => ?_⟩
      · unfold packM
        rw [if_neg hc, if_neg hc]; exact g2
      · rcases List.mem_cons.1 hy with rfl | hy
        · right; omega
        · exact g6 y hy hne'
/-- what Move makes of an image: the object of the handle k + 1 at another place -/
def moveL (l : Bytes) (k a : Nat) : Bytes := splice (splice l (5 * k) (entB a (rLen (rawE l k)) (rTag (rawE l k)).toNat)) a ((l.drop (rAt (rawE l k))).take (rLen (rawE l k)))
structure MoveIs (l l' : Bytes) (k a : Nat) : Prop where
  k40 : k < 40
  has : hasE (rawE l k) = true
  a0 : 288 ≤ a
  a1 : a < rAt (rawE l k)
  len : l'.length = l.length
  ents : ∀ j, j < 40 → rawE l' j = if j = k then entB a (rLen (rawE l k)) (rTag (rawE l k)).toNat else rawE l j
  rots : ∀ i, i < 8 → rawR l' i = rawR l i
  apart : ∀ j, j < 40 → j ≠ k → hasE (rawE l j) = true → a + rLen (rawE l k) ≤ rAt (rawE l j) ∨ rAt (rawE l j) + rLen (rawE l j) ≤ a
  body : (l'.drop a).take (rLen (rawE l k)) = (l.drop (rAt (rawE l k))).take (rLen (rawE l k))
  rest : ∀ b m, 288 ≤ b → b + m ≤ a ∨ a + rLen (rawE l k) ≤ b → (l'.drop b).take m = (l.drop b).take m
theorem move_is {l : Bytes} (hg : Good l) {k a : Nat} (hk : k < 40) (hh : hasE (rawE l k) = true) (ha : 288 ≤ a) (ha1 : a < rAt (rawE l k)) (hap : ∀ j, j < 40 → j ≠ k → hasE (rawE l j) = true → a + rLen (rawE l k) ≤ rAt (rawE l j) ∨ rAt (rawE l j) + rLen (rawE l j) ≤ a) : MoveIs l (moveL l k a) k a := by
  have hb := hg.bd
  have hs := strayE_false (hg.s.fit k hk hh)
  have hbl : ((l.drop (rAt (rawE l k))).take (rLen (rawE l k))).length = rLen (rawE l k) := by simp; omega
  have hl1 : (splice l (5 * k) (entB a (rLen (rawE l k)) (rTag (rawE l k)).toNat)).length = l.length := splice_len _ _ _ (by rw [entB_len]; omega)
  have hfit : a + ((l.drop (rAt (rawE l k))).take (rLen (rawE l k))).length ≤ (splice l (5 * k) (entB a (rLen (rawE l k)) (rTag (rawE l k)).toNat)).length := by rw [hbl, hl1]; omega
  refine ⟨hk, hh, ha, ha1, by unfold moveL; rw [splice_len _ _ _ hfit, hl1], fun j hj => ?_, fun i hi => ?_, hap, ?_, fun b m hb0 hbm => ?_⟩
  · unfold moveL
    rw [rawE_tail _ _ _ _ ha hfit hj]
    exact rawE_splice l _ k j (entB_len _ _ _) hk hj (by omega)
  · unfold moveL
    rw [rawR_tail _ _ _ _ ha hfit hi]
    exact rawR_head l _ _ _ (by rw [entB_len]; omega) (by omega)
  · unfold moveL
    rw [cut_splice_in _ _ _ _ _ hfit (Nat.le_refl _) (by rw [hbl]; exact Nat.le_refl _), Nat.sub_self, List.drop_zero, List.take_of_length_le (by rw [hbl]; exact Nat.le_refl _)]
  · unfold moveL
    rw [cut_splice _ _ _ _ _ hfit (by rw [hbl]; exact hbm), cut_splice _ _ _ _ _ (by rw [entB_len]; omega) (by rw [entB_len]; omega)]
section
variable {l l' : Bytes} {k a : Nat}
theorem MoveIs.ent (h : MoveIs l l' k a) (hg : Good l) : hasE (rawE l' k) = true ∧ rAt (rawE l' k) = a ∧ rLen (rawE l' k) = rLen (rawE l k) ∧ rTag (rawE l' k) = rTag (rawE l k) := by
  have hs := strayE_false (hg.s.fit k h.k40 h.has)
  have hb := hg.bd
  have ha := h.a1
  obtain ⟨e1, e2, e3, e4⟩ := entB_rd a (rLen (rawE l k)) (rTag (rawE l k)).toNat (by omega) (by omega) (by omega)
  rw [h.ents k h.k40, if_pos rfl]
  exact ⟨e1, e2, e3, by omega⟩
theorem MoveIs.good (h : MoveIs l l' k a) (hg : Good l) : Good l' := by
  have hs := strayE_false (hg.s.fit k h.k40 h.has)
  have hb := hg.bd
  have ha := h.a1
  have ha0 := h.a0
  obtain ⟨e1, e2, e3, e4⟩ := entB_rd a (rLen (rawE l k)) (rTag (rawE l k)).toNat (by omega) (by omega) (by omega)
  refine good_iff.2 ⟨by rw [h.len]; exact hg.len, ?_⟩
  rw [h.len]
  have h1 : GoodS l.length (rawE l') (rawR l) := by
    refine hg.s.putE k h.k40 _ h.ents e1 ?_ (fun j hj hne hh => ?_)
    · unfold strayE
      rw [e2, e3, e4, tagB_true.2 ⟨by omega, by omega⟩, lenB_true.2 ⟨by omega, by omega⟩, withinB_true.2 ⟨by omega, by omega, by omega⟩]
      rfl
    · have := h.apart j hj hne hh
      unfold overE
      rw [e2, e3]
      simp only [Bool.and_eq_false_iff, decide_eq_false_iff_not]
      omega
  exact h1.putR 0 (rawR l 0) (fun j hj => by rw [h.rots j hj]; split <;> simp_all) (by
    cases hz : zeroE (rawR l 0) with
    | true => exact .inl rfl
    | false => exact .inr ⟨h1.root 0 (by omega) hz, fun j hj hne hz' => (h1.name j hj 0 (by omega) hz' hz).symm⟩)
/-- no object is another one -/
theorem MoveIs.keep (h : MoveIs l l' k a) (hg : Good l) {j : Nat} (hj : j < 40) : objT l' j = objT l j ∧ objS l' j = objS l j := by
  by_cases e : j = k
  · subst e
    obtain ⟨e1, e2, e3, e4⟩ := h.ent hg
    unfold objT objS
    rw [e1, h.has, e2, e3, e4]
    simp only [if_true]
    exact ⟨trivial, h.body⟩
  · refine obj_congr (by rw [h.ents j hj, if_neg e]) fun hh => ?_
    have := strayE_false (hg.s.fit j hj hh)
    have := h.apart j hj e hh
    exact h.rest _ _ (by omega) (by omega)
theorem MoveIs.roots (h : MoveIs l l' k a) : rootsL l' = rootsL l := by
  unfold rootsL rootsF
  rw [List.filter_congr (fun i hi => by rw [h.rots i (List.mem_range.1 hi)])]
  exact List.map_congr_left fun i hi => by rw [h.rots i (List.mem_range.1 (List.mem_filter.1 hi).1)]
theorem MoveIs.entries (h : MoveIs l l' k a) (hg : Good l) : entriesL l' = (entriesL l).map (swapE ((k : Int) + 1, rawE l k) (rawE l' k)) := by
  have he := h.ent hg
  unfold entriesL entsL
  rw [List.map_map, List.filter_congr (q := fun j => hasE (rawE l j)) (fun j hj => by
    have hj := List.mem_range.1 hj
    by_cases e : j = k
    · rw [e, he.1, h.has]
    · rw [h.ents j hj, if_neg e])]
  refine List.map_congr_left fun j hj => ?_
  have hj := List.mem_range.1 (List.mem_filter.1 hj).1
  simp only [Function.comp_apply, swapE]
  by_cases e : j = k
  · subst e; rw [if_pos rfl]
  · rw [if_neg (by omega), h.ents j hj, if_neg e]
theorem MoveIs.taken (h : MoveIs l l' k a) (hg : Good l) : (takenL l').length = (takenL l).length ∧ sumX (takenL l') = sumX (takenL l) := by
  have he := h.ent hg
  have hE := h.entries hg
  constructor
  · unfold takenL; rw [List.length_map, List.length_map, hE, List.length_map]
  · have key : ∀ L : List Ent, (∀ e ∈ L, e.1 = (k : Int) + 1 → rLen e.2 = rLen (rawE l k)) → sumX ((L.map (swapE ((k : Int) + 1, rawE l k) (rawE l' k))).map takeX) = sumX (L.map takeX) := by
      intro L
      induction L with
      | nil => intro _; rfl
      | cons x r ih =>
        intro hL
        rw [List.map_cons, List.map_cons, List.map_cons, sumX_cons, sumX_cons, ih (fun e he => hL e (List.mem_cons_of_mem _ he))]
        congr 1
        unfold swapE takeX
        by_cases e : x.1 = (k : Int) + 1
        · rw [if_pos e]
          have := hL x (List.mem_cons_self ..) e
          dsimp only; omega
        · rw [if_neg e]
    unfold takenL
    rw [hE]
    exact key _ fun e he1 he2 => by
      obtain ⟨j, hj, hh, rfl⟩ := entL_mem.1 he1
      dsimp only at he2 ⊢
      rw [show j = k by omega]
end
/-- a step, if there is one -/
theorem step_is {l : Bytes} (hg : Good l) {e : Ent} {a : Nat} (h : gapM 288 (sortM l) = some (e, a)) : ∃ k : Nat, e = ((k : Int) + 1, rawE l k) ∧ MoveIs l (moveL l k a) k a ∧ packM 288 (sortM (moveL l k a)) < packM 288 (sortM l) := by
  have ht := tidy_sortM hg
  have hn := sortM_nodup l
  have hmem : e ∈ sortM l ∧ 288 ≤ a ∧ a < rAt e.2 ∧ ∀ x ∈ sortM l, x.1 ≠ e.1 → a + rLen e.2 ≤ rAt x.2 ∨ rAt x.2 + rLen x.2 ≤ a := by
    have aux : ∀ {S : List Ent} {b n : Nat}, TidyM b S n → S.Pairwise (fun x y => x.1 ≠ y.1) → gapM b S = some (e, a) → e ∈ S ∧ b ≤ a ∧ a < rAt e.2 ∧ ∀ x ∈ S, x.1 ≠ e.1 → a + rLen e.2 ≤ rAt x.2 ∨ rAt x.2 + rLen x.2 ≤ a := by
      intro S
      induction S with
      | nil => intro b n _ _ h; cases h
      | cons x r ih =>
        intro b n ⟨t1, t2, t3⟩ hp h
        rw [List.pairwise_cons] at hp
        unfold gapM at h
        by_cases hc : b < rAt x.2
        · rw [if_pos hc] at h
          have h' := Option.some.inj h
          injection h' with h3 h4
          subst h3 h4
          refine ⟨List.mem_cons_self .., Nat.le_refl _, hc, fun y hy hne => ?_⟩
          rcases List.mem_cons.1 hy with rfl | hy
          · exact absurd rfl hne
          · have := tidyM_mem t3 y hy; left; omega
        · rw [if_neg hc] at h
          obtain ⟨g1, g2, g3, g4⟩ := ih t3 hp.2 h
          refine ⟨List.mem_cons_of_mem _ g1, by omega, g3, fun y hy hne => ?_⟩
          rcases List.mem_cons.1 hy with rfl | hy
          · right; omega
          · exact g4 y hy hne
    exact aux ht hn h
  obtain ⟨m1, m2, m3, m4⟩ := hmem
  obtain ⟨k, hk, hh, rfl⟩ := entL_mem.1 ((sortM_perm l).mem_iff.1 m1)
  dsimp only at m3 m4
  have hM := move_is hg hk hh m2 m3 (fun j hj hne hj2 => by
    have := m4 ((j : Int) + 1, rawE l j) ((sortM_perm l).mem_iff.2 (entL_mem.2 ⟨j, hj, hj2, rfl⟩)) (by dsimp only; omega)
    exact this)
  refine ⟨k, rfl, hM, ?_⟩
  obtain ⟨e1, e2, e3, e4⟩ := hM.ent hg
  obtain ⟨g1, g2, -⟩ := gap_swap (r' := rawE (moveL l k a) k) e2 e3 ht hn h
  have hp : ((sortM l).map (swapE ((k : Int) + 1, rawE l k) (rawE (moveL l k a) k))).Perm (entriesL (moveL l k a)) := by
    rw [hM.entries hg]; exact (sortM_perm l).map _
  rw [sortM_unique hp g1]
  exact g2
/-- all that is free is one run -/
theorem packed_runs : ∀ {S : List Ent} {a n : Nat}, TidyM a S n → gapM a S = none → (runsX ((a : Int) - 288) (S.map takeX) ((n : Int) - 288)).length ≤ 1
  | [], a, n, _, _ => by
    rw [List.map_nil, runsX_nil]; split <;> simp
  | e :: r, a, n, ⟨t1, t2, t3⟩, h => by
    unfold gapM at h
    by_cases hc : a < rAt e.2
    · rw [if_pos hc] at h; cases h
    · rw [if_neg hc] at h
      have := packed_runs t3 h
      rw [List.map_cons, runsX_cons]
      unfold takeX
      dsimp only
      rw [if_neg (by omega), List.nil_append, show ((rAt e.2 : Int) - 288 + rLen e.2) = ((rAt e.2 + rLen e.2 : Nat) : Int) - 288 by omega]
      exact this
theorem tidy_take : ∀ {S : List Ent} {a n : Nat}, TidyM a S n → Tidy ((a : Int) - 288) (S.map takeX) ((n : Int) - 288)
  | [], a, n, h => by
    have h : a ≤ n := h
    show (a : Int) - 288 ≤ (n : Int) - 288
    omega
  | e :: r, a, n, ⟨t1, t2, t3⟩ => by
    have := tidy_take t3
    refine ⟨?_, ?_, ?_⟩
    · unfold takeX; dsimp only; omega
    · unfold takeX; dsimp only; omega
    · show Tidy ((rAt e.2 : Int) - 288 + rLen e.2) (r.map takeX) _
      rw [show ((rAt e.2 : Int) - 288 + rLen e.2) = ((rAt e.2 + rLen e.2 : Nat) : Int) - 288 by omega]
      exact this
theorem packed_holes {l : Bytes} (hg : Good l) (h : gapM 288 (sortM l) = none) : (holesX ((l.length : Int) - 288) (takenL l)).length ≤ 1 ∧ mostX (holesX ((l.length : Int) - 288) (takenL l)) = ((l.length : Int) - 288) - sumX (takenL l) := by
  have ht := tidy_sortM hg
  have hc := good_chk hg
  have hs : sortE (takenL l) = (sortM l).map takeX := sortE_unique (a := ((288 : Nat) : Int) - 288) (by unfold takenL; exact (sortM_perm l).map _) (tidy_take ht)
  have h1 := packed_runs ht h
  have e : holesX ((l.length : Int) - 288) (takenL l) = runsX (((288 : Nat) : Int) - 288) ((sortM l).map takeX) ((l.length : Int) - 288) := by rw [holes_runs, hs]; rfl
  rw [← e] at h1
  refine ⟨h1, ?_⟩
  have hsum := holds_sum hc
  have hm := holes_mem hc
  generalize holesX ((l.length : Int) - 288) (takenL l) = H at *
  rcases H with _ | ⟨x, _ | ⟨y, r⟩⟩
  · have : sumX ([] : List Ext) = 0 := rfl
    show (0 : Int) = _
    omega
  · have hx := hm x (by simp)
    have e1 : sumX [x] = x.2 := by show (0 : Int) + x.2 = x.2; omega
    have e2 : mostX [x] = max 0 x.2 := rfl
    rw [e2, Int.max_eq_right (by omega)]
    omega
  · simp at h1
end Go.Proofs.YtecjjhfaljdcpaaGreatDoor
/- Laid: library functions whose contracts are proved over whatever program: the table of numbers, and a field a function or a type. -/
namespace Go.Proofs.YtecjjhfaljdcpaaGreatDoor
open Go.Shelf
end Go.Proofs.YtecjjhfaljdcpaaGreatDoor
/- The contracts of heap.Move and of package move's Step. -/
namespace Go.Proofs.YtecjjhfaljdcpaaGreatDoor
open Go.RowKit Go.Sort Go.Shelf Go.Lib

theorem HpM.rowB {w0 w w' : World} {F F' : Nat → Prop} {h : Nat} {l' : Bytes} (hm : HpM w0 w w' F F' h l') {g cap : Nat} {b : Bytes} (hr : Row w 5 g cap b) (hn : ¬ F g) : Row w' 5 g cap b ∧ ¬ F' g :=
  ⟨hr.block (hm.kp.block _ hr.lt hn), fun hk => by rcases hm.nw _ hk with h | h; exact hn h; have := hr.lt; omega⟩
section
variable {w0 w : World} {F : Nat → Prop} {h : Nat} {l : Bytes}
end
end Go.Proofs.YtecjjhfaljdcpaaGreatDoor
/- Package move: Step, All, Gain; stat.Heap. -/
namespace Go.Proofs.YtecjjhfaljdcpaaGreatDoor
open Go.RowKit Go.Sort Go.Shelf Go.Lib

/-- is there a step; the image behind it -/
def stepB (l : Bytes) : Bool := (gapM 288 (sortM l)).isSome
def stepL (l : Bytes) : Bytes := match gapM 288 (sortM l) with
  | some (e, a) => moveL l (e.1 - 1).toNat a
  | none => l
theorem stepL_some {l : Bytes} {e : Ent} {a : Nat} (h : gapM 288 (sortM l) = some (e, a)) : stepL l = moveL l (e.1 - 1).toNat a := by unfold stepL; rw [h]
theorem stepL_none {l : Bytes} (h : gapM 288 (sortM l) = none) : stepL l = l := by unfold stepL; rw [h]
theorem gapM_ge : ∀ {S : List Ent} {b n : Nat} {e : Ent} {a : Nat}, TidyM b S n → gapM b S = some (e, a) → b ≤ a ∧ a < rAt e.2 ∧ e ∈ S
  | [], _, _, _, _, _, h => by cases h
  | x :: r, b, n, e, a, ⟨t1, t2, t3⟩, h => by
    unfold gapM at h
    by_cases hc : b < rAt x.2
    · rw [if_pos hc] at h
      have h' := Option.some.inj h
      injection h' with h3 h4
      subst h3 h4
      exact ⟨Nat.le_refl _, hc, List.mem_cons_self ..⟩
    · rw [if_neg hc] at h
      obtain ⟨g1, g2, g3⟩ := gapM_ge t3 h
      exact ⟨by omega, g2, List.mem_cons_of_mem _ g3⟩
section
variable {w0 w : World} {F : Nat → Prop} {h : Nat} {l : Bytes}
end
end Go.Proofs.YtecjjhfaljdcpaaGreatDoor
/- Package move: All, Gain; stat.Heap. -/
namespace Go.Proofs.YtecjjhfaljdcpaaGreatDoor
open Go.RowKit

/-- what moving leaves as it was -/
structure MovedR (l l' : Bytes) : Prop where
  good : Good l'
  len : l'.length = l.length
  obj : ∀ j, j < 40 → objT l' j = objT l j ∧ objS l' j = objS l j
  roots : rootsL l' = rootsL l
  rots : ∀ i, i < 8 → rawR l' i = rawR l i
  many : (takenL l').length = (takenL l).length
  sum : sumX (takenL l') = sumX (takenL l)
  has : ∀ j, j < 40 → hasE (rawE l' j) = hasE (rawE l j)
theorem MovedR.refl {l : Bytes} (hg : Good l) : MovedR l l := ⟨hg, rfl, fun _ _ => ⟨rfl, rfl⟩, rfl, fun _ _ => rfl, rfl, rfl, fun _ _ => rfl⟩
theorem MovedR.trans {l l' l'' : Bytes} (a : MovedR l l') (b : MovedR l' l'') : MovedR l l'' :=
  ⟨b.good, b.len.trans a.len, fun j hj => ⟨(b.obj j hj).1.trans (a.obj j hj).1, (b.obj j hj).2.trans (a.obj j hj).2⟩, b.roots.trans a.roots, fun i hi => (b.rots i hi).trans (a.rots i hi), b.many.trans a.many, b.sum.trans a.sum, fun j hj => (b.has j hj).trans (a.has j hj)⟩
theorem MoveIs.moved {l l' : Bytes} {k a : Nat} (h : MoveIs l l' k a) (hg : Good l) : MovedR l l' := by
  obtain ⟨t1, t2⟩ := h.taken hg
  refine ⟨h.good hg, h.len, fun j hj => h.keep hg hj, h.roots, h.rots, t1, t2, fun j hj => ?_⟩
  by_cases e : j = k
  · rw [e, (h.ent hg).1, h.has]
  · rw [h.ents j hj, if_neg e]
theorem step_moved {l : Bytes} (hg : Good l) : MovedR l (stepL l) ∧ (stepB l = true → packM 288 (sortM (stepL l)) < packM 288 (sortM l)) ∧ (stepB l = false → stepL l = l ∧ gapM 288 (sortM l) = none) := by
  cases hgap : gapM 288 (sortM l) with
  | none => exact ⟨by rw [stepL_none hgap]; exact MovedR.refl hg, fun h => (by unfold stepB at h; rw [hgap] at h; cases h), fun _ => ⟨stepL_none hgap, rfl⟩⟩
  | some p =>
    obtain ⟨e, a⟩ := p
    obtain ⟨k, he, hM, hp⟩ := step_is hg hgap
    have hk : (e.1 - 1).toNat = k := by rw [he]; dsimp only; omega
    have hs := stepL_some hgap
    rw [hk] at hs
    exact ⟨by rw [hs]; exact hM.moved hg, fun _ => (by rw [hs]; exact hp), fun h => (by unfold stepB at h; rw [hgap] at h; cases h)⟩
/-- step by step -/
def allF : Nat → Bytes → Nat × Bytes
  | 0, l => (0, l)
  | f + 1, l => if stepB l = true then ((allF f (stepL l)).1 + 1, (allF f (stepL l)).2) else (0, l)
def allN (l : Bytes) : Nat := (allF 40 l).1
def allL (l : Bytes) : Bytes := (allF 40 l).2
theorem pack40 (l : Bytes) : packM 288 (sortM l) ≤ 40 := Nat.le_trans (packM_le _ _) (by rw [(sortM_perm l).length_eq]; exact entsL_len _ _ 40)
theorem allF_done : ∀ (f : Nat) (l : Bytes), Good l → packM 288 (sortM l) ≤ f → MovedR l (allF f l).2 ∧ gapM 288 (sortM (allF f l).2) = none ∧ (allF f l).1 ≤ f
  | 0, l, hg, h => ⟨MovedR.refl hg, packM_zero (Nat.le_zero.1 h), Nat.le_refl _⟩
  | f + 1, l, hg, h => by
    obtain ⟨h1, h2, h3⟩ := step_moved hg
    unfold allF
    cases hs : stepB l with
    | true =>
      have := h2 hs
      obtain ⟨i1, i2, i3⟩ := allF_done f (stepL l) h1.good (by omega)
      simp only [if_true]
      exact ⟨h1.trans i1, i2, by omega⟩
    | false =>
      simp only [Bool.false_eq_true, if_false]
      exact ⟨MovedR.refl hg, (h3 hs).2, by omega⟩
theorem all_done {l : Bytes} (hg : Good l) : MovedR l (allL l) ∧ gapM 288 (sortM (allL l)) = none ∧ allN l ≤ 40 := allF_done 40 l hg (pack40 l)
section
variable {w0 w : World} {F : Nat → Prop} {h : Nat} {l : Bytes}
/-- how full a heap is -/
def statH (l : Bytes) : Value := statX ((l.length : Int) - 288) (takenL l)
theorem statH_good {l : Bytes} (hg : Good l) : statH l = statV (takenL l).length (sumX (takenL l)) ((l.length : Int) - 288 - sumX (takenL l)) (mostX (holesX ((l.length : Int) - 288) (takenL l))) (holesX ((l.length : Int) - 288) (takenL l)).length := by
  unfold statH statX; rw [if_pos (good_chk hg)]
set_option maxRecDepth 100000 in
theorem sheap_any (hp : Hp w0 w F h l) (hg : Good l) :
    Calls Tryz.prog 18 #[.pointer (some ⟨h, 0, none⟩)] w fun e w' => e = .returned (.tuple #[statH l, .nilIface]) ∧ Below w.heap.size w w' := by
  have HC : Hidden (∀ W, Below w.heap.size w W → Calls Tryz.prog 43 #[.pointer (some ⟨h, 0, none⟩)] W fun e w' => ∃ A m c, e = .returned (.tuple #[.int .i64 ((l.length : Int) - 288), .slice A m c]) ∧ (takenL l).length = m ∧ m ≤ c ∧ RdX tcells 2 w' A (takenL l) ∧ Below W.heap.size W w') := ⟨fun W hW => htaken_any (hp.below hW)⟩
  have HX : Hidden (∀ (A : Option Addr) (m c : Nat) (W : World), (takenL l).length = m → m ≤ c → RdX tcells 2 W A (takenL l) → Calls Tryz.prog 42 #[.int .i64 ((l.length : Int) - 288), .slice A m c] W fun e w' => e = .returned (.tuple #[statH l, .nilIface]) ∧ Below W.heap.size W w') := ⟨fun A m c W h1 h2 h3 => by
    have := xstat_any ((l.length : Int) - 288) A m c (takenL l) W h1 h2 h3
    rw [good_chk hg, show errV 0 = Value.nilIface from rfl] at this
    exact this⟩
  have HB0 := Hidden.mk ((Below.refl w.heap.size w).alloc (Nat.le_refl _) (.cells #[.int .i64 0, .int .i64 0, .int .i64 0, .int .i64 0, .int .i64 0] 42))
  have HBK0 := Hidden.mk (heap_alloc_new w (.cells #[.int .i64 0, .int .i64 0, .int .i64 0, .int .i64 0, .int .i64 0] 42))
  rw [statH_good hg] at *
  unfold statV at *
  generalize (sumX (takenL l)) = a1 at *
  generalize mostX (holesX ((l.length : Int) - 288) (takenL l)) = a3 at *
  generalize ((holesX ((l.length : Int) - 288) (takenL l)).length : Int) = a4 at *
  generalize ((takenL l).length : Int) = a0 at *
  generalize (l.length : Int) - 288 = nn at *
  generalize nn - a1 = a2 at *
  clear hp hg
  go_enter Tryz.func18, Tryz.ntmps18
  go_wp2_with fail
  generalize w.alloc (.cells #[.int .i64 0, .int .i64 0, .int .i64 0, .int .i64 0, .int .i64 0] 42) = w0' at *
  refine (HC.out _ HB0.out).mono ?_
  rintro e w1 ⟨A, m, c, rfl, hm, hmc, hr, hb1⟩
  have hlt : w.heap.size < w0'.heap.size := (Array.getElem?_eq_some_iff.1 HBK0.out).1
  have HBK1 := Hidden.mk ((hb1.block _ hlt).trans HBK0.out)
  have HB1 := Hidden.mk (HB0.out.trans (hb1.mono HB0.out.size))
  have HCS := Hidden.mk (HX.out A m c w1 hm hmc hr)
  clear hm hmc hr hb1 hlt HC HX HB0 HBK0
  go_wp2_with fail
  refine HCS.out.mono ?_
  rintro e w2 ⟨rfl, hb2⟩
  have hbk := (hb2.block _ (Array.getElem?_eq_some_iff.1 HBK1.out).1).trans HBK1.out
  have HB2 := Hidden.mk (HB1.out.trans (hb2.mono HB1.out.size))
  have y0 : ∀ q, w2.frozen? ⟨w.heap.size, q, none⟩ = false := fun q => frozen_of_row _ _ q _ _ hbk
  have z0 : w2.cell? ⟨w.heap.size, 0, none⟩ = some (.int .i64 0) := by simp [World.cell?, hbk]
  have z1 : w2.cell? ⟨w.heap.size, 1, none⟩ = some (.int .i64 0) := by simp [World.cell?, hbk]
  have z2 : w2.cell? ⟨w.heap.size, 2, none⟩ = some (.int .i64 0) := by simp [World.cell?, hbk]
  have z3 : w2.cell? ⟨w.heap.size, 3, none⟩ = some (.int .i64 0) := by simp [World.cell?, hbk]
  have z4 : w2.cell? ⟨w.heap.size, 4, none⟩ = some (.int .i64 0) := by simp [World.cell?, hbk]
  clear hb2 hbk HBK1 HB1 HCS
  go_wp2_with fail
  refine bodyPost_ret (v := .tuple #[.agg #[.int .i64 a0, .int .i64 a1, .int .i64 a2, .int .i64 a3, .int .i64 a4], .nilIface]) ?_ rfl ?_
  · rw [results_cell_tmp rfl]
    go_simp
  · exact ⟨rfl, ((((HB2.out.setCell (p := ⟨w.heap.size, 0, none⟩) (Nat.le_refl _) _).setCell (p := ⟨w.heap.size, 1, none⟩) (Nat.le_refl _) _).setCell (p := ⟨w.heap.size, 2, none⟩) (Nat.le_refl _) _).setCell (p := ⟨w.heap.size, 3, none⟩) (Nat.le_refl _) _).setCell (p := ⟨w.heap.size, 4, none⟩) (Nat.le_refl _) _⟩
/-- what moving would gain -/
def gainL (l : Bytes) : Int := (l.length : Int) - 288 - sumX (takenL l) - mostX (holesX ((l.length : Int) - 288) (takenL l))
end
end Go.Proofs.YtecjjhfaljdcpaaGreatDoor
/- vaultsame.Ints of lists that are the same. -/
namespace Go.Proofs.YtecjjhfaljdcpaaGreatDoor
open Go.RowKit

def ncell (i : Nat) : List Value := [.int .i64 (i : Int)]
set_option maxRecDepth 100000 in
theorem sameInts_eq (A B : Option Addr) (ca cb n : Nat) (L : List Nat) (w : World) (hn : L.length = n) (hl : n ≤ 100000) (hA : RdX ncell 1 w A L) (hB : RdX ncell 1 w B L) :
    Calls Tryz.prog 13 #[.slice A n ca, .slice B n cb] w fun e w' => e = .returned (.bool true) ∧ Below w.heap.size w w' := by
  have HA := Hidden.mk hA
  have HB := Hidden.mk hB
  have HN := Hidden.mk hn
  clear hA hB hn
  go_enter Tryz.func13, Tryz.ntmps13
  go_wp2_with fail
  go_loopg [5] n (fun m i wr => ∃ j : Nat, j ≤ n ∧ m = n - j ∧ i = .int .i64 (j : Int) ∧ Hidden (Below w.heap.size w wr))
  case atStart => exact ⟨0, by omega, rfl, rfl, ⟨Below.refl _ _⟩⟩
  case round =>
    obtain ⟨j, hj, rfl, rfl, hbel⟩ := hrel
    by_cases hlt : j < n
    · have hjl : j < L.length := by rw [HN.out]; exact hlt
      have hp' := (HA.out.below hbel.out) j hjl
      obtain ⟨p, off, rfl, hp'⟩ := hp'
      have hq' := (HB.out.below hbel.out) j hjl
      obtain ⟨q, oq, rfl, hq'⟩ := hq'
      have x0 := hp' 0 _ rfl
      have y0 := hq' 0 _ rfl
      rw [Nat.add_zero, Nat.mul_one] at x0 y0
      have k0 : (0 : Int) ≤ j := by omega
      have k1 : (j : Int) < n := by omega
      have s1 : IntKind.i64.wrap ((j : Int) + 1) = (j : Int) + 1 := IntWalk.i64_in _ (by omega)
      have hse : ((L[j] : Int) == (L[j] : Int)) = true := by simp
      generalize (L[j] : Int) = b0 at *
      clear hp' hq'
      go_wp2_with fail
      go_quiet (fail)
      clear x0 y0
      have hbn := Hidden.mk (below_drewN hbel.out nq)
      go_wp2_with fail
      go_roundg (n - (j + 1))
      case measure => omega
      case rel => exact ⟨j + 1, by omega, rfl, by go_num, hbn⟩
    · obtain rfl : j = n := by omega
      go_wp2_with fail
      go_ret
      exact ⟨rfl, hbel.out⟩
theorem own_ints {w : World} {base n : Nat} {v : Value} {L : List Nat} (h : w.ownsRow base 3 1 v n (L.map fun i : Nat => .int .i64 (i : Int))) (hn : L.length = n) : ∃ A c, v = .slice A n c ∧ n ≤ c ∧ RdX ncell 1 w A L := by
  have e : (L.map fun i : Nat => Value.int .i64 (i : Int)) = L.flatMap ncell := by
    rw [List.map_eq_flatMap]; rfl
  rw [e] at h
  obtain ⟨A, c, rfl, hc, -⟩ := own_split h
  exact ⟨A, c, rfl, hc, own_rdX3 (fun _ => rfl) hn h⟩
end Go.Proofs.YtecjjhfaljdcpaaGreatDoor
/- The reference's extents, plainly: its holes are the program's. No walk here. -/
namespace Go.Proofs.YtecjjhfaljdcpaaGreatDoor
open Go.RowKit

/-- a place that is free, behind runs -/
def addR (out : List Ext) (i : Int) : List Ext := match out.getLast? with
  | some h => if h.1 + h.2 = i then out.dropLast ++ [(h.1, h.2 + 1)] else out ++ [(i, 1)]
  | none => out ++ [(i, 1)]
def goR (T : Nat → Bool) (acc : List Ext) (i : Nat) : Nat → List Ext
  | 0 => acc
  | m + 1 => if T (i + m) = true then goR T acc i m else addR (goR T acc i m) ((i + m : Nat) : Int)
theorem goR_add (T : Nat → Bool) (acc : List Ext) (i a : Nat) : ∀ b, goR T acc i (a + b) = goR T (goR T acc i a) (i + a) b
  | 0 => rfl
  | b + 1 => by
    rw [← Nat.add_assoc, goR, goR, goR_add T acc i a b, Nat.add_assoc]
theorem goR_taken (T : Nat → Bool) (acc : List Ext) (i : Nat) : ∀ m, (∀ j, j < m → T (i + j) = true) → goR T acc i m = acc
  | 0, _ => rfl
  | m + 1, h => by rw [goR, if_pos (h m (by omega)), goR_taken T acc i m (fun j hj => h j (by omega))]
/-- the last run ends ahead of a -/
def EndsLt (acc : List Ext) (a : Int) : Prop := ∀ h, acc.getLast? = some h → h.1 + h.2 < a
theorem goR_free (T : Nat → Bool) (acc : List Ext) (i : Nat) (he : EndsLt acc i) : ∀ m, (∀ j, j < m + 1 → T (i + j) = false) → goR T acc i (m + 1) = acc ++ [((i : Int), ((m + 1 : Nat) : Int))]
  | 0, h => by
    rw [goR, goR, if_neg (by rw [h 0 (by omega)]; decide)]
    unfold addR
    cases hl : acc.getLast? with
    | none => simp
    | some x =>
      have := he x hl
      simp only
      rw [if_neg (by omega)]; simp
  | m + 1, h => by
    rw [goR, if_neg (by rw [h (m + 1) (by omega)]; decide), goR_free T acc i he m (fun j hj => h j (by omega))]
    unfold addR
    rw [List.getLast?_append]
    simp only [List.getLast?_singleton, Option.or]
    rw [if_pos (by omega), List.dropLast_concat]
    congr 1
def coverX (e : Ext) (i : Nat) : Bool := decide (e.1 ≤ i) && decide ((i : Int) < e.1 + e.2)
theorem goR_runs (T : Nat → Bool) (n : Nat) : ∀ (S : List Ext) (a : Nat) (acc : List Ext), Tidy a S n → (∀ i, a ≤ i → i < n → T i = S.any (fun e => coverX e i)) → EndsLt acc a → goR T acc a (n - a) = acc ++ runsX a S n
  | [], a, acc, ht, hT, he => by
    have ht : (a : Int) ≤ n := ht
    rw [runsX_nil]
    by_cases h : a < n
    · obtain ⟨m, hm⟩ : ∃ m, n - a = m + 1 := ⟨n - a - 1, by omega⟩
      rw [hm, goR_free T acc a he m (fun j hj => by rw [hT (a + j) (by omega) (by omega)]; rfl), if_pos (by omega)]
      rw [show ((m + 1 : Nat) : Int) = (n : Int) - a by omega]
    · rw [show n - a = 0 by omega, if_neg (by omega)]
      simp [goR]
  | e :: r, a, acc, ht, hT, he => by
    obtain ⟨h1, h2, h3⟩ := ht
    have h4 := tidy_le h3
    obtain ⟨x, y⟩ := e
    dsimp only at h1 h2 h3 h4
    obtain ⟨p, rfl⟩ := Int.eq_ofNat_of_zero_le (show 0 ≤ x by omega)
    obtain ⟨q, rfl⟩ := Int.eq_ofNat_of_zero_le (show 0 ≤ y by omega)
    have hrest : ∀ i, i < p + q → r.any (fun e => coverX e i) = false := fun i hi => by
      rw [List.any_eq_false]
      intro z hz
      have := tidy_mem h3 z hz
      simp [coverX]; omega
    have e1 : n - a = (p - a) + (q + (n - (p + q))) := by omega
    have s1 : goR T acc a (p - a) = acc ++ (if (a : Int) < (p : Int) then [((a : Int), (p : Int) - a)] else []) := by
      by_cases h : a < p
      · obtain ⟨m, hm⟩ : ∃ m, p - a = m + 1 := ⟨p - a - 1, by omega⟩
        rw [hm, goR_free T acc a he m (fun j hj => ?_), if_pos (by omega)]
        · rw [show ((m + 1 : Nat) : Int) = (p : Int) - a by omega]
        · rw [hT (a + j) (by omega) (by omega), List.any_cons, hrest (a + j) (by omega)]
          simp [coverX]; omega
      · rw [show p - a = 0 by omega, if_neg (by omega)]
        simp [goR]
    have hends : EndsLt (acc ++ (if (a : Int) < (p : Int) then [((a : Int), (p : Int) - a)] else [])) ((p + q : Nat) : Int) := by
      intro h hh
      by_cases hc : (a : Int) < (p : Int)
      · rw [if_pos hc, List.getLast?_append] at hh
        simp only [List.getLast?_singleton, Option.or, Option.some.injEq] at hh
        subst hh
        dsimp only; omega
      · rw [if_neg hc, List.append_nil] at hh
        have := he h hh; omega
    rw [e1, goR_add, s1, goR_add, goR_taken T _ (a + (p - a)) q (fun j hj => by
      rw [hT (a + (p - a) + j) (by omega) (by omega), List.any_cons]
      have : coverX ((p : Int), (q : Int)) (a + (p - a) + j) = true := by simp [coverX]; omega
      rw [this]; rfl)]
    rw [show a + (p - a) + q = p + q by omega]
    rw [goR_runs T n r (p + q) _ (by simpa using h3) (fun i h5 h6 => by
      rw [hT i (by omega) h6, List.any_cons]
      have : coverX ((p : Int), (q : Int)) i = false := by simp [coverX]; omega
      rw [this, Bool.false_or]) hends]
    rw [runsX_cons, List.append_assoc]
    simp
/-- the reference's holes are the program's -/
theorem goR_holes {n : Nat} {l : List Ext} (h : chkX n l = 0) (T : Nat → Bool) (hT : ∀ i, i < n → T i = l.any (fun e => coverX e i)) : goR T [] 0 n = holesX n l := by
  have ht := tidy_of h
  have := goR_runs T n (sortE l) 0 [] ht (fun i _ hi => by
    rw [hT i hi, Bool.eq_iff_iff, List.any_eq_true, List.any_eq_true]
    constructor
    · rintro ⟨x, h1, h2⟩; exact ⟨x, (sortE_perm l).mem_iff.2 h1, h2⟩
    · rintro ⟨x, h1, h2⟩; exact ⟨x, (sortE_perm l).mem_iff.1 h1, h2⟩) (fun h hh => by cases hh)
  rw [Nat.sub_zero, List.nil_append] at this
  rw [this, holes_runs]; rfl
/-- the reference's choice: where; how long -/
def refF (size : Int) (H : List Ext) : Int × Int := H.foldl (fun b h => if size ≤ h.2 ∧ (b.1 < 0 ∨ h.2 < b.2) then h else b) (-1, 0)
theorem refF_succ (size : Int) (H : List Ext) (k : Nat) (hk : k < H.length) : refF size (H.take (k + 1)) = if size ≤ H[k].2 ∧ ((refF size (H.take k)).1 < 0 ∨ H[k].2 < (refF size (H.take k)).2) then H[k] else refF size (H.take k) := by
  unfold refF
  rw [List.take_succ_eq_append_getElem hk, List.foldl_append]; rfl
theorem refF_best (size : Int) (H : List Ext) : (∀ h ∈ H, 0 ≤ h.1 ∧ 1 ≤ h.2) → (bestX size H = (0, 0) ∧ refF size H = (-1, 0)) ∨ (1 ≤ (bestX size H).2 ∧ 0 ≤ (bestX size H).1 ∧ refF size H = bestX size H) := by
  induction H using snocE with
  | h0 => exact fun _ => .inl ⟨rfl, rfl⟩
  | h1 L x ih =>
    intro hH
    have hx := hH x (by simp)
    rw [bestX_snoc]
    have hs : refF size (L ++ [x]) = if size ≤ x.2 ∧ ((refF size L).1 < 0 ∨ x.2 < (refF size L).2) then x else refF size L := by
      unfold refF; rw [List.foldl_append]; rfl
    rw [hs]
    rcases ih (fun h hh => hH h (List.mem_append_left _ hh)) with ⟨a, b⟩ | ⟨a, b, c⟩
    · rw [a, b]
      by_cases h : size ≤ x.2
      · rw [if_pos ⟨h, .inl rfl⟩, if_pos ⟨h, .inl (by decide)⟩]
        exact .inr ⟨hx.2, hx.1, rfl⟩
      · rw [if_neg (fun hh => h hh.1), if_neg (fun hh => h hh.1)]
        exact .inl ⟨rfl, rfl⟩
    · rw [c]
      by_cases h : size ≤ x.2 ∧ x.2 < (bestX size L).2
      · rw [if_pos ⟨h.1, .inr h.2⟩, if_pos ⟨h.1, .inr h.2⟩]
        exact .inr ⟨hx.2, hx.1, rfl⟩
      · rw [if_neg (fun hh => h ⟨hh.1, by omega⟩), if_neg (fun hh => h ⟨hh.1, by omega⟩)]
        exact .inr ⟨a, b, rfl⟩
theorem refF_fit {n : Int} {l : List Ext} (h : chkX n l = 0) (size : Int) (hs : ¬ (size < 1 ∨ 6400 < size)) : ((refF size (holesX n l)).1 < 0 ∧ fitE n l size = 4 ∧ fitA n l size = 0) ∨ (0 ≤ (refF size (holesX n l)).1 ∧ fitE n l size = 0 ∧ fitA n l size = (refF size (holesX n l)).1) := by
  have hb := refF_best size (holesX n l) (fun x hx => by have := holes_mem h x hx; omega)
  rcases hb with ⟨a, b⟩ | ⟨a, b, c⟩
  · left
    have e : fitE n l size = 4 := by unfold fitE; rw [if_pos h, if_neg hs, a]; rfl
    exact ⟨by rw [b]; decide, e, by unfold fitA; rw [e]; rfl⟩
  · right
    have e : fitE n l size = 0 := by unfold fitE; rw [if_pos h, if_neg hs, if_neg (by omega)]
    exact ⟨by rw [c]; exact b, e, by unfold fitA; rw [if_pos e, c]⟩
theorem stat_used {n : Int} {l : List Ext} (h : chkX n l = 0) : n - sumX (holesX n l) = sumX l ∧ n - sumX l = sumX (holesX n l) := by
  have := holds_sum h; omega
end Go.Proofs.YtecjjhfaljdcpaaGreatDoor
/- The reference's extents: Extents, Holes. -/
namespace Go.Proofs.YtecjjhfaljdcpaaGreatDoor
open Go.RowKit

theorem zero6401 : Tryz.zeroCells118 = Array.replicate 6401 (.bool false) := by kernel_rfl
/-- a block of booleans: which are true -/
def BlkB (w : World) (g : Nat) (T : Nat → Bool) : Prop := ∃ cur, w.heap[g]? = some (.cells cur 118 (0, 0)) ∧ cur.size = 6401 ∧ ∀ i, i < 6401 → cur[i]? = some (.bool (T i))
theorem BlkB.block {w w' : World} {g : Nat} {T : Nat → Bool} (h : BlkB w g T) (hb : w'.heap[g]? = w.heap[g]?) : BlkB w' g T := by
  obtain ⟨cur, h1, h2⟩ := h
  exact ⟨cur, hb.trans h1, h2⟩
theorem BlkB.cell {w : World} {g : Nat} {T : Nat → Bool} (h : BlkB w g T) (i : Nat) (hi : i < 6401) : w.cell? ⟨g, i, none⟩ = some (.bool (T i)) ∧ w.frozen? ⟨g, i, none⟩ = false := by
  obtain ⟨cur, h1, h2, h3⟩ := h
  exact ⟨by simp [World.cell?, h1, h3 i hi], frozen_of_row _ g i _ _ h1⟩
theorem BlkB.set {w : World} {g : Nat} {T : Nat → Bool} (h : BlkB w g T) (i : Nat) (hi : i < 6401) : BlkB (w.setCell ⟨g, i, none⟩ (.bool true)) g (fun q => T q || decide (q = i)) := by
  obtain ⟨cur, h1, h2, h3⟩ := h
  refine ⟨_, heap_setK (k := i) h1 _, by simp [h2], fun q hq => ?_⟩
  rw [Array.getElem?_setIfInBounds]
  by_cases e : i = q
  · subst e
    rw [if_pos rfl, if_pos (by omega)]; simp
  · rw [if_neg e, h3 q hq]
    have : decide (q = i) = false := by simp; omega
    show _ = some (Value.bool (T q || decide (q = i)))
    rw [this, Bool.or_false]
theorem BlkB.congr {w : World} {g : Nat} {T T' : Nat → Bool} (h : BlkB w g T) (e : ∀ i, i < 6401 → T' i = T i) : BlkB w g T' := by
  obtain ⟨cur, h1, h2, h3⟩ := h
  exact ⟨cur, h1, h2, fun i hi => by rw [e i hi]; exact h3 i hi⟩
/-- a cell of an own row, stored into -/
theorem own_set {w : World} {base size n g cap k : Nat} {e : TypeId} {xs : List Value} (h : w.ownsRow base e size (.slice (some ⟨g, 0, none⟩) n cap) n xs) (_hk : k < xs.length) (u : Value) :
    (w.setCell ⟨g, k, none⟩ u).ownsRow base e size (.slice (some ⟨g, 0, none⟩) n cap) n (xs.set k u) ∧ w.frozen? ⟨g, k, none⟩ = false := by
  rcases h with ⟨h0, ⟨h1, _⟩ | ⟨g', cap', cur, he, hb, hh, hn, hm, hc, ht⟩⟩
  · cases h1
  · injection he with he _ hcap
    injection he with he
    injection he with he
    subst he hcap
    refine ⟨⟨by rw [List.length_set]; exact h0, .inr ⟨g, cap, _, rfl, hb, heap_setK (k := k) hh u, hn, hm, by simp [hc], ?_⟩⟩, frozen_of_row _ g k _ _ hh⟩
    rw [← ht, Array.toList_setIfInBounds, List.take_set]
theorem loopX_step (n : Int) (l : List Ext) (k : Nat) (hk : k < l.length) (h : loopX n l k = 0) : loopX n l (k + 1) = faultX n l k l[k] := by
  rw [loopX, if_pos h]
  have hg : l.getD k (0, 0) = l[k] := by simp [hk]
  rw [hg]
theorem loopX_chk {n : Int} {l : List Ext} (hn : ¬ (n < 0 ∨ 6400 < n)) (hl : ¬ 200 < l.length) (k : Nat) (hk : k ≤ l.length) {q : Nat} (hq : loopX n l k = q) (h0 : q ≠ 0) : chkX n l = q := by
  unfold chkX
  rw [if_neg hn, if_neg hl, loopX_stop n l k (by omega) l.length hk, hq]
end Go.Proofs.YtecjjhfaljdcpaaGreatDoor
/- The reference's extents: Holes. -/
namespace Go.Proofs.YtecjjhfaljdcpaaGreatDoor
open Go.RowKit

theorem coverX_step (e : Ext) (j i : Nat) (h0 : 0 ≤ e.1) : (decide (e.1 ≤ i) && decide ((i : Int) < e.1 + ((j + 1 : Nat) : Int))) = ((decide (e.1 ≤ i) && decide ((i : Int) < e.1 + (j : Int))) || decide (i = e.1.toNat + j)) := by
  rw [Bool.eq_iff_iff]
  simp only [Bool.and_eq_true, Bool.or_eq_true, decide_eq_true_eq]
  omega
theorem goR_succ (T : Nat → Bool) (i : Nat) : goR T [] 0 (i + 1) = if T i = true then goR T [] 0 i else addR (goR T [] 0 i) (i : Int) := by
  rw [goR, Nat.zero_add]
theorem goR_len (T : Nat → Bool) : ∀ i, (goR T [] 0 i).length ≤ i
  | 0 => Nat.le_refl _
  | i + 1 => by
    rw [goR_succ]
    have := goR_len T i
    split
    · omega
    · unfold addR
      split
      · split <;> simp <;> omega
      · simp; omega
theorem tcells_flat (L : List Ext) : (L.flatMap tcells).length = L.length * 2 := by
  induction L with
  | nil => rfl
  | cons x r ih => rw [List.flatMap_cons, List.length_append, ih, List.length_cons]; simp [tcells]; omega
/-- runs lie within what was looked at -/
theorem goR_in (T : Nat → Bool) : ∀ i, ∀ x ∈ goR T [] 0 i, 0 ≤ x.1 ∧ 1 ≤ x.2 ∧ x.1 + x.2 ≤ i
  | 0 => fun x hx => by cases hx
  | i + 1 => fun x hx => by
    have ih := goR_in T i
    rw [goR_succ] at hx
    by_cases ht : T i = true
    · rw [if_pos ht] at hx
      have := ih x hx; omega
    · rw [if_neg ht] at hx
      unfold addR at hx
      cases hl : (goR T [] 0 i).getLast? with
      | none =>
        rw [hl] at hx
        simp only [List.mem_append, List.mem_singleton] at hx
        rcases hx with hx | rfl
        · have := ih x hx; omega
        · dsimp only; omega
      | some y =>
        rw [hl] at hx
        have hy := ih y (List.mem_of_getLast? hl)
        simp only at hx
        by_cases he : y.1 + y.2 = (i : Int)
        · rw [if_pos he] at hx
          simp only [List.mem_append, List.mem_singleton] at hx
          rcases hx with hx | rfl
          · have := ih x ((List.dropLast_sublist _).subset hx); omega
          · dsimp only; omega
        · rw [if_neg he] at hx
          simp only [List.mem_append, List.mem_singleton] at hx
          rcases hx with hx | rfl
          · have := ih x hx; omega
          · dsimp only; omega
set_option maxRecDepth 100000 in
set_option maxHeartbeats 1000000 in
theorem rholes_any (n : Nat) (A : Option Addr) (m c : Nat) (l : List Ext) (w : World) (hl : l.length = m) (hr : RdX tcells 2 w A l) (hc : chkX (n : Int) l = 0) :
    Calls Tryz.prog 41 #[.int .i64 (n : Int), .slice A m c] w fun e w' => ∃ v, e = .returned v ∧ w'.ownsRow w.heap.size 56 2 v (holesX (n : Int) l).length ((holesX (n : Int) l).flatMap tcells) ∧ Below w.heap.size w w' := by
  obtain ⟨o0, o1, o2, o3, -⟩ := chkX_ok hc
  have HL := Hidden.mk hl
  have HR := Hidden.mk hr
  have HBD : Hidden (∀ e ∈ l, 0 ≤ e.1 ∧ 1 ≤ e.2 ∧ e.1 + e.2 ≤ n) := ⟨fun e he => by have := badX_false (holds_bad hc e he); omega⟩
  have HH : Hidden (∀ T : Nat → Bool, (∀ i, i < n → T i = l.any (fun e => coverX e i)) → goR T [] 0 n = holesX (n : Int) l) := ⟨fun T hT => goR_holes hc T hT⟩
  have HN : Hidden (n ≤ 6400 ∧ m ≤ 200) := ⟨by omega⟩
  obtain ⟨hi0, hi1, hz0, hz1, hz2⟩ := info_parts extent_info
  have HI := Hidden.mk (And.intro hi1 (And.intro hz0 (And.intro hz1 hz2)))
  have HB0 := Hidden.mk ((Below.refl w.heap.size w).alloc (Nat.le_refl _) (.cells Tryz.zeroCells118 118))
  have HT0 : Hidden (BlkB (w.alloc (.cells Tryz.zeroCells118 118)) w.heap.size (fun _ => false)) := ⟨⟨_, heap_alloc_new w _, by rw [zero6401]; simp, fun i hi => by rw [zero6401]; simp [hi]⟩⟩
  generalize holesX (n : Int) l = H at *
  clear hl hr hc o0 o1 o2 o3 hi1 hz0 hz1 hz2
  go_enter Tryz.func41, Tryz.ntmps41
  go_upto_region 2 with (fail)
  generalize w.alloc (.cells Tryz.zeroCells118 118) = w1 at *
  generalize hgb : w.heap.size = gb at *
  have HGB := Hidden.mk hgb
  clear hgb
  go_wp2_with fail
  go_loopg [6] m (fun q kv wr => ∃ k : Nat, k ≤ m ∧ q = m - k ∧ kv = .int .i64 (k : Int) ∧ Hidden (BlkB wr gb (fun i => (l.take k).any (fun e => coverX e i)) ∧ Below gb w wr))
  case atStart => exact ⟨0, by omega, rfl, rfl, ⟨HT0.out.congr (fun i _ => by simp), HB0.out⟩⟩
  case round =>
    obtain ⟨k, hk, rfl, rfl, hst⟩ := hrel
    by_cases hlt : k < m
    · have hkl : k < l.length := by rw [HL.out]; exact hlt
      have i0 : (0 : Int) ≤ k := by omega
      have i1 : (k : Int) < m := by omega
      have s1 : IntKind.i64.wrap ((k : Int) + 1) = (k : Int) + 1 := IntWalk.i64_in _ (by have := HN.out; omega)
      obtain ⟨pb, off, rfl, hcx⟩ := HR.out k hkl
      have x0 := hcx 0 _ rfl
      have x1 := hcx 1 _ rfl
      rw [Nat.add_zero] at x0
      have hbd := HBD.out l[k] (List.getElem_mem hkl)
      have HTK : Hidden (∀ i : Nat, (l.take (k + 1)).any (fun e => coverX e i) = ((l.take k).any (fun e => coverX e i) || coverX l[k] i)) := ⟨fun i => by rw [List.take_succ_eq_append_getElem hkl, List.any_append]; simp⟩
      generalize l[k] = e at *
      obtain ⟨e1, e2⟩ := e
      dsimp only at x0 x1 hbd
      obtain ⟨p, rfl⟩ := Int.eq_ofNat_of_zero_le hbd.1
      obtain ⟨q, rfl⟩ := Int.eq_ofNat_of_zero_le (show 0 ≤ e2 by omega)
      have HRK : Hidden (∀ W, Below gb w W → W.cell? ⟨pb, off + k * 2, none⟩ = some (.int .i64 (p : Int)) ∧ W.cell? ⟨pb, off + k * 2 + 1, none⟩ = some (.int .i64 (q : Int))) := ⟨fun W hW => by
        rw [← HGB.out] at hW
        exact ⟨(hW.cell (p := ⟨pb, off + k * 2, none⟩) (block_lt_of_cell x0)).trans x0, (hW.cell (p := ⟨pb, off + k * 2 + 1, none⟩) (block_lt_of_cell x1)).trans x1⟩⟩
      have HS := Hidden.mk hst.out
      clear hcx x0 x1 hst
      go_wp2_with fail
      go_loopg [7] q (fun z jv wy => ∃ j : Nat, j ≤ q ∧ z = q - j ∧ jv = .int .i64 (j : Int) ∧ Hidden (BlkB wy gb (fun i => (l.take k).any (fun e => coverX e i) || (decide ((p : Int) ≤ i) && decide ((i : Int) < (p : Int) + (j : Int)))) ∧ Below gb w wy))
      case atStart => exact ⟨0, by omega, rfl, rfl, ⟨HS.out.1.congr (fun i _ => by
        have : (decide ((p : Int) ≤ i) && decide ((i : Int) < (p : Int) + ((0 : Nat) : Int))) = false := by
          rw [Bool.eq_false_iff]; intro h; simp only [Bool.and_eq_true, decide_eq_true_eq] at h; omega
        rw [this, Bool.or_false]), HS.out.2⟩⟩
      case round =>
        obtain ⟨j, hj, rfl, rfl, hs2⟩ := hrel
        obtain ⟨x0, x1⟩ := HRK.out wr hs2.out.2
        by_cases hjq : j < q
        · have j0 : decide ((j : Int) < q) = true := by simp; omega
          have s2 : IntKind.i64.wrap ((p : Int) + j) = (p : Int) + j := IntWalk.i64_in _ (by have := HN.out; omega)
          have s3 : IntKind.i64.wrap ((j : Int) + 1) = (j : Int) + 1 := IntWalk.i64_in _ (by have := HN.out; omega)
          have hz1 : p + j < 6401 := by have := HN.out; omega
          have z0 : (0 : Int) ≤ (p : Int) + j := by omega
          have z1 : (p : Int) + j < 6401 := by omega
          obtain ⟨y0, y1⟩ := hs2.out.1.cell (p + j) hz1
          have HNX : Hidden (BlkB (wr.setCell ⟨gb, p + j, none⟩ (.bool true)) gb (fun i => (l.take k).any (fun e => coverX e i) || (decide ((p : Int) ≤ i) && decide ((i : Int) < (p : Int) + ((j + 1 : Nat) : Int)))) ∧ Below gb w (wr.setCell ⟨gb, p + j, none⟩ (.bool true))) := ⟨(hs2.out.1.set (p + j) hz1).congr (fun i _ => by
            have := coverX_step ((p : Int), 0) j i (by dsimp only; omega)
            dsimp only at this
            rw [this, show ((p : Int)).toNat + j = p + j by omega, Bool.or_assoc]), hs2.out.2.setCell (p := ⟨gb, p + j, none⟩) (Nat.le_refl _) _⟩
          clear hs2 HS
          go_wp2_with fail
          go_roundg (q - (j + 1))
          case measure => omega
          case rel => exact ⟨j + 1, by omega, rfl, by go_num, HNX⟩
        · obtain rfl : j = q := by omega
          have j0 : decide ((j : Int) < j) = false := by simp
          have HNX : Hidden (BlkB wr gb (fun i => (l.take (k + 1)).any (fun e => coverX e i)) ∧ Below gb w wr) := ⟨hs2.out.1.congr (fun i _ => by rw [HTK.out i]; rfl), hs2.out.2⟩
          clear hs2 HS
          go_wp2_with fail
          go_roundg (m - (k + 1))
          case measure => omega
          case rel => exact ⟨k + 1, by omega, rfl, by go_num, HNX⟩
    · obtain rfl : k = m := by omega
      have t4 : decide ((k : Int) < k) = false := by simp
      obtain ⟨T, hT⟩ : ∃ T : Nat → Bool, T = fun i => l.any (fun e => coverX e i) := ⟨_, rfl⟩
      have HS : Hidden (BlkB wr gb T ∧ Below gb w wr) := ⟨by
        have h1 := hst.out.1
        rw [List.take_of_length_le (by rw [HL.out]; exact Nat.le_refl _)] at h1
        rw [hT]; exact h1, hst.out.2⟩
      have HG := Hidden.mk (HH.out T (fun i _ => by rw [hT]))
      clear hT hst HH
      have HGL : Hidden (gb < w1.heap.size) := ⟨by obtain ⟨cur, h1, -⟩ := HT0.out; exact (Array.getElem?_eq_some_iff.1 h1).1⟩
      clear HT0 HB0
      go_wp2_with fail
      go_loopg [8, 9] n (fun q v iv wr => ∃ i : Nat, i ≤ n ∧ q = n - i ∧ iv = .int .i64 (i : Int) ∧ Hidden (BlkB wr gb T ∧ Below gb w wr ∧ wr.ownsRow (gb + 1) 56 2 v (goR T [] 0 i).length ((goR T [] 0 i).flatMap tcells)))
      case atStart => exact ⟨0, by omega, rfl, rfl, ⟨HS.out.1, HS.out.2, World.ownsRow_nil _ _ _ _⟩⟩
      case round =>
        obtain ⟨i, hi, rfl, rfl, hs⟩ := hrel
        by_cases hin : i < n
        · have d0 : decide ((i : Int) < n) = true := by simp; omega
          have i0 : (0 : Int) ≤ i := by omega
          have i1 : (i : Int) < 6401 := by have := HN.out; omega
          have s1 : IntKind.i64.wrap ((i : Int) + 1) = (i : Int) + 1 := IntWalk.i64_in _ (by have := HN.out; omega)
          obtain ⟨y0, -⟩ := hs.out.1.cell i (by have := HN.out; omega)
          have HSC := Hidden.mk (goR_succ T i)
          have HST := Hidden.mk hs.out
          have hgl : gb + 1 ≤ wr.heap.size := by obtain ⟨cur, h1, -⟩ := hs.out.1; exact (Array.getElem?_eq_some_iff.1 h1).1
          cases hT : T i with
          | true =>
            rw [hT] at y0
            have HNX : Hidden (goR T [] 0 (i + 1) = goR T [] 0 i) := ⟨by rw [HSC.out, if_pos hT]⟩
            clear hT hs HSC HS
            go_wp2_with fail
            go_roundg (n - (i + 1))
            case measure => omega
            case rel => exact ⟨i + 1, by omega, rfl, by go_num, ⟨HST.out.1, HST.out.2.1, by rw [HNX.out]; exact HST.out.2.2⟩⟩
          | false =>
            rw [hT] at y0
            have HNX : Hidden (goR T [] 0 (i + 1) = addR (goR T [] 0 i) i) := ⟨by rw [HSC.out, if_neg (by rw [hT]; decide)]⟩
            have hlen := goR_len T i
            have hins := goR_in T i
            obtain ⟨H', hH'⟩ : ∃ H', goR T [] 0 (i + 1) = H' := ⟨_, rfl⟩
            have HHE := Hidden.mk hH'
            rw [hH'] at HNX
            clear hH'
            generalize goR T [] 0 i = R at *
            obtain ⟨Av, cv, rfl, hcv, -⟩ := own_split hs.out.2.2
            clear hT hs HSC HS
            rcases List.eq_nil_or_concat R with hnil | ⟨R', x, hR⟩
            · subst hnil
              have HNX : Hidden (H' = [] ++ [((i : Int), 1)]) := ⟨HNX.out⟩
              clear hlen hins
              go_upto_region 15 with (fail)
              go_quiet (fail)
              go_upto_region 17 with (fail)
              have HQ : Hidden (BlkB (wr.drewN nq) gb T ∧ Below gb w (wr.drewN nq) ∧ (wr.drewN nq).ownsRow (gb + 1) 56 2 (.slice Av 0 cv) 0 ((([] : List Ext)).flatMap tcells)) := ⟨HST.out.1, below_drewN HST.out.2.1 _, HST.out.2.2⟩
              have hgq : gb + 1 ≤ (wr.drewN nq).heap.size := hgl
              clear y0 hgl HST
              generalize wr.drewN nq = wq at *
              obtain ⟨hi1, hz0, hz1, hz2⟩ := HI.out
              have hown9 := HQ.out.2.2
              go_wp2_with (at_builtin; refine wpList_append_lies _ rfl (.tmp 75) (.tmp 78) _ rfl (gb + 1) 56 hi0 _ 2 16 Tryz.underlying44 hi1 hz0 hz1 hz2 rfl (by decide) (.slice Av 0 cv) 0 ((([] : List Ext)).flatMap tcells) rfl (own_below hown9 ((Below.refl _ _).alloc (Nat.le_refl _) _)) ⟨(wq).heap.size, 0, none⟩ 1 1 [.int .i64 (i : Int), .int .i64 1] rfl rfl (World.news_of_block (cs := #[.int .i64 (i : Int), .int .i64 1]) (t := 56) (fr := (0, 0)) (heap_alloc_new (wq) _)) (by simp [Value.oneCell']) (by omega) (by simp only [maxLen]; omega) (by omega) (by have hz_ := HQ.out.2.1.size; rw [World.size_alloc]; omega) ((wq).heap.size + 1) (by simp) ?_; intro g8 cap8 w8 hown8 hg8 hat8 hlt8)
              have hal := (Below.refl wq.heap.size wq).alloc (Nat.le_refl _) (.cells #[.int .i64 (i : Int), .int .i64 1] 56)
              have hgW := grown_trans' hal hg8
              have HF : Hidden (BlkB w8 gb T ∧ Below gb w w8 ∧ w8.ownsRow (gb + 1) 56 2 (.slice (some ⟨g8, 0, none⟩) (0 + 1) cap8) H'.length (H'.flatMap tcells)) := ⟨HQ.out.1.block (hgW.block gb (by omega) (fun e => by have := (HQ.out.2.2.lt gb e.symm).1; omega)), HQ.out.2.1.grown hgW (by omega) (fun q hq => by have := (HQ.out.2.2.lt q hq).1; omega), by rw [HNX.out]; simpa [tcells] using hown8⟩
              clear hal hgW hown8 hg8 hat8 hlt8 hown9 HQ hgq
              go_roundg (n - (i + 1))
              case measure => omega
              case rel => exact ⟨i + 1, by omega, rfl, by go_num, by rw [HHE.out]; exact HF⟩
            · rw [List.concat_eq_append] at hR
              subst hR
              have hx := hins x (by simp)
              have hkx : R'.length < (R' ++ [x]).length := by simp
              obtain ⟨ga, oa, hAv, hcx⟩ := own_rdX3 (f := tcells) tcells_len rfl HST.out.2.2 R'.length hkx
              subst hAv
              obtain ⟨ga', ca', hv', hga⟩ := own_mem HST.out.2.2 (by simp)
              injection hv' with q1 q2 q3
              injection q1 with q1
              injection q1 with q1 q4 q5
              subst q1 q3 q4
              clear q2 q5
              have hgx : (R' ++ [x])[R'.length] = x := by simp
              rw [hgx] at hcx
              have v0 := hcx 0 _ rfl
              have v1 := hcx 1 _ rfl
              rw [Nat.add_zero] at v0
              have HLL : Hidden ((R' ++ [x]).length = R'.length + 1) := ⟨by simp⟩
              have k0 : decide (0 < ((R'.length + 1 : Nat) : Int)) = true := decide_eq_true (by omega)
              have s4 : IntKind.i64.wrap (((R'.length + 1 : Nat) : Int) - 1) = (R'.length : Int) := (IntWalk.i64_in _ (by omega)).trans (by omega)
              have k1 : (0 : Int) ≤ R'.length := by omega
              have k2 : (R'.length : Int) < ((R'.length + 1 : Nat) : Int) := by omega
              have HADD : Hidden (H' = if x.1 + x.2 = (i : Int) then R' ++ [(x.1, x.2 + 1)] else (R' ++ [x]) ++ [((i : Int), 1)]) := ⟨by
                rw [HNX.out]; unfold addR
                rw [List.getLast?_concat]
                simp only [List.dropLast_concat]⟩
              obtain ⟨x1, x2⟩ := x
              dsimp only at hx HADD v0 v1
              have s5 : IntKind.i64.wrap (x1 + x2) = x1 + x2 := IntWalk.i64_in _ (by omega)
              have s6 : IntKind.i64.wrap (x2 + 1) = x2 + 1 := IntWalk.i64_in _ (by omega)
              have hR6 : R'.length + 1 ≤ 6400 := by have := HLL.out; have := HN.out; omega
              rw [Nat.zero_add] at v0 v1
              rw [HLL.out]
              clear hcx hgx hkx HNX hins
              by_cases hadj : x1 + x2 = (i : Int)
              · have HNX : Hidden (H' = R' ++ [(x1, x2 + 1)]) := ⟨by rw [HADD.out, if_pos hadj]⟩
                have e0 : (x1 + x2 == (i : Int)) = true := by simpa using hadj
                clear HADD hadj hlen
                go_upto_region 15 with (fail)
                go_quiet (fail)
                have HQ : Hidden (BlkB (wr.drewN nq) gb T ∧ Below gb w (wr.drewN nq) ∧ (wr.drewN nq).ownsRow (gb + 1) 56 2 (.slice (some ⟨ga, 0, none⟩) (R' ++ [(x1, x2)]).length cv) (R' ++ [(x1, x2)]).length ((R' ++ [(x1, x2)]).flatMap tcells)) := ⟨HST.out.1, below_drewN HST.out.2.1 _, HST.out.2.2⟩
                have v1' : (wr.drewN nq).cell? ⟨ga, R'.length * 2 + 1, none⟩ = some (.int .i64 x2) := v1
                clear y0 hgl HST v0 v1
                generalize wr.drewN nq = wq at *
                have hset := own_set HQ.out.2.2 (k := R'.length * 2 + 1) (by rw [tcells_flat]; simp; omega) (.int .i64 (x2 + 1))
                have HSET : Hidden (BlkB (wq.setCell ⟨ga, R'.length * 2 + 1, none⟩ (.int .i64 (x2 + 1))) gb T ∧ Below gb w (wq.setCell ⟨ga, R'.length * 2 + 1, none⟩ (.int .i64 (x2 + 1))) ∧ (wq.setCell ⟨ga, R'.length * 2 + 1, none⟩ (.int .i64 (x2 + 1))).ownsRow (gb + 1) 56 2 (.slice (some ⟨ga, 0, none⟩) (R'.length + 1) cv) H'.length (H'.flatMap tcells)) := ⟨HQ.out.1.block (Below.heap_setCell _ _ _ _ (by dsimp only; omega)), HQ.out.2.1.setCell (p := ⟨ga, R'.length * 2 + 1, none⟩) (by dsimp only; omega) _, by
                  have h1 := hset.1
                  rw [HLL.out] at h1
                  rw [HNX.out]
                  have e1 : ((R' ++ [(x1, x2)]).flatMap tcells).set (R'.length * 2 + 1) (.int .i64 (x2 + 1)) = (R' ++ [(x1, x2 + 1)]).flatMap tcells := by
                    rw [List.flatMap_append, List.flatMap_append]
                    have hl := tcells_flat R'
                    rw [List.set_append_right _ _ (by omega), hl, show R'.length * 2 + 1 - R'.length * 2 = 1 by omega]
                    rfl
                  rw [e1] at h1
                  simpa using h1⟩
                have f1 := hset.2
                clear hset HQ
                go_wp2_with fail
                go_roundg (n - (i + 1))
                case measure => omega
                case rel => exact ⟨i + 1, by omega, rfl, by go_num, by rw [HHE.out]; exact HSET⟩
              · have HNX : Hidden (H' = (R' ++ [(x1, x2)]) ++ [((i : Int), 1)]) := ⟨by rw [HADD.out, if_neg hadj]⟩
                have e0 : (x1 + x2 == (i : Int)) = false := by simpa using hadj
                rw [HLL.out] at HST
                clear HADD hadj hlen
                go_upto_region 15 with (fail)
                go_quiet (fail)
                clear v0 v1
                go_upto_region 17 with (fail)
                have HQ : Hidden (BlkB (wr.drewN nq) gb T ∧ Below gb w (wr.drewN nq) ∧ (wr.drewN nq).ownsRow (gb + 1) 56 2 (.slice (some ⟨ga, 0, none⟩) (R'.length + 1) cv) (R'.length + 1) ((R' ++ [(x1, x2)]).flatMap tcells)) := ⟨HST.out.1, below_drewN HST.out.2.1 _, HST.out.2.2⟩
                have hgq : gb + 1 ≤ (wr.drewN nq).heap.size := hgl
                clear y0 hgl HST
                generalize wr.drewN nq = wq at *
                obtain ⟨hi1, hz0, hz1, hz2⟩ := HI.out
                have hown9 := HQ.out.2.2
                go_wp2_with (at_builtin; refine wpList_append_lies _ rfl (.tmp 75) (.tmp 78) _ rfl (gb + 1) 56 hi0 _ 2 16 Tryz.underlying44 hi1 hz0 hz1 hz2 rfl (by decide) (.slice (some ⟨ga, 0, none⟩) (R'.length + 1) cv) (R'.length + 1) ((R' ++ [(x1, x2)]).flatMap tcells) rfl (own_below hown9 ((Below.refl _ _).alloc (Nat.le_refl _) _)) ⟨(wq).heap.size, 0, none⟩ 1 1 [.int .i64 (i : Int), .int .i64 1] rfl rfl (World.news_of_block (cs := #[.int .i64 (i : Int), .int .i64 1]) (t := 56) (fr := (0, 0)) (heap_alloc_new (wq) _)) (by simp [Value.oneCell']) (by omega) (by simp only [maxLen]; omega) (by omega) (by have hz_ := HQ.out.2.1.size; rw [World.size_alloc]; omega) ((wq).heap.size + 1) (by simp) ?_; intro g8 cap8 w8 hown8 hg8 hat8 hlt8)
                have hal := (Below.refl wq.heap.size wq).alloc (Nat.le_refl _) (.cells #[.int .i64 (i : Int), .int .i64 1] 56)
                have hgW := grown_trans' hal hg8
                have HF : Hidden (BlkB w8 gb T ∧ Below gb w w8 ∧ w8.ownsRow (gb + 1) 56 2 (.slice (some ⟨g8, 0, none⟩) ((R'.length + 1) + 1) cap8) H'.length (H'.flatMap tcells)) := ⟨HQ.out.1.block (hgW.block gb (by omega) (fun e => by have := (HQ.out.2.2.lt gb e.symm).1; omega)), HQ.out.2.1.grown hgW (by omega) (fun q hq => by have := (HQ.out.2.2.lt q hq).1; omega), by rw [HNX.out]; simpa [tcells] using hown8⟩
                clear hal hgW hown8 hg8 hat8 hlt8 hown9 HQ hgq
                go_roundg (n - (i + 1))
                case measure => omega
                case rel => exact ⟨i + 1, by omega, rfl, by go_num, by rw [HHE.out]; exact HF⟩
        · obtain rfl : i = n := by omega
          have d0 : decide ((i : Int) < i) = false := by simp
          have HF : Hidden (Below w.heap.size w wr ∧ wr.ownsRow w.heap.size 56 2 u8 H.length (H.flatMap tcells)) := ⟨by rw [HGB.out]; exact hs.out.2.1, by
            have := hs.out.2.2
            rw [HG.out] at this
            rw [HGB.out]
            exact own_base this (by omega)⟩
          rw [HGB.out] at HF
          have HGB2 := HGB.out
          clear hs HS
          go_wp2_with fail
          go_ret
          rw [HGB2]
          exact ⟨_, rfl, HF.out.2, HF.out.1⟩
end Go.Proofs.YtecjjhfaljdcpaaGreatDoor
/- The reference's extents: Fit, Stat; extents that are the same. -/
namespace Go.Proofs.YtecjjhfaljdcpaaGreatDoor
open Go.RowKit

section
variable (n : Nat) (A : Option Addr) (m c : Nat) (l : List Ext) (w : World) (hl : l.length = m) (hr : RdX tcells 2 w A l) (hc : chkX (n : Int) l = 0)
include hl hr hc
set_option maxRecDepth 100000 in
theorem rfit_any (size : Int) :
    Calls Tryz.prog 44 #[.int .i64 (n : Int), .slice A m c, .int .i64 size] w fun e w' => e = .returned (.int .i64 (refF size (holesX (n : Int) l)).1) ∧ Below w.heap.size w w' := by
  obtain ⟨o0, o1, o2, o3, -⟩ := chkX_ok hc
  have HC := Hidden.mk (rholes_any n A m c l w hl hr hc)
  have HLE : Hidden ((holesX (n : Int) l).length ≤ 201) := ⟨by have := holesX_len (n : Int) l; omega⟩
  generalize holesX (n : Int) l = H at *
  clear hl hr hc o0 o1 o2 o3
  go_enter Tryz.func44, Tryz.ntmps44
  go_wp2_with fail
  refine HC.out.mono ?_
  rintro e w1 ⟨v, rfl, hown, hb1⟩
  obtain ⟨A1, c1, rfl, -, -⟩ := own_split hown
  have HR := Hidden.mk (own_rdX3 (f := tcells) tcells_len rfl hown)
  have HB := Hidden.mk hb1
  generalize hm : H.length = hn at *
  have HM := Hidden.mk hm
  have hle := HLE.out
  clear hown hb1 HC hm
  go_wp2_with fail
  go_loopg [8, 9, 10] hn (fun q av bv iv wr => ∃ k : Nat, k ≤ hn ∧ q = hn - k ∧ iv = .int .i64 (k : Int) ∧ av = .int .i64 (refF size (H.take k)).1 ∧ bv = .int .i64 (refF size (H.take k)).2 ∧ w1 = wr)
  case atStart => exact ⟨0, by omega, rfl, rfl, rfl, rfl, rfl⟩
  case round =>
    obtain ⟨k, hk, rfl, rfl, rfl, rfl, rfl⟩ := hrel
    by_cases hlt : k < hn
    · have hkl : k < H.length := by rw [HM.out]; exact hlt
      obtain ⟨pp, oo, rfl, hcx⟩ := HR.out k hkl
      have x0 := hcx 0 _ rfl
      have x1 := hcx 1 _ rfl
      rw [Nat.add_zero] at x0
      have HS := Hidden.mk (refF_succ size H k hkl)
      generalize H[k] = e at *
      obtain ⟨e1, e2⟩ := e
      obtain ⟨r, hr⟩ : ∃ r, refF size (H.take k) = r := ⟨_, rfl⟩
      rw [hr] at HS
      rw [hr]
      obtain ⟨ra, rb⟩ := r
      dsimp only at x0 x1 HS
      have i0 : (0 : Int) ≤ k := by omega
      have i1 : (k : Int) < hn := by omega
      have s1 : IntKind.i64.wrap ((k : Int) + 1) = (k : Int) + 1 := IntWalk.i64_in _ (by omega)
      clear hcx hr
      by_cases h1 : size ≤ e2
      · have d1 : decide (size ≤ e2) = true := by simpa using h1
        by_cases h2 : ra < 0
        · have d2 : decide (ra < 0) = true := by simpa using h2
          have HN := Hidden.mk (HS.out.trans (if_pos ⟨h1, .inl h2⟩))
          clear h1 h2 HS
          go_wp2_with fail
          go_roundg (hn - (k + 1))
          case measure => omega
          case rel => exact ⟨k + 1, by omega, rfl, by go_num, by rw [HN.out], by rw [HN.out], rfl⟩
        have d2 : decide (ra < 0) = false := by simpa using h2
        by_cases h3 : e2 < rb
        · have d3 : decide (e2 < rb) = true := by simpa using h3
          have HN := Hidden.mk (HS.out.trans (if_pos ⟨h1, .inr h3⟩))
          clear h1 h2 h3 HS
          go_wp2_with fail
          go_roundg (hn - (k + 1))
          case measure => omega
          case rel => exact ⟨k + 1, by omega, rfl, by go_num, by rw [HN.out], by rw [HN.out], rfl⟩
        have d3 : decide (e2 < rb) = false := by simpa using h3
        have HN := Hidden.mk (HS.out.trans (if_neg (fun h => by rcases h.2 with h | h; exact h2 h; exact h3 h)))
        clear h1 h2 h3 HS
        go_wp2_with fail
        go_roundg (hn - (k + 1))
        case measure => omega
        case rel => exact ⟨k + 1, by omega, rfl, by go_num, by rw [HN.out], by rw [HN.out], rfl⟩
      · have d1 : decide (size ≤ e2) = false := by simpa using h1
        have HN := Hidden.mk (HS.out.trans (if_neg (fun h => h1 h.1)))
        clear h1 HS
        go_wp2_with fail
        go_roundg (hn - (k + 1))
        case measure => omega
        case rel => exact ⟨k + 1, by omega, rfl, by go_num, by rw [HN.out], by rw [HN.out], rfl⟩
    · obtain rfl : k = hn := by omega
      have t4 : decide ((k : Int) < k) = false := by simp
      have HT : Hidden (H.take k = H) := ⟨List.take_of_length_le (by rw [HM.out]; exact Nat.le_refl _)⟩
      rw [HT.out]
      go_wp2_with fail
      go_ret
      exact ⟨rfl, HB.out⟩
end
end Go.Proofs.YtecjjhfaljdcpaaGreatDoor
/- The reference's extents: Stat. -/
namespace Go.Proofs.YtecjjhfaljdcpaaGreatDoor
open Go.RowKit

theorem fiveCells {w : World} {b : Nat} {a0 a1 a2 a3 a4 : Int} {t : TypeId} (h : w.heap[b]? = some (.cells #[.int .i64 a0, .int .i64 a1, .int .i64 a2, .int .i64 a3, .int .i64 a4] t (0, 0))) : w.cell? ⟨b, 0, none⟩ = some (.int .i64 a0) ∧ w.cell? ⟨b, 1, none⟩ = some (.int .i64 a1) ∧ w.cell? ⟨b, 2, none⟩ = some (.int .i64 a2) ∧ w.cell? ⟨b, 3, none⟩ = some (.int .i64 a3) ∧ w.cell? ⟨b, 4, none⟩ = some (.int .i64 a4) ∧ ∀ q, w.frozen? ⟨b, q, none⟩ = false := by
  refine ⟨?_, ?_, ?_, ?_, ?_, fun q => frozen_of_row _ _ q _ _ h⟩ <;> simp [World.cell?, h]
theorem results_one {fn : Func} {p : Tmp} {ty : TypeId} (h : fn.results = #[.cell p ty]) (tmps : Array Value) (P : Program) (w : World) :
    (results fn tmps).run P w = ((asAddr (tmps.getD p undef)).run P w).andThen fun a w₁ => (loadVar ty a).run P w₁ := by
  simp only [results, h]
  simp [Sem.run_bind, Result.andThen]
set_option maxRecDepth 100000 in
theorem rstat_any (n : Nat) (A : Option Addr) (m c : Nat) (l : List Ext) (w : World) (hl : l.length = m) (hr : RdX tcells 2 w A l) (hc : chkX (n : Int) l = 0) :
    Calls Tryz.prog 16 #[.int .i64 (n : Int), .slice A m c] w fun e w' => e = .returned (statX (n : Int) l) ∧ Below w.heap.size w w' := by
  obtain ⟨o0, o1, o2, o3, -⟩ := chkX_ok hc
  have HB0 := Hidden.mk ((Below.refl w.heap.size w).alloc (Nat.le_refl _) (.cells #[.int .i64 0, .int .i64 0, .int .i64 0, .int .i64 0, .int .i64 0] 42))
  have HBK0 := Hidden.mk (heap_alloc_new w (.cells #[.int .i64 0, .int .i64 0, .int .i64 0, .int .i64 0, .int .i64 0] 42))
  have HC : Hidden (∀ W, Below w.heap.size w W → Calls Tryz.prog 41 #[.int .i64 (n : Int), .slice A m c] W fun e w' => ∃ v, e = .returned v ∧ w'.ownsRow W.heap.size 56 2 v (holesX (n : Int) l).length ((holesX (n : Int) l).flatMap tcells) ∧ Below W.heap.size W w') := ⟨fun W hW => rholes_any n A m c l W hl (hr.below hW) hc⟩
  have HLE : Hidden ((holesX (n : Int) l).length ≤ 201) := ⟨by have := holesX_len (n : Int) l; omega⟩
  have HSX : Hidden (statX (n : Int) l = statV m (sumX l) ((n : Int) - sumX l) (mostX (holesX (n : Int) l)) (holesX (n : Int) l).length) := ⟨by unfold statX; rw [if_pos hc, hl]⟩
  have HSU := Hidden.mk (stat_used hc)
  have HOK : Hidden (OkX (holesX (n : Int) l)) := ⟨fun x hx => by have := holes_mem hc x hx; omega⟩
  have HN : Hidden (n ≤ 6400) := ⟨by omega⟩
  rw [HSX.out]
  unfold statV
  generalize holesX (n : Int) l = H at *
  generalize sumX l = su at *
  clear hl hr hc o0 o1 o2 o3 HSX
  go_enter Tryz.func16, Tryz.ntmps16
  go_wp2_with fail
  generalize w.alloc (.cells #[.int .i64 0, .int .i64 0, .int .i64 0, .int .i64 0, .int .i64 0] 42) = w0 at *
  refine (HC.out _ HB0.out).mono ?_
  rintro e w1 ⟨v, rfl, hown, hb1⟩
  obtain ⟨A1, c1, rfl, -, -⟩ := own_split hown
  have HR := Hidden.mk (own_rdX3 (f := tcells) tcells_len rfl hown)
  have hlt : w.heap.size < w0.heap.size := (Array.getElem?_eq_some_iff.1 HBK0.out).1
  have hlt1 : w.heap.size < w1.heap.size := Nat.lt_of_lt_of_le hlt hb1.size
  have HBK1 := Hidden.mk ((hb1.block _ hlt).trans HBK0.out)
  have HB1 := Hidden.mk (HB0.out.trans (hb1.mono HB0.out.size))
  generalize hm : H.length = hn at *
  have HM := Hidden.mk hm
  have hle := HLE.out
  have hal := (Below.refl w1.heap.size w1).alloc (Nat.le_refl _) (.cells #[.int .i64 m, .int .i64 0, .int .i64 0, .int .i64 0, .int .i64 hn] 42)
  have HST : Hidden (Below w1.heap.size w1 (w1.alloc (.cells #[.int .i64 m, .int .i64 0, .int .i64 0, .int .i64 0, .int .i64 hn] 42)) ∧ (w1.alloc (.cells #[.int .i64 m, .int .i64 0, .int .i64 0, .int .i64 0, .int .i64 hn] 42)).heap[w1.heap.size]? = some (.cells #[.int .i64 m, .int .i64 0, .int .i64 0, .int .i64 0, .int .i64 hn] 42 (0, 0))) := ⟨hal, heap_alloc_new w1 _⟩
  clear hown hb1 HC hm hal hlt HB0 HBK0
  go_wp2_with fail
  generalize w1.alloc (.cells #[.int .i64 m, .int .i64 0, .int .i64 0, .int .i64 0, .int .i64 hn] 42) = w2 at *
  generalize hsb : w1.heap.size = sb at *
  have HSB := Hidden.mk hsb
  clear hsb
  go_loopg [7] hn (fun q iv wr => ∃ (k : Nat) (fr mo : Int), k ≤ hn ∧ q = hn - k ∧ iv = .int .i64 (k : Int) ∧ 0 ≤ fr ∧ fr ≤ 6400 * k ∧ 0 ≤ mo ∧ Hidden (sumX (H.take k) = fr ∧ mostX (H.take k) = mo ∧ Below sb w1 wr ∧ wr.heap[sb]? = some (.cells #[.int .i64 m, .int .i64 0, .int .i64 fr, .int .i64 mo, .int .i64 hn] 42 (0, 0))))
  case atStart => exact ⟨0, 0, 0, by omega, rfl, rfl, by omega, by omega, by omega, ⟨rfl, rfl, HST.out.1, HST.out.2⟩⟩
  case round =>
    obtain ⟨k, fr, mo, hk, rfl, rfl, hf0, hf1, hm0, hst⟩ := hrel
    by_cases hlt : k < hn
    · have hkl : k < H.length := by rw [HM.out]; exact hlt
      obtain ⟨pp, oo, rfl, hcx⟩ := HR.out k hkl
      have x1 := hcx 1 _ rfl
      have HS1 := Hidden.mk (sumX_succ H k hkl)
      have HS2 := Hidden.mk (mostX_succ H k hkl)
      have hok := HOK.out H[k] (List.getElem_mem hkl)
      generalize H[k] = e at *
      obtain ⟨e1, e2⟩ := e
      dsimp only at x1 HS1 HS2 hok
      have hn64 := HN.out
      have i0 : (0 : Int) ≤ k := by omega
      have i1 : (k : Int) < hn := by omega
      have s1 : IntKind.i64.wrap ((k : Int) + 1) = (k : Int) + 1 := IntWalk.i64_in _ (by omega)
      have s2 : IntKind.i64.wrap (fr + e2) = fr + e2 := IntWalk.i64_in _ (by omega)
      have hx1 : ∀ W, Below sb w1 W → W.cell? ⟨pp, oo + k * 2 + 1, none⟩ = some (.int .i64 e2) := fun W hW => (by
        rw [← HSB.out] at hW
        exact (hW.cell (p := ⟨pp, oo + k * 2 + 1, none⟩) (block_lt_of_cell x1)).trans x1)
      have HX1 := Hidden.mk hx1
      have y1 := hx1 wr hst.out.2.2.1
      obtain ⟨z0, z1, z2, z3, z4, zf⟩ := fiveCells hst.out.2.2.2
      have zf2 := zf 2
      have HBB := Hidden.mk (And.intro hst.out.2.2.1 hst.out.2.2.2)
      have HSF : Hidden (sumX (H.take (k + 1)) = fr + e2) := ⟨by rw [HS1.out, hst.out.1]⟩
      have HSM : Hidden (mostX (H.take (k + 1)) = max mo e2) := ⟨by rw [HS2.out, hst.out.2.1]⟩
      clear hcx x1 hx1 zf hst HST HS1 HS2
      go_upto_region 6 with (fail)
      go_still_tail 9, (by kernel_rfl)
      change wpList _ _ _ _ _ wr.drew
      have HBB' : Hidden (Below sb w1 wr.drew ∧ wr.drew.heap[sb]? = some (.cells #[.int .i64 m, .int .i64 0, .int .i64 fr, .int .i64 mo, .int .i64 hn] 42 (0, 0))) := ⟨HBB.out.1.drew, HBB.out.2⟩
      clear z0 z1 z2 z3 z4 zf2 y1 HBB
      generalize wr.drew = wd at *
      have zf2 := (fiveCells HBB'.out.2).2.2.2.2.2 2
      have z2 := (fiveCells HBB'.out.2).2.2.1
      have HBD : Hidden (Below sb w1 (wd.setCell ⟨sb, 2, none⟩ (.int .i64 (fr + e2))) ∧ (wd.setCell ⟨sb, 2, none⟩ (.int .i64 (fr + e2))).heap[sb]? = some (.cells #[.int .i64 m, .int .i64 0, .int .i64 (fr + e2), .int .i64 mo, .int .i64 hn] 42 (0, 0))) := ⟨HBB'.out.1.setCell (p := ⟨sb, 2, none⟩) (Nat.le_refl _) _, heap_setK (k := 2) HBB'.out.2 _⟩
      go_upto_region 7 with (fail)
      clear z2 zf2 HBB'
      generalize wd.setCell ⟨sb, 2, none⟩ (.int .i64 (fr + e2)) = w5 at *
      have y2 := HX1.out w5 HBD.out.1
      obtain ⟨z0, z1, z2, z3, z4, zf⟩ := fiveCells HBD.out.2
      by_cases hgt : mo < e2
      · have d1 : decide (mo < e2) = true := by simpa using hgt
        have HMX : Hidden (mostX (H.take (k + 1)) = e2) := ⟨by rw [HSM.out, Int.max_eq_right (by omega)]⟩
        clear hgt HSM
        go_quiet (fail)
        have HQ : Hidden (Below sb w1 (w5.drewN nq) ∧ (w5.drewN nq).heap[sb]? = some (.cells #[.int .i64 m, .int .i64 0, .int .i64 (fr + e2), .int .i64 mo, .int .i64 hn] 42 (0, 0))) := ⟨below_drewN HBD.out.1 _, HBD.out.2⟩
        have y3 : (w5.drewN nq).cell? ⟨pp, oo + k * 2 + 1, none⟩ = some (.int .i64 e2) := y2
        clear y2 z0 z1 z2 z3 z4 zf HBD
        generalize w5.drewN nq = w6 at *
        have zf3 := (fiveCells HQ.out.2).2.2.2.2.2 3
        have z3 := (fiveCells HQ.out.2).2.2.2.1
        have HE : Hidden (Below sb w1 (w6.setCell ⟨sb, 3, none⟩ (.int .i64 e2)) ∧ (w6.setCell ⟨sb, 3, none⟩ (.int .i64 e2)).heap[sb]? = some (.cells #[.int .i64 m, .int .i64 0, .int .i64 (fr + e2), .int .i64 e2, .int .i64 hn] 42 (0, 0))) := ⟨HQ.out.1.setCell (p := ⟨sb, 3, none⟩) (Nat.le_refl _) _, heap_setK (k := 3) HQ.out.2 _⟩
        clear HQ
        go_wp2_with fail
        go_roundg (hn - (k + 1))
        case measure => omega
        case rel => exact ⟨k + 1, fr + e2, e2, by omega, rfl, by go_num, by omega, by omega, by omega, ⟨HSF.out, HMX.out, HE.out⟩⟩
      · have d1 : decide (mo < e2) = false := by simpa using hgt
        have HMX : Hidden (mostX (H.take (k + 1)) = mo) := ⟨by rw [HSM.out, Int.max_eq_left (by omega)]⟩
        clear hgt HSM
        go_quiet (fail)
        have HQ : Hidden (Below sb w1 (w5.drewN nq) ∧ (w5.drewN nq).heap[sb]? = some (.cells #[.int .i64 m, .int .i64 0, .int .i64 (fr + e2), .int .i64 mo, .int .i64 hn] 42 (0, 0))) := ⟨below_drewN HBD.out.1 _, HBD.out.2⟩
        clear y2 z0 z1 z2 z3 z4 zf HBD
        generalize w5.drewN nq = w6 at *
        go_wp2_with fail
        go_roundg (hn - (k + 1))
        case measure => omega
        case rel => exact ⟨k + 1, fr + e2, mo, by omega, rfl, by go_num, by omega, by omega, by omega, ⟨HSF.out, HMX.out, HQ.out⟩⟩
    · obtain rfl : k = hn := by omega
      have t4 : decide ((k : Int) < k) = false := by simp
      have hT : H.take k = H := List.take_of_length_le (by rw [HM.out]; exact Nat.le_refl _)
      have h1 := hst.out.1
      have h2 := hst.out.2.1
      rw [hT] at h1 h2
      have hb := hst.out.2.2.1
      have hrk := (hb.block w.heap.size hlt1).trans HBK1.out
      have s1 : IntKind.i64.wrap ((n : Int) - fr) = (n : Int) - fr := IntWalk.i64_in _ (by have := HN.out; omega)
      have hset := heap_setK (k := 1) hst.out.2.2.2 (.int .i64 ((n : Int) - fr))
      have hrs := (Below.heap_setCell wr ⟨sb, 1, none⟩ (.int .i64 ((n : Int) - fr)) w.heap.size (by dsimp only; omega)).trans hrk
      obtain ⟨y0, y1, y2, y3, y4, yf⟩ := fiveCells hst.out.2.2.2
      have yf1 := yf 1
      have hbw := HB1.out.trans (hb.mono (Nat.le_of_lt hlt1))
      have HB2 : Hidden (Below w.heap.size w (wr.setCell ⟨sb, 1, none⟩ (.int .i64 ((n : Int) - fr)))) := ⟨hbw.setCell (p := ⟨sb, 1, none⟩) (by dsimp only; omega) _⟩
      have HF : Hidden (((n : Int) - fr) = su ∧ fr = (n : Int) - su ∧ mostX H = mo ∧ (H.length : Int) = k) := ⟨by rw [← h1]; exact HSU.out.1, by rw [← h1]; exact HSU.out.2.symm, h2, by rw [HM.out]⟩
      have HST2 := Hidden.mk (And.intro hset hrs)
      clear hset hrs hbw hb hrk h1 h2 hT HST hst
      go_upto_region 10 with (fail)
      clear y0 y1 y2 y3 y4 yf yf1
      generalize wr.setCell ⟨sb, 1, none⟩ (.int .i64 ((n : Int) - fr)) = w7 at *
      obtain ⟨z0, z1, z2, z3, z4, -⟩ := fiveCells (show w7.heap[sb]? = some (.cells #[.int .i64 m, .int .i64 ((n : Int) - fr), .int .i64 fr, .int .i64 mo, .int .i64 k] 42 (0, 0)) from HST2.out.1)
      obtain ⟨r0, r1, r2, r3, r4, y0⟩ := fiveCells HST2.out.2
      clear HST2
      go_wp2_with fail
      refine bodyPost_ret (v := .agg #[.int .i64 m, .int .i64 ((n : Int) - fr), .int .i64 fr, .int .i64 mo, .int .i64 k]) ?_ rfl ?_
      · rw [results_one rfl]
        go_simp
      · exact ⟨by rw [HF.out.1, ← HF.out.2.1, HF.out.2.2.1, HF.out.2.2.2], ((((HB2.out.setCell (p := ⟨w.heap.size, 0, none⟩) (Nat.le_refl _) _).setCell (p := ⟨w.heap.size, 1, none⟩) (Nat.le_refl _) _).setCell (p := ⟨w.heap.size, 2, none⟩) (Nat.le_refl _) _).setCell (p := ⟨w.heap.size, 3, none⟩) (Nat.le_refl _) _).setCell (p := ⟨w.heap.size, 4, none⟩) (Nat.le_refl _) _⟩
end Go.Proofs.YtecjjhfaljdcpaaGreatDoor
/- The reference's step of moving, plainly. No walk here. -/
namespace Go.Proofs.YtecjjhfaljdcpaaGreatDoor
open Go.RowKit

/-- the first from a place on, so far -/
def upB (a : Nat) (b : Option Ent) (e : Ent) : Option Ent :=
  match b with
  | none => if a ≤ rAt e.2 then some e else none
  | some x => if a ≤ rAt e.2 ∧ rAt e.2 < rAt x.2 then some e else some x
def bestM (a : Nat) (E : List Ent) : Option Ent := E.foldl (upB a) none
theorem bestM_succ (a : Nat) (E : List Ent) (k : Nat) (hk : k < E.length) : bestM a (E.take (k + 1)) = upB a (bestM a (E.take k)) E[k] := by
  unfold bestM; rw [List.take_succ_eq_append_getElem hk, List.foldl_append]; rfl
theorem bestM_spec (a : Nat) (E : List Ent) : ∀ k, k ≤ E.length → (bestM a (E.take k) = none ∧ ∀ e ∈ E.take k, rAt e.2 < a) ∨ ∃ x, x ∈ E.take k ∧ bestM a (E.take k) = some x ∧ a ≤ rAt x.2 ∧ ∀ e ∈ E.take k, a ≤ rAt e.2 → rAt x.2 ≤ rAt e.2
  | 0, _ => Or.inl ⟨by simp [bestM], fun e he => by simp at he⟩
  | k + 1, hk => by
    have hk' : k < E.length := hk
    rw [bestM_succ a E k hk', List.take_succ_eq_append_getElem hk']
    rcases bestM_spec a E k (by omega) with ⟨h1, h2⟩ | ⟨x, h0, h1, h2, h3⟩
    · rw [h1]
      unfold upB
      by_cases hc : a ≤ rAt E[k].2
      · right
        refine ⟨E[k], List.mem_append_right _ (List.mem_singleton.2 rfl), by simp [hc], hc, fun e he hae => ?_⟩
        rcases List.mem_append.1 he with he | he
        · have := h2 e he; omega
        · simp only [List.mem_singleton] at he; subst he; exact Nat.le_refl _
      · left
        refine ⟨by simp [hc], fun e he => ?_⟩
        rcases List.mem_append.1 he with he | he
        · exact h2 e he
        · simp only [List.mem_singleton] at he; subst he; omega
    · rw [h1]
      unfold upB
      right
      by_cases hc : a ≤ rAt E[k].2 ∧ rAt E[k].2 < rAt x.2
      · refine ⟨E[k], List.mem_append_right _ (List.mem_singleton.2 rfl), by simp [hc], hc.1, fun e he hae => ?_⟩
        rcases List.mem_append.1 he with he | he
        · have := h3 e he hae; omega
        · simp only [List.mem_singleton] at he; subst he; exact Nat.le_refl _
      · refine ⟨x, List.mem_append_left _ h0, by simp [hc], h2, fun e he hae => ?_⟩
        rcases List.mem_append.1 he with he | he
        · exact h3 e he hae
        · simp only [List.mem_singleton] at he; subst he; omega
/-- where the scan stands: k of the sorted ones lie ahead of a -/
structure Stands (l : Bytes) (k a : Nat) : Prop where
  le : k ≤ (sortM l).length
  tidy : TidyM a ((sortM l).drop k) l.length
  ahead : ∀ e ∈ (sortM l).take k, rAt e.2 < a
  gap : gapM 288 (sortM l) = gapM a ((sortM l).drop k)
theorem stands_start {l : Bytes} (hg : Good l) : Stands l 0 288 := ⟨Nat.zero_le _, tidy_sortM hg, fun e he => by simp at he, rfl⟩
theorem Stands.none {l : Bytes} {a : Nat} (h : Stands l (sortM l).length a) : bestM a (entriesL l) = none ∧ gapM 288 (sortM l) = Option.none := by
  refine ⟨?_, by rw [h.gap, List.drop_length]; rfl⟩
  have := bestM_spec a (entriesL l) (entriesL l).length (Nat.le_refl _)
  rw [List.take_length] at this
  rcases this with ⟨h1, _⟩ | ⟨x, h0, h1, h2, h3⟩
  · exact h1
  · have := h.ahead x (by rw [List.take_length]; exact (sortM_perm l).mem_iff.2 h0); omega
theorem Stands.some {l : Bytes} {k a : Nat} (h : Stands l k a) (hk : k < (sortM l).length) : bestM a (entriesL l) = some (sortM l)[k] ∧ (sortM l)[k] ∈ entriesL l ∧ a ≤ rAt (sortM l)[k].2 ∧ (a < rAt (sortM l)[k].2 → gapM 288 (sortM l) = Option.some ((sortM l)[k], a)) ∧ (¬ a < rAt (sortM l)[k].2 → Stands l (k + 1) (a + rLen (sortM l)[k].2)) := by
  have hd := List.drop_eq_getElem_cons hk
  have htd := h.tidy
  rw [hd] at htd
  obtain ⟨t1, t2, t3⟩ := htd
  have hmem : (sortM l)[k] ∈ entriesL l := (sortM_perm l).mem_iff.1 (List.getElem_mem hk)
  refine ⟨?_, hmem, t1, fun hlt => ?_, fun hge => ?_⟩
  · have := bestM_spec a (entriesL l) (entriesL l).length (Nat.le_refl _)
    rw [List.take_length] at this
    rcases this with ⟨_, h2⟩ | ⟨x, h0, h1, h2, h3⟩
    · have := h2 _ hmem; omega
    · rw [h1]
      have hx := (sortM_perm l).mem_iff.2 h0
      rw [← List.take_append_drop k (sortM l)] at hx
      rcases List.mem_append.1 hx with hx | hx
      · have := h.ahead x hx; omega
      · rw [hd] at hx
        rcases List.mem_cons.1 hx with hx | hx
        · rw [hx]
        · have := tidyM_mem t3 x hx
          have := h3 _ hmem t1
          omega
  · rw [h.gap, hd]; unfold gapM; rw [if_pos hlt]
  · have he : rAt (sortM l)[k].2 = a := by omega
    rw [he] at t3
    refine ⟨hk, t3, fun e hx => ?_, ?_⟩
    · rw [List.take_succ_eq_append_getElem hk] at hx
      rcases List.mem_append.1 hx with hx | hx
      · have := h.ahead e hx; omega
      · simp only [List.mem_singleton] at hx; subst hx; omega
    · rw [h.gap, hd]; show gapM a (_ :: _) = _; rw [gapM, if_neg hge, he]
/-- the object's bytes laid one after the other -/
theorem splice_more (l x : Bytes) (a j : Nat) (hj : j < x.length) (h : a + x.length ≤ l.length) : (splice l a (x.take j)).set (a + j) x[j] = splice l a (x.take (j + 1)) := by
  have h1 : (x.take j).length = j := by simp; omega
  have h2 : (x.take (j + 1)).length = j + 1 := by simp; omega
  apply List.ext_getElem?
  intro p
  rw [List.getElem?_set, splice_len _ _ _ (by omega), splice_rd _ _ _ _ (by omega), splice_rd _ _ _ _ (by omega), h1, h2]
  by_cases b : a + j = p
  · subst b
    rw [if_pos rfl, if_pos (by omega), if_pos (by omega), Nat.add_sub_cancel_left, List.getElem?_take, if_pos (by omega), List.getElem?_eq_getElem hj]
  · rw [if_neg b]
    by_cases c : a ≤ p ∧ p < a + j
    · rw [if_pos c, if_pos (show a ≤ p ∧ p < a + (j + 1) from by omega), List.getElem?_take, List.getElem?_take, if_pos (by omega), if_pos (by omega)]
    · rw [if_neg c, if_neg (show ¬ (a ≤ p ∧ p < a + (j + 1)) from by omega)]
end Go.Proofs.YtecjjhfaljdcpaaGreatDoor
/- The reference's Put and PutEntry: the row that they give is a new one. -/
namespace Go.Proofs.YtecjjhfaljdcpaaGreatDoor
open Go.RowKit

/-- an answer: bytes in a new row, and a number -/
def RowAnsO (w w' : World) (e : Ending) (l : Bytes) (x : Value) : Prop := ∃ A' c', e = .returned (.tuple #[.slice A' l.length c', x]) ∧ (l ≠ [] → ∃ g, A' = some ⟨g, 0, none⟩ ∧ w.heap.size ≤ g ∧ Row w' 5 g c' l) ∧ Below w.heap.size w w'
set_option maxRecDepth 100000 in
set_option maxHeartbeats 1000000 in
theorem refPut_own (A : Option Addr) (n c : Nat) (l : Bytes) (at_ x size : Int) (w : World) (hn : l.length = n) (hl : n ≤ 140737488351232) (hr : Rd w A l) :
    Calls Tryz.prog 69 #[.slice A n c, .int .i64 at_, .int .i64 x, .int .i64 size] w fun e w' => RowAnsO w w' e (putF l at_ x size) (.int .i64 (putE n at_ x size)) := by
  obtain ⟨i0, hi0, hz0, hz1, hz2⟩ := info_parts byte_info
  generalize hF : putF l at_ x size = F
  generalize hE : putE n at_ x size = E
  unfold putF at hF
  rw [hn, hE] at hF
  unfold putE at hE
  by_cases hs : 1 ≤ size ∧ size ≤ 4
  · obtain ⟨h1, h4⟩ := hs
    obtain ⟨s, rfl⟩ := Int.eq_ofNat_of_zero_le (show 0 ≤ size by omega)
    have HM : Hidden (mostN (s : Int) = (2 ^ (8 * s) : Nat) - 1) := ⟨by simp [mostN]⟩
    have HE := Hidden.mk hE
    have HF := Hidden.mk hF
    clear hE hF
    go_enter Tryz.func69, Tryz.ntmps69
    go_wp2_with fail
    go_loop [10, 11] (fun mv iv => ∃ k : Nat, k ≤ s ∧ iv = .int .i64 k ∧ mv = .int .i64 ((2 ^ (8 * k) : Nat) : Int)) (fun _ iv => s - (intOf iv).toNat)
    case atStart => exact ⟨0, Nat.zero_le _, rfl, rfl⟩
    case round =>
      obtain ⟨k, hk, rfl, rfl⟩ := hrel
      by_cases hlt : k < s
      · have hp : 2 ^ (8 * k) ≤ 16777216 := by
          calc 2 ^ (8 * k) ≤ 2 ^ 24 := Nat.pow_le_pow_right (by omega) (by omega)
            _ = 16777216 := by decide
        have HD : Hidden (2 ^ (8 * k) * 256 = 2 ^ (8 * (k + 1))) := ⟨by rw [show 8 * (k + 1) = 8 * k + 8 from by omega, Nat.pow_add]⟩
        generalize 2 ^ (8 * k) = M at *
        have s1 : IntKind.i64.wrap ((M : Int) * 256) = (M : Int) * 256 := IntWalk.i64_in _ (by omega)
        go_wp2_with fail
        go_round
        case rel => exact ⟨k + 1, by omega, by go_num, int_i64 (by have := HD.out; omega)⟩
        case measure => simp [intOf]; omega
      · obtain rfl : k = s := by omega
        have hp : 2 ^ (8 * k) ≤ 4294967296 := by
          calc 2 ^ (8 * k) ≤ 2 ^ 32 := Nat.pow_le_pow_right (by omega) (by omega)
            _ = 4294967296 := by decide
        by_cases hx : 0 ≤ x ∧ x ≤ mostN (k : Int)
        · obtain ⟨X, rfl⟩ := Int.eq_ofNat_of_zero_le hx.1
          have hxm := hx.2
          rw [HM.out] at hxm
          by_cases ha : at_ < 0 ∨ (n : Int) - k < at_
          · have he : E = 3 := by rw [← HE.out, if_pos ⟨h1, h4, hx.1, hx.2⟩, if_pos ha]
            have hf : F = [] := by rw [← HF.out, if_neg (by omega)]
            subst he hf
            clear HE HF hx HM
            generalize 2 ^ (8 * k) = M at *
            by_cases h0 : at_ < 0
            · clear ha
              go_wp2_with fail
              go_ret2
              exact ⟨none, 0, rfl, fun h => absurd rfl h, Below.refl _ _⟩
            · by_cases hb : (n : Int) < at_
              · clear ha
                go_wp2_with fail
                go_ret2
                exact ⟨none, 0, rfl, fun h => absurd rfl h, Below.refl _ _⟩
              · have hc3 : (n : Int) - at_ < k := by omega
                have s1 : IntKind.i64.wrap ((n : Int) - at_) = (n : Int) - at_ := IntWalk.i64_in _ (by omega)
                clear ha
                go_wp2_with fail
                go_ret2
                exact ⟨none, 0, rfl, fun h => absurd rfl h, Below.refl _ _⟩
          · have he : E = 0 := by rw [← HE.out, if_pos ⟨h1, h4, hx.1, hx.2⟩, if_neg ha]
            have hf : F = putB l at_ X k := by rw [← HF.out, if_pos he]
            obtain ⟨a, rfl⟩ := Int.eq_ofNat_of_zero_le (show 0 ≤ at_ by omega)
            have hfa : F = splice l a (numB X k) := by rw [hf]; simp [putB]
            have HFA := Hidden.mk hfa
            subst he
            clear HE HF hx HM hf hfa
            have hfit : a + k ≤ n := by omega
            have hk1 : 1 ≤ k := by omega
            have s1 : IntKind.i64.wrap ((n : Int) - a) = (n : Int) - a := IntWalk.i64_in _ (by omega)
            have t1 : decide (n < a) = false := by simp; omega
            have t2 : decide ((n : Int) - a < k) = false := by simp; omega
            obtain ⟨p, off, rfl, _⟩ := hr.lt (by omega)
            generalize 2 ^ (8 * k) = M at *
            have t3 : decide (M ≤ X) = false := by simp; omega
            have t0 : decide ((a : Int) < 0) = false := by simp
            have t5 : decide ((X : Int) < 0) = false := by simp
            clear ha
            go_wp2_with (at_builtin; refine wpList_append_own _ rfl (.tmp 50) (.tmp 51) _ rfl w.heap.size 5 i0 _ 1 1 Tryz.underlying22 hi0 hz0 hz1 hz2 rfl (by decide) (.slice none 0 0) 0 [] rfl (World.ownsRow_nil _ _ _ _) ⟨p, off, none⟩ n c (l.map bv) rfl (by simp; omega) hr.cells one_bv (by simp only [maxLen]; omega) (by omega) (Nat.le_refl _) ?_; intro v1 w1 hown1 hg1 hnn1)
            have hb1 : Below w.heap.size w w1 := (Below.refl _ _).grown hg1 (Nat.le_refl _) (fun k hk => by simp [Value.ownBlock] at hk)
            have hO : Own w1 w.heap.size 5 v1 l := by unfold Own; simpa [hn] using hown1
            have hne : v1 ≠ .slice none 0 0 := fun h => by
              subst h
              rcases hO.2 with ⟨_, h0⟩ | ⟨g, cap, cur, h, _⟩
              · omega
              · cases h
            obtain ⟨g, cap, hv, hbg, hrow⟩ := Row.of_own hO hne
            rw [hn] at hv
            subst hv
            clear hO hne hown1 hg1 hnn1
            go_loopw [2, 13] (fun nv iv wr => ∃ j : Nat, j ≤ k ∧ iv = .int .i64 j ∧ nv = .int .i64 ((X / 2 ^ (8 * j) : Nat) : Int) ∧ Below w.heap.size w wr ∧ Row wr 5 g cap (splice l a (numB X j))) (fun _ iv _ => k - (intOf iv).toNat)
            case atStart => exact ⟨0, Nat.zero_le _, rfl, by simp, hb1, by simpa [numB, splice] using hrow⟩
            case round =>
              obtain ⟨j, hj, rfl, rfl, hbel, hrow2⟩ := hrel
              have hsl : (splice l a (numB X j)).length = n := by rw [splice_len _ _ _ (by rw [numB_length]; omega), hn]
              by_cases hlt2 : j < k
              · have hd := div_step X j
                have HD2 := Hidden.mk hd
                have hcell := hrow2.cell (a + j) (by omega)
                have hfr := hrow2.frozen (a + j)
                have hst := hrow2.store (a + j) (by omega) (UInt8.ofNat (X / 2 ^ (8 * j) % 256))
                rw [splice_put l a X j (by omega)] at hst
                have hbn := hbel.setCell (p := ⟨g, a + j, none⟩) hbg (bv (UInt8.ofNat (X / 2 ^ (8 * j) % 256)))
                have hbv : bv (UInt8.ofNat (X / 2 ^ (8 * j) % 256)) = .int .u8 ((X / 2 ^ (8 * j) : Nat) % 256 : Int) := by simp only [bv, ofNat_mod]; rfl
                have hmle : X / 2 ^ (8 * j) ≤ X := Nat.div_le_self _ _
                have hcap := hrow2.le.1
                rw [hbv] at hst hbn
                generalize X / 2 ^ (8 * j) = m at *
                have q1 : IntKind.i64.wrap ((a : Int) + j) = (a : Int) + j := IntWalk.i64_in _ (by omega)
                have k0 : (0 : Int) ≤ (a : Int) + j := by omega
                have k1 : (a : Int) + j < n := by omega
                generalize (splice l a (numB X j))[a + j] = u at hcell
                clear hd hbv hrow2 hsl
                go_wp2_with fail
                go_roundw
                case rel => exact ⟨j + 1, by omega, by go_num, int_i64 (by have := HD2.out; omega), hbn, hst⟩
                case measure => simp [intOf]; omega
              · obtain rfl : j = k := by omega
                go_wp2_with fail
                go_ret2
                refine ⟨some ⟨g, 0, none⟩, cap, ?_, fun _ => ⟨g, rfl, hbg, by rw [HFA.out]; exact hrow2⟩, hbel⟩
                rw [show F.length = n from by rw [HFA.out]; exact hsl]
                rfl
        · have he : E = 1 := by rw [← HE.out, if_neg (fun h => hx ⟨h.2.2.1, h.2.2.2⟩)]
          have hf : F = [] := by rw [← HF.out, if_neg (by omega)]
          rw [HM.out] at hx
          subst he hf
          clear HE HF HM
          generalize 2 ^ (8 * k) = M at *
          by_cases h0 : x < 0
          · clear hx
            go_wp2_with fail
            go_ret2
            exact ⟨none, 0, rfl, fun h => absurd rfl h, Below.refl _ _⟩
          · have t3 : (M : Int) ≤ x := by omega
            clear hx
            go_wp2_with fail
            go_ret2
            exact ⟨none, 0, rfl, fun h => absurd rfl h, Below.refl _ _⟩
  · have he : E = 1 := by rw [← hE, if_neg (fun h => hs ⟨h.1, h.2.1⟩)]
    have hf : F = [] := by rw [← hF, if_neg (by omega)]
    subst he hf
    clear hE hF
    by_cases h1 : size < 1
    · clear hs
      go_enter Tryz.func69, Tryz.ntmps69
      go_wp2_with fail
      go_ret2
      exact ⟨none, 0, rfl, fun h => absurd rfl h, Below.refl _ _⟩
    · have h4 : 4 < size := by omega
      clear hs
      go_enter Tryz.func69, Tryz.ntmps69
      go_wp2_with fail
      go_ret2
      exact ⟨none, 0, rfl, fun h => absurd rfl h, Below.refl _ _⟩
theorem refPut_fitO (A : Option Addr) (n c : Nat) (l : Bytes) (a x s : Nat) (w : World) (hn : l.length = n) (hl : n ≤ 140737488351232) (hr : Rd w A l) (h1 : 1 ≤ s) (h4 : s ≤ 4) (hx : (x : Int) ≤ mostN (s : Int)) (ha : a + s ≤ n) :
    Calls Tryz.prog 69 #[.slice A n c, .int .i64 (a : Int), .int .i64 (x : Int), .int .i64 (s : Int)] w fun e w' => ∃ g c', e = .returned (.tuple #[.slice (some ⟨g, 0, none⟩) n c', .int .i64 0]) ∧ w.heap.size ≤ g ∧ Row w' 5 g c' (splice l a (numB x s)) ∧ Below w.heap.size w w' := by
  have hE : putE n (a : Int) (x : Int) (s : Int) = 0 := by
    unfold putE; rw [if_pos ⟨by omega, by omega, by omega, hx⟩, if_neg (by omega)]
  have hF : putF l (a : Int) (x : Int) (s : Int) = splice l a (numB x s) := by
    unfold putF; rw [hn, if_pos hE]; rfl
  have hL : (splice l a (numB x s)).length = n := by rw [splice_len _ _ _ (by rw [numB_length]; omega)]; exact hn
  refine (refPut_own A n c l a x s w hn hl hr).mono ?_
  rintro e w' ⟨A', c', rfl, hrd, hb⟩
  rw [hF] at hrd
  obtain ⟨g, rfl, hg, hrow⟩ := hrd (fun h => by have h2 : (splice l a (numB x s)).length = 0 := (by rw [h]; rfl); omega)
  rw [hF, hE, hL]
  exact ⟨g, c', rfl, hg, hrow, hb⟩
def PutAtO (n : Nat) (o : Nat) (x s : Int) (l l' : Bytes) : Prop := ∀ (A : Option Addr) (c : Nat) (W : World), Rd W A l → Calls Tryz.prog 69 #[.slice A n c, .int .i64 (o : Int), .int .i64 x, .int .i64 s] W fun e w' => ∃ g c', e = .returned (.tuple #[.slice (some ⟨g, 0, none⟩) n c', .int .i64 0]) ∧ W.heap.size ≤ g ∧ Row w' 5 g c' l' ∧ Below W.heap.size W w'
theorem putAtO (n o x s : Nat) (l : Bytes) (hn : l.length = n) (hl : n ≤ 140737488351232) (h1 : 1 ≤ s) (h4 : s ≤ 4) (hx : (x : Int) ≤ mostN (s : Int)) (ha : o + s ≤ n) : PutAtO n o (x : Int) (s : Int) l (splice l o (numB x s)) :=
  fun A c W hW => refPut_fitO A n c l o x s W hn hl hW h1 h4 hx ha
set_option maxRecDepth 100000 in
theorem refPutEntry_walkO (A : Option Addr) (n c k o o1 o3 t tt b m : Nat) (l l1 l2 l3 : Bytes) (w : World) (hrd : Rd w A l) (hh : handleB ((k : Int) + 1) = true)
    (s0 : IntKind.i64.wrap (k : Int) = (k : Int)) (s1 : IntKind.i64.wrap (5 * (k : Int)) = (o : Int)) (s2 : IntKind.i64.wrap ((t : Int) + 1) = (tt : Int))
    (s3 : IntKind.i64.wrap ((o : Int) + 1) = (o1 : Int)) (s4 : IntKind.i64.wrap ((o : Int) + 3) = (o3 : Int)) (ht : t ≤ 15) (hm1 : 1 ≤ m) (hm : m ≤ 1000) (hb : 288 ≤ b) (hbn : b + m ≤ n) (hn : n ≤ 6400)
    (c1 : PutAtO n o tt 1 l l1) (c2 : PutAtO n o1 b 2 l1 l2) (c3 : PutAtO n o3 m 2 l2 l3) :
    Calls Tryz.prog 45 #[.slice A n c, entV ((k : Int) + 1) b m t] w fun e w' => ∃ g c', e = .returned (.tuple #[.slice (some ⟨g, 0, none⟩) n c', .int .i64 0]) ∧ w.heap.size ≤ g ∧ Row w' 5 g c' l3 ∧ Below w.heap.size w w' := by
  have hB : Below w.heap.size w (w.alloc (.cells #[.int .i64 ((k : Int) + 1), .int .i64 b, .int .i64 m, .int .i64 t] 58)) := (Below.refl _ _).alloc (Nat.le_refl _) _
  have hF0 := fourAt_one w ((k : Int) + 1) b m t 58
  have s5 : IntKind.i64.wrap ((n : Int) - b) = (n : Int) - b := IntWalk.i64_in _ (by omega)
  have t1 : decide ((t : Int) < 0) = false := by simp
  have t2 : decide (15 < (t : Int)) = false := by simp; omega
  have t2' : decide (15 < t) = false := by simp; omega
  have t3 : decide ((m : Int) < 1) = false := by simp; omega
  have t3' : decide (m < 1) = false := by simp; omega
  have t4 : decide (1000 < (m : Int)) = false := by simp; omega
  have t4' : decide (1000 < m) = false := by simp; omega
  have t5 : decide ((b : Int) < 288) = false := by simp; omega
  have t5' : decide (b < 288) = false := by simp; omega
  have t6 : decide ((n : Int) < b) = false := by simp; omega
  have t6' : decide (n < b) = false := by simp; omega
  have t7 : decide ((n : Int) - b < m) = false := by simp; omega
  have hr0 := hrd.below hB
  have C1 := Hidden.mk c1
  have C2 := Hidden.mk c2
  have C3 := Hidden.mk c3
  clear ht hm1 hm hb hbn hn c1 c2 c3 hrd
  unfold entV
  go_enter Tryz.func45, Tryz.ntmps45
  go_wp2_with fail
  refine (ref_handle_any _ _).mono ?_
  rintro e w1 ⟨rfl, rfl⟩
  rw [hh]
  clear hh
  go_wp2_with fail
  generalize w.alloc (.cells #[.int .i64 ((k : Int) + 1), .int .i64 (b : Int), .int .i64 (m : Int), .int .i64 (t : Int)] 58) = w0 at *
  refine (C1.out A c _ hr0).mono ?_
  rintro e w1 ⟨g1, c1, rfl, hg1, hr1, hb1⟩
  have hF1 := hF0.below hb1
  have hB1 := hB.trans (hb1.mono hB.size)
  have HF1 := Hidden.mk hF1
  obtain ⟨x0, x1, x2, x3⟩ := hF1
  clear hb1 hF0
  go_wp2_with fail
  refine (C2.out _ c1 _ hr1.rd).mono ?_
  rintro e w2 ⟨g2, c2, rfl, hg2, hr2, hb2⟩
  have hF2 := HF1.out.below hb2
  have hB2 := hB1.trans (hb2.mono hB1.size)
  obtain ⟨y0, y1, y2, y3⟩ := hF2
  clear hb2 x0 x1 x2 x3
  go_wp2_with fail
  refine (C3.out _ c2 _ hr2.rd).mono ?_
  rintro e w3 ⟨g3, c3, rfl, hg3, hr3, hb3⟩
  have hB3 := hB2.trans (hb3.mono hB2.size)
  have HG3 : Hidden (w.heap.size ≤ g3) := ⟨Nat.le_trans hB2.size hg3⟩
  clear hg1 hg2 hg3 hb3 y0 y1 y2 y3
  go_wp2_with fail
  go_ret2
  exact ⟨g3, c3, rfl, HG3.out, hr3, hB3⟩
theorem refPutEntry_own (A : Option Addr) (n c : Nat) (l : Bytes) (h a len tag : Int) (w : World) (hln : l.length = n) (hr : rightB n = true) (hrd : Rd w A l) (hh : handleB h = true) (ht : tagB tag = true) (hl : lenB len = true) (hw : withinB n a len = true) :
    Calls Tryz.prog 45 #[.slice A n c, entV h a len tag] w fun e w' => ∃ g c', e = .returned (.tuple #[.slice (some ⟨g, 0, none⟩) n c', .int .i64 0]) ∧ w.heap.size ≤ g ∧ Row w' 5 g c' (putEnt l h a len tag) ∧ Below w.heap.size w w' := by
  have htb := tagB_true.1 ht
  have hlb := lenB_true.1 hl
  have hhb := handleB_true.1 hh
  have hwb := withinB_true.1 hw
  have hnb := rightB_true.1 hr
  obtain ⟨k, rfl⟩ : ∃ k : Nat, h = (k : Int) + 1 := ⟨(h - 1).toNat, by omega⟩
  obtain ⟨t, rfl⟩ := Int.eq_ofNat_of_zero_le (show 0 ≤ tag by omega)
  obtain ⟨b, rfl⟩ := Int.eq_ofNat_of_zero_le (show 0 ≤ a by omega)
  obtain ⟨m, rfl⟩ := Int.eq_ofNat_of_zero_le (show 0 ≤ len by omega)
  rw [putEnt_three l k t b m (by omega) (by omega)]
  have hl1 : (splice l (5 * k) (numB (t + 1) 1)).length = n := by rw [splice_len _ _ _ (by rw [numB_length]; omega)]; exact hln
  have hl2 : (splice (splice l (5 * k) (numB (t + 1) 1)) (5 * k + 1) (numB b 2)).length = n := by rw [splice_len _ _ _ (by rw [numB_length, hl1]; omega)]; exact hl1
  have hm1 : mostN ((1 : Nat) : Int) = 255 := rfl
  have hm2 : mostN ((2 : Nat) : Int) = 65535 := rfl
  exact refPutEntry_walkO A n c k (5 * k) (5 * k + 1) (5 * k + 3) t (t + 1) b m l _ _ _ w hrd hh (IntWalk.i64_in _ (by omega)) (by rw [IntWalk.i64_in _ (by omega)]; omega) (by rw [IntWalk.i64_in _ (by omega)]; omega) (by rw [IntWalk.i64_in _ (by omega)]; omega) (by rw [IntWalk.i64_in _ (by omega)]; omega)
    (by omega) (by omega) (by omega) (by omega) (by omega) (by omega)
    (putAtO n (5 * k) (t + 1) 1 l hln (by omega) (by omega) (by omega) (by rw [hm1]; omega) (by omega))
    (putAtO n (5 * k + 1) b 2 _ hl1 (by omega) (by omega) (by omega) (by rw [hm2]; omega) (by omega))
    (putAtO n (5 * k + 3) m 2 _ hl2 (by omega) (by omega) (by omega) (by rw [hm2]; omega) (by omega))
end Go.Proofs.YtecjjhfaljdcpaaGreatDoor
/- Maps told by a function from keys to values: lookup, store, len, clear as equations; over whatever program. -/
namespace Go.Proofs.YtecjjhfaljdcpaaGreatDoor
open Go.RowKit Go.Maps Go.ChangeMaps

/-- any value, as it stands -/
def heldR (v : Value) : Option (DataW Value × List MemPlace) := some (.held v, [])
section
variable {P : Program} {T K E : TypeId} {κ : Type} {kl : κ → Lit} {w w' : World} {b cnt : Nat} {f : κ → Option Value}
/-- what a datum has at each key -/
def Has (kl : κ → Lit) (D : DataW Value) (f : κ → Option Value) : Prop := (∀ k, (f k = none → Maps.has D (kl k) = false) ∧ ∀ v, f k = some v → Maps.has D (kl k) = true ∧ ∀ z, D.atKey (kl k) z = .held v) ∧ ∀ l, Maps.has D l = true → ∃ k, l = kl k ∧ (f k).isSome = true
/-- block b is a map of cnt entries: at each key what f says -/
def IM (P : Program) (K : TypeId) (kl : κ → Lit) (w : World) (b : Nat) (f : κ → Option Value) (cnt : Nat) : Prop :=
  ∃ D : DataW Value, w.ownsMap P K heldR b cnt D ∧ Maps.size D = cnt ∧ Has kl D f
theorem ownsMap_tight {D : DataW Value} {n : Nat} (h : w.ownsMap P K heldR b n D) : w.ownsMap P K heldR b (Maps.size D) D := by
  obtain ⟨es, clock, hb, F, _, rfl⟩ := h
  refine ⟨es, clock, hb, F, ?_, rfl⟩
  simp [Maps.size, length_sorted]
theorem IM.made (w : World) : IM P K kl (w.alloc (.map #[] 0)) w.heap.size (fun _ => none) 0 :=
  ⟨_, World.ownsMap_made w P K heldR, rfl, fun k => ⟨fun _ => rfl, fun v h => by cases h⟩, fun l h => by cases h⟩
theorem IM.block (h : IM P K kl w b f cnt) (hb : w'.heap[b]? = w.heap[b]?) : IM P K kl w' b f cnt := by
  obtain ⟨D, ⟨es, clock, h1, h2⟩, h3⟩ := h
  exact ⟨D, ⟨es, clock, hb.trans h1, h2⟩, h3⟩
theorem IM.lt (h : IM P K kl w b f cnt) : b < w.heap.size := by
  obtain ⟨D, h, _⟩ := h
  exact h.lt
theorem IM.isMap (h : IM P K kl w b f cnt) : ∃ es clock, w.heap[b]? = some (.map es clock) := by
  obtain ⟨D, ⟨es, clock, hb, _⟩, _⟩ := h
  exact ⟨es, clock, hb⟩
theorem IM.look_some (h : IM P K kl w b f cnt) (KL : Keyed P K) (ht : P.underlying T = some (.map K E)) {z : Value} (hz : (zeroValue E).run P w = .ok z w) {key : Value} {k : κ} (hkey : keyOf P K key = some (kl k)) {v : Value} (hf : f k = some v) :
    (Instr.lookup T (.map (some b)) key true).run P w = .ok (.tuple #[v, .bool true]) w ∧ (Instr.lookup T (.map (some b)) key false).run P w = .ok v w := by
  obtain ⟨D, h, _, hh⟩ := h
  obtain ⟨h1, h2⟩ := (hh.1 k).2 v hf
  constructor
  · obtain ⟨v', ps, hrun, hv⟩ := h.look_ok KL ht hz (zd := .held z) (zp := []) rfl hkey
    rw [h2, heldR] at hv
    simp only [Option.some.injEq, Prod.mk.injEq, DataW.held.injEq] at hv
    rw [h1, hv.1] at hrun
    exact hrun
  · obtain ⟨v', ps, hrun, hv⟩ := h.lookup KL ht hz (zd := .held z) (zp := []) rfl hkey
    rw [h2, heldR] at hv
    simp only [Option.some.injEq, Prod.mk.injEq, DataW.held.injEq] at hv
    rw [hv.1] at hrun
    exact hrun
theorem IM.look_none (h : IM P K kl w b f cnt) (KL : Keyed P K) (ht : P.underlying T = some (.map K E)) {z : Value} (hz : (zeroValue E).run P w = .ok z w) {key : Value} {k : κ} (hkey : keyOf P K key = some (kl k)) (hf : f k = none) :
    (Instr.lookup T (.map (some b)) key true).run P w = .ok (.tuple #[z, .bool false]) w ∧ (Instr.lookup T (.map (some b)) key false).run P w = .ok z w := by
  obtain ⟨D, h, _, hh⟩ := h
  have h1 := (hh.1 k).1 hf
  constructor
  · obtain ⟨v', ps, hrun, hv⟩ := h.look_ok KL ht hz (zd := .held z) (zp := []) rfl hkey
    rw [atKey_of_not_has h1, heldR] at hv
    simp only [Option.some.injEq, Prod.mk.injEq, DataW.held.injEq] at hv
    rw [h1, hv.1] at hrun
    exact hrun
  · obtain ⟨v', ps, hrun, hv⟩ := h.lookup KL ht hz (zd := .held z) (zp := []) rfl hkey
    rw [atKey_of_not_has h1, heldR] at hv
    simp only [Option.some.injEq, Prod.mk.injEq, DataW.held.injEq] at hv
    rw [hv.1] at hrun
    exact hrun
/-- f with another value at one key -/
def upd [DecidableEq κ] (f : κ → Option Value) (k : κ) (v : Value) : κ → Option Value := fun x => if x = k then some v else f x
theorem IM.store [DecidableEq κ] (h : IM P K kl w b f cnt) (KL : Keyed P K) (hinj : ∀ x y, kl x = kl y → x = y) (ht : P.underlying T = some (.map K E)) (hn : cnt < maxLen) {key : Value} {k : κ} (hkey : keyOf P K key = some (kl k)) (v : Value) :
    ∃ w', (Instr.mapUpdate T (.map (some b)) key v).run P w = .ok () w' ∧ IM P K kl w' b (upd f k v) (if (f k).isSome then cnt else cnt + 1) ∧ w.grownBy w' (some b) ∧ w'.heap.size = w.heap.size := by
  obtain ⟨D, h, hs, hh⟩ := h
  obtain ⟨w', hrun, h', ht'⟩ := h.store KL ht hn (d := .held v) (ps := []) hkey rfl
  obtain ⟨w2, hrun2, _, hg⟩ := h.update KL ht hn (d := .held v) (ps := []) hkey rfl
  have e : w' = w2 := by
    rw [hrun] at hrun2
    injection hrun2
  subst e
  have hik : WideAt.IsKeyLit (kl k) := KL.key hkey
  have hsz : Maps.size (D.put (kl k) (.held v)) = if (f k).isSome then cnt else cnt + 1 := by
    rw [size_put (h.tidy KL), hs]
    cases hf : f k with
    | none => rw [(hh.1 k).1 hf]; simp
    | some u => rw [((hh.1 k).2 u hf).1]; simp
  refine ⟨w', hrun, ⟨_, ?_, hsz, fun x => ?_, fun l hl => ?_⟩, hg, ?_⟩
  · rw [← hsz]; exact ownsMap_tight h'
  · unfold upd
    by_cases hx : x = k
    · subst hx
      rw [if_pos rfl]
      refine ⟨(fun h => by cases h), fun u hu => ?_⟩
      obtain rfl := Option.some.inj hu
      exact ⟨has_put_same h.isMap hik _, fun z => atKey_put_same h.isMap hik _ z⟩
    · rw [if_neg hx]
      have hne : kl x ≠ kl k := fun e => hx (hinj _ _ e)
      refine ⟨fun h0 => by rw [has_put_other hne]; exact (hh.1 x).1 h0, fun u hu => ?_⟩
      rw [has_put_other hne]
      exact ⟨((hh.1 x).2 u hu).1, fun z => by rw [atKey_put_other hne]; exact ((hh.1 x).2 u hu).2 z⟩
  · by_cases hx : l = kl k
    · exact ⟨k, hx, by unfold upd; rw [if_pos rfl]; rfl⟩
    · rw [has_put_other hx] at hl
      obtain ⟨x, hx', hfx⟩ := hh.2 l hl
      refine ⟨x, hx', ?_⟩
      unfold upd
      split
      · rfl
      · exact hfx
  · obtain ⟨es, clock, es', clock', _, hw⟩ := ht'
    rw [hw]; simp [setBlock]
theorem IM.len_ (h : IM P K kl w b f cnt) (ht : P.underlying T = some (.map K E)) (ty : TypeId) : (Builtin.len_ #[T] ty #[.map (some b)]).run P w = .ok (.int .i64 cnt) w := by
  obtain ⟨D, h, hs, _⟩ := h
  rw [← hs]
  exact h.len ht ty
theorem IM.clear_ (h : IM P K kl w b f cnt) (ht : P.underlying T = some (.map K E)) (ty : TypeId) :
    ∃ w', (Builtin.clear_ #[T] ty #[.map (some b)]).run P w = .ok (.tuple #[]) w' ∧ IM P K kl w' b (fun _ => none) 0 ∧ w.grownBy w' (some b) ∧ w'.heap.size = w.heap.size := by
  obtain ⟨D, ⟨es, clock, hb, F, _⟩, _⟩ := h
  refine ⟨setBlock w b (.map #[] clock), ?_, ⟨.map [], ⟨#[], clock, heap_setBlock_same hb _, ⟨by simp, ?_, by simp⟩, Nat.le_refl _, rfl⟩, rfl, fun k => ⟨fun _ => rfl, fun v h => by cases h⟩, fun l h => by cases h⟩,
    ⟨rfl, rfl, rfl, by simp [setBlock], fun i _ hi => heap_setBlock_other hb _ (fun e => hi (by rw [e]))⟩, by simp [setBlock]⟩
  · simp [Builtin.clear_, run_underlying ht, MapKept.run_getObj_map hb, MapKept.run_setObj_map _ hb, Result.andThen, setBlock]
  · exact MapKept.stamped_empty _
end
end Go.Proofs.YtecjjhfaljdcpaaGreatDoor
/- A device in memory: what lies where. -/
namespace Go.Proofs.YtecjjhfaljdcpaaGreatDoor
open Go.RowKit

/-- what a device is -/
structure Dv where
  S : List Bytes
  O : List Nat
  M : Nat → Bytes
  left : Int
  down : Bool
/-- where it lies -/
structure Lay where
  gs : Nat
  cs : Nat
  gm : Nat
  vo : Value
  sb : Nat → Nat
  sc : Nat → Nat
  mb : Nat → Nat
  mc : Nat → Nat
def natL (k : Nat) : Lit := .int .i64 k
theorem natL_inj (x y : Nat) (h : natL x = natL y) : x = y := by
  unfold natL at h; injection h with _ h; omega
def rowV (g c : Nat) : Value := .slice (some ⟨g, 0, none⟩) 32 c
def memF (O : List Nat) (Y : Lay) (k : Nat) : Option Value := if k ∈ O then some (rowV (Y.mb k) (Y.mc k)) else none
section
variable {w w' : World} {F F' : Nat → Prop} {d : Nat} {D : Dv} {Y : Lay} {live : Nat → Prop}
end
end Go.Proofs.YtecjjhfaljdcpaaGreatDoor
/- The contracts of package device: Len, Down, step, Fail, forget. -/
namespace Go.Proofs.YtecjjhfaljdcpaaGreatDoor
open Go.RowKit

theorem five {w : World} {d : Nat} {a b c e f : Value} {t : TypeId} (h : w.heap[d]? = some (.cells #[a, b, c, e, f] t (0, 0))) :
    (w.cell? ⟨d, 0, none⟩ = some a ∧ w.cell? ⟨d, 1, none⟩ = some b ∧ w.cell? ⟨d, 2, none⟩ = some c ∧ w.cell? ⟨d, 3, none⟩ = some e ∧ w.cell? ⟨d, 4, none⟩ = some f) ∧ ∀ k, w.frozen? ⟨d, k, none⟩ = false := by
  refine ⟨⟨?_, ?_, ?_, ?_, ?_⟩, fun k => by simp [World.frozen?, h]⟩ <;> simp [World.cell?, h]
theorem heap_set5 {w : World} {d k : Nat} {cur : Array Value} {t : TypeId} (h : w.heap[d]? = some (.cells cur t (0, 0))) (v : Value) : (w.setCell ⟨d, k, none⟩ v).heap[d]? = some (.cells (cur.setIfInBounds k v) t (0, 0)) := by
  rw [setCell_eq_setRow w d k cur t _ _ h]
  exact setRow_heap w d cur _ t _ h
theorem Keep.setCell {F : Nat → Prop} {w w' : World} (h : Keep F w w') {p : Addr} (hp : F p.block ∨ w.heap.size ≤ p.block) (u : Value) : Keep F w (w'.setCell p u) :=
  ⟨h.os, h.tape, h.output, by simpa using h.size, fun k hk hn => by
    have : k ≠ p.block := fun e => by rcases hp with h' | h'; exact hn (e ▸ h'); omega
    exact (Below.heap_setCell w' p u k this).trans (h.block k hk hn)⟩
/-- one step of the power -/
def stepD (D : Dv) : Dv := { D with left := max (-1) (D.left - 1), down := D.left == 0 }
end Go.Proofs.YtecjjhfaljdcpaaGreatDoor
/- The reference on heaps: Taken, Step. -/
namespace Go.Proofs.YtecjjhfaljdcpaaGreatDoor
open Go.RowKit

set_option maxRecDepth 100000 in
theorem rtaken_ok (A : Option Addr) (n c : Nat) (l : Bytes) (w : World) (hn : l.length = n) (hr : rightB n = true) (hnc : n ≤ c) (hrd : Rd w A l) :
    Calls Tryz.prog 17 #[.slice A n c] w fun e w' => ∃ A' c', e = .returned (.slice A' (takenL l).length c') ∧ (takenL l).length ≤ c' ∧ RdX tcells 2 w' A' (takenL l) ∧ Below w.heap.size w w' := by
  obtain ⟨i0, hi0, hz0, hz1, hz2⟩ := info_parts extent_info
  have HI := Hidden.mk (And.intro hi0 (And.intro hz0 (And.intro hz1 hz2)))
  have HC := Hidden.mk (refEntries_ok A n c l w hn hr hnc hrd)
  have HT : Hidden (takenL l = (entriesL l).map takeX) := ⟨rfl⟩
  have hle : (entriesL l).length ≤ 40 := entsL_len _ _ 40
  generalize takenL l = TK at *
  generalize entriesL l = E at *
  clear hi0 hz0 hz1 hz2 hn hr hnc hrd
  go_enter Tryz.func17, Tryz.ntmps17
  go_wp2_with fail
  refine HC.out.mono ?_
  rintro e w1 ⟨v, rfl, hown, hb1⟩
  obtain ⟨A1, c1, rfl, hc1, -⟩ := own_split hown
  have HR := Hidden.mk (own_rdX3 (f := ecells) (fun _ => rfl) rfl hown)
  have HB := Hidden.mk hb1
  generalize hm : E.length = m at *
  have HM := Hidden.mk hm
  clear hown hb1 HC hm
  go_wp2_with fail
  go_loopg [3, 5] m (fun q v i wr => ∃ k : Nat, k ≤ m ∧ q = m - k ∧ i = .int .i64 (k : Int) ∧ Hidden (Below w1.heap.size w1 wr ∧ wr.ownsRow w1.heap.size 56 2 v k (((E.take k).map takeX).flatMap tcells)))
  case atStart => exact ⟨0, by omega, rfl, rfl, ⟨Below.refl _ _, World.ownsRow_nil _ _ _ _⟩⟩
  case round =>
    obtain ⟨k, hk, rfl, rfl, hst⟩ := hrel
    by_cases hlt : k < m
    · have hkE : k < E.length := by have := HM.out; omega
      obtain ⟨p, off, rfl, hcx⟩ := HR.out k hkE
      have x1 := hcx 1 _ rfl
      have x2 := hcx 2 _ rfl
      have HS : Hidden ((E.take (k + 1)).map takeX = (E.take k).map takeX ++ [takeX E[k]]) := ⟨by rw [List.take_succ_eq_append_getElem hkE, List.map_append]; rfl⟩
      have b1 := rAt_le E[k].2
      have b2 := rLen_le E[k].2
      have HX : Hidden (takeX E[k] = ((rAt E[k].2 : Int) - 288, (rLen E[k].2 : Int))) := ⟨rfl⟩
      generalize takeX E[k] = tx at *
      generalize rAt E[k].2 = e1 at *
      generalize rLen E[k].2 = e2 at *
      have s1 : IntKind.i64.wrap ((e1 : Int) - 288) = (e1 : Int) - 288 := IntWalk.i64_in _ (by omega)
      have s3 : IntKind.i64.wrap ((k : Int) + 1) = (k : Int) + 1 := IntWalk.i64_in _ (by omega)
      have k0 : (0 : Int) ≤ k := by omega
      have k1 : (k : Int) < m := by omega
      have HN : Hidden (Below w1.heap.size w1 wr.drew ∧ wr.drew.ownsRow w1.heap.size 56 2 u3 k (((E.take k).map takeX).flatMap tcells)) := ⟨hst.out.1.drew, own_below hst.out.2 (Below.refl _ _).drew⟩
      have KX : Hidden (∀ W, Below w1.heap.size w1 W → W.cell? ⟨p, off + k * 4 + 1, none⟩ = some (.int .i64 e1) ∧ W.cell? ⟨p, off + k * 4 + 2, none⟩ = some (.int .i64 e2)) := ⟨fun W hW => ⟨(hW.cell (p := ⟨p, off + k * 4 + 1, none⟩) (block_lt_of_cell x1)).trans x1, (hW.cell (p := ⟨p, off + k * 4 + 2, none⟩) (block_lt_of_cell x2)).trans x2⟩⟩
      obtain ⟨y1, y2⟩ := KX.out wr hst.out.1
      obtain ⟨hi0, hz0, hz1, hz2⟩ := HI.out
      have HZ : Hidden (w1.heap.size ≤ wr.heap.size) := ⟨hst.out.1.size⟩
      clear hcx hst x1 x2
      go_upto_region 6 with (fail)
      go_region_held3 (fun W => W.cell? ⟨p, off + k * 4 + 1, none⟩ = some (.int .i64 e1) ∧ W.cell? ⟨p, off + k * 4 + 2, none⟩ = some (.int .i64 e2)) (first | exact ⟨y1, y2⟩ | exact KX.out _ HN.out.1 | exact KX.out _ (HN.out.1.alloc HN.out.1.size _) | exact hk8) ((refine step_append_lies _ (by rfl) _ _ _ (by rfl) w1.heap.size 56 i0 _ 2 16 Tryz.underlying44 hi0 hz0 hz1 hz2 rfl (by omega) u3 k _ (by rfl) (own_below HN.out.2 ((Below.refl _ _).alloc (Nat.le_refl _) _)) ⟨wr.heap.size, 0, none⟩ 1 1 [.int .i64 ((e1 : Int) - 288), .int .i64 e2] (by rfl) (by rfl) (World.news_of_block (cs := #[.int .i64 ((e1 : Int) - 288), .int .i64 e2]) (t := 56) (fr := (0, 0)) (heap_alloc_new wr.drew _)) (by simp [Value.oneCell']) (by omega) (by simp only [maxLen]; omega) (by omega) (by have hz_ := HZ.out; simp; omega) (wr.heap.size + 1) (by simp) ?_; intro g8 cap8 w8 hown8 hg8 hat8 hlt8; have hgW := grown_trans' ((Below.refl wr.drew.heap.size wr.drew).alloc (Nat.le_refl _) _) hg8; have hB8 : Below w1.heap.size w1 w8 := HN.out.1.grown hgW HN.out.1.size (fun q hq => (HN.out.2.lt q hq).1); have hk8 := KX.out w8 hB8))
      have HF : Hidden (Below w1.heap.size w1 w8 ∧ w8.ownsRow w1.heap.size 56 2 (.slice (some ⟨g8, 0, none⟩) (k + 1) cap8) (k + 1) (((E.take (k + 1)).map takeX).flatMap tcells)) := ⟨hB8, by rw [HS.out, HX.out]; simpa [tcells] using hown8⟩
      go_wp2_with fail
      clear hk8 hgW hB8 hown8 hg8 hat8 hlt8 hi0 hz0 hz1 hz2
      go_roundg (m - (k + 1))
      case measure => omega
      case rel => exact ⟨k + 1, by omega, rfl, by go_num, HF⟩
    · obtain rfl : m = k := by omega
      have hT := hst.out.2
      rw [List.take_of_length_le (by have := HM.out; omega), ← HT.out] at hT
      have HL : Hidden (TK.length = m) := ⟨by rw [HT.out, List.length_map]; exact HM.out⟩
      obtain ⟨A3, c3, rfl, hc3, -⟩ := own_split hT
      have HF : Hidden (RdX tcells 2 wr A3 TK ∧ Below w.heap.size w wr) := ⟨own_rdX3 tcells_len HL.out hT, HB.out.trans (hst.out.1.mono HB.out.size)⟩
      clear hT hst
      go_wp2_with fail
      go_ret
      exact ⟨A3, c3, by rw [HL.out]; rfl, by rw [HL.out]; exact hc3, HF.out.1, HF.out.2⟩
end Go.Proofs.YtecjjhfaljdcpaaGreatDoor
/- The reference's Step of moving. -/
namespace Go.Proofs.YtecjjhfaljdcpaaGreatDoor
open Go.RowKit

def bH : Option Ent → Int
  | none => 0
  | some x => x.1
def bA : Option Ent → Nat
  | none => 0
  | some x => rAt x.2
def bL : Option Ent → Nat
  | none => 0
  | some x => rLen x.2
def bT : Option Ent → Int
  | none => 0
  | some x => rTag x.2
def FourB (w : World) (g : Nat) (a b c d : Int) : Prop := w.heap[g]? = some (.cells #[.int .i64 a, .int .i64 b, .int .i64 c, .int .i64 d] 58 (0, 0))
theorem FourB.get {w : World} {g : Nat} {a b c d : Int} (h : FourB w g a b c d) : FourAt w g a b c d ∧ ∀ q, w.frozen? ⟨g, q, none⟩ = false := by
  refine ⟨?_, fun q => frozen_of_row _ _ q _ _ h⟩
  unfold FourAt
  simp only [World.cell?]
  rw [h]
  exact ⟨rfl, rfl, rfl, rfl⟩
theorem FourB.set {w : World} {g : Nat} {a b c d : Int} (h : FourB w g a b c d) (x0 x1 x2 x3 : Int) :
    FourB ((((w.setCell ⟨g, 0, none⟩ (.int .i64 x0)).setCell ⟨g, 1, none⟩ (.int .i64 x1)).setCell ⟨g, 2, none⟩ (.int .i64 x2)).setCell ⟨g, 3, none⟩ (.int .i64 x3)) g x0 x1 x2 x3 := by
  have e0 : (w.setCell ⟨g, 0, none⟩ (.int .i64 x0)).heap[g]? = _ := heap_setK h _
  have e1 := heap_setK (k := 1) e0 (.int .i64 x1)
  have e2 := heap_setK (k := 2) e1 (.int .i64 x2)
  exact heap_setK (k := 3) e2 (.int .i64 x3)
theorem FourB.set1 {w : World} {g : Nat} {a b c d : Int} (h : FourB w g a b c d) (x : Int) : FourB (w.setCell ⟨g, 1, none⟩ (.int .i64 x)) g a x c d := heap_setK (k := 1) h _
/-- all but one block is as it was -/
abbrev But (g : Nat) (w w' : World) : Prop := Keep (fun k => k = g) w w'
theorem But.four {g : Nat} {w w' : World} (h : But g w w') (a b c d : Value) : But g w ((((w'.setCell ⟨g, 0, none⟩ a).setCell ⟨g, 1, none⟩ b).setCell ⟨g, 2, none⟩ c).setCell ⟨g, 3, none⟩ d) :=
  (((h.setCell (p := ⟨g, 0, none⟩) (.inl rfl) _).setCell (p := ⟨g, 1, none⟩) (.inl rfl) _).setCell (p := ⟨g, 2, none⟩) (.inl rfl) _).setCell (p := ⟨g, 3, none⟩) (.inl rfl) _
theorem own_far {X : Type} {f : X → List Value} {C : Nat} {w : World} {base : Nat} {e : TypeId} {A : Option Addr} {n c g : Nat} {L : List X} (hC : ∀ x, (f x).length = C) (hn : L.length = n) (h : w.ownsRow base e C (.slice A n c) n (L.flatMap f)) (hg : g < base) (W : World) (hW : But g w W) : RdX f C W A L := by
  refine (own_rdX3 hC hn h).block fun ad he hlt => hW.block _ hlt ?_
  rcases h.2 with ⟨he', _⟩ | ⟨g', cap, cur, he', hb, _⟩
  · injection he' with h1; rw [h1] at he; cases he
  · injection he' with h1
    rw [h1] at he
    have := Option.some.inj he
    subst this
    dsimp only; omega
end Go.Proofs.YtecjjhfaljdcpaaGreatDoor
/- What comes in: slices of ints. -/
namespace Go.Proofs.YtecjjhfaljdcpaaGreatDoor
open Go.RowKit Go.ChangeShapes Go.WideShapes Go.ChangeAt

def icell (x : Int) : List Value := [.int .i64 x]
section
variable {H : Type} {enc : TypeId × Value → H} {w : World} {v : Value} {d : DataW H} {ps : List MemPlace} {base : Nat} {r : Reach}
set_option maxRecDepth 20000 in
theorem open_ints (hv : Value.okWide Tryz.prog w r base 27 v) (h : DataW.Trod enc Tryz.prog w 0 (fun _ => true) true 27 v d ps) (hz : (d.weights Tryz.prog 27).all (· ≤ reachBytes) = true) :
    ∃ (A : Option Addr) (c : Nat) (L : List Int), v = .slice A L.length c ∧ L.length ≤ c ∧ c ≤ 140737488351232 ∧ (∀ x ∈ L, -9223372036854775808 ≤ x ∧ x ≤ 9223372036854775807) ∧ RdX icell 1 w A L := by
  have hb : decide (1 ≤ Tryz.prog.bytesOf 3) = true := by kernel_rfl
  have hC : Tryz.prog.cellsOf 3 = 1 := by kernel_rfl
  refine open_seq (P := Tryz.prog) icell 1 (fun _ x => -9223372036854775808 ≤ x ∧ x ≤ 9223372036854775807) Tryz.underlying27 hC (by omega) (of_decide_eq_true hb) (fun n cs x hl ht hz => ?_) hv h hz
  match cs, hl with
  | [c0], _ =>
    obtain ⟨a, ha, -, wa⟩ := DataW.trod_int Tryz.underlying3 ht
    obtain ⟨lo, hi⟩ := wf_i64' wa
    exact ⟨a, by simpa [icell] using ha, lo, hi⟩
end
end Go.Proofs.YtecjjhfaljdcpaaGreatDoor
/- Package stat: Loose, ByTag, Can. -/
namespace Go.Proofs.YtecjjhfaljdcpaaGreatDoor
open Go.RowKit

/-- how much of what is free is not in one run -/
def looseI (fr mo : Int) : Int := if fr = 0 then 0 else (100 * (fr - mo)).tdiv fr
def freeL_ (l : Bytes) : Int := (l.length : Int) - 288 - sumX (takenL l)
def mostL (l : Bytes) : Int := mostX (holesX ((l.length : Int) - 288) (takenL l))
theorem free_bd {l : Bytes} (hg : Good l) : 0 ≤ mostL l ∧ mostL l ≤ freeL_ l ∧ freeL_ l ≤ 6400 := by
  have h1 := (mostX_mem (holesX ((l.length : Int) - 288) (takenL l))).1
  have h2 := most_free (good_chk hg)
  have h3 : 0 ≤ sumX (takenL l) := (sum_mem (fun x hx => by have := badX_false (holds_bad (good_chk hg) x hx); omega)).1
  have hb := hg.bd
  unfold mostL freeL_
  omega
theorem statH_five {l : Bytes} (hg : Good l) : statH l = .agg #[.int .i64 ((takenL l).length : Int), .int .i64 (sumX (takenL l)), .int .i64 (freeL_ l), .int .i64 (mostL l), .int .i64 ((holesX ((l.length : Int) - 288) (takenL l)).length : Int)] := statH_good hg
/-- of each tag -/
def tagF (E : List Ent) (j : Nat) : Nat := E.foldl (fun s e => if rTag e.2 = (j : Int) then s + rLen e.2 else s) 0
theorem tagF_succ (E : List Ent) (k : Nat) (hk : k < E.length) (j : Nat) : tagF (E.take (k + 1)) j = if rTag E[k].2 = (j : Int) then tagF (E.take k) j + rLen E[k].2 else tagF (E.take k) j := by
  unfold tagF; rw [List.take_succ_eq_append_getElem hk, List.foldl_append]; rfl
theorem tagF_le (E : List Ent) (j : Nat) : ∀ k, k ≤ E.length → tagF (E.take k) j ≤ 65535 * k
  | 0, _ => by simp [tagF]
  | k + 1, hk => by
    rw [tagF_succ E k hk]
    have := tagF_le E j k (by omega)
    have := rLen_le E[k].2
    split <;> omega
def tagsL (l : Bytes) : List Nat := (List.range 16).map (tagF (entriesL l))
theorem IRow.rdn {w : World} {g N : Nat} {T : Nat → Nat} {f : Nat → Int} (h : IRow w g N f) (hf : ∀ i, i < N → f i = (T i : Int)) : RdX ncell 1 w (some ⟨g, 0, none⟩) ((List.range N).map T) := fun i hi => by
  have hiN : i < N := by simpa using hi
  refine ⟨g, 0, rfl, fun q u hq => ?_⟩
  have hc := h.cell i hiN
  rw [hf i hiN] at hc
  unfold ncell at hq
  cases q with
  | zero =>
    simp only [List.getElem?_cons_zero, List.getElem_map, List.getElem_range] at hq
    have := Option.some.inj hq
    subst this
    simpa using hc
  | succ q => simp at hq
section
variable {w0 w : World} {F : Nat → Prop} {h : Nat} {l : Bytes}
set_option maxRecDepth 100000 in
theorem loose_any (hp : Hp w0 w F h l) (hg : Good l) :
    Calls Tryz.prog 21 #[.pointer (some ⟨h, 0, none⟩)] w fun e w' => e = .returned (.tuple #[.int .i64 (looseI (freeL_ l) (mostL l)), .nilIface]) ∧ Below w.heap.size w w' := by
  have HC := Hidden.mk (sheap_any hp hg)
  rw [statH_five hg] at HC
  have hbd := free_bd hg
  generalize (sumX (takenL l)) = a1 at *
  generalize ((holesX ((l.length : Int) - 288) (takenL l)).length : Int) = a4 at *
  generalize ((takenL l).length : Int) = a0 at *
  generalize freeL_ l = fr at *
  generalize mostL l = mo at *
  have s1 : IntKind.i64.wrap (fr - mo) = fr - mo := IntWalk.i64_in _ (by omega)
  have s2 : IntKind.i64.wrap (100 * (fr - mo)) = 100 * (fr - mo) := IntWalk.i64_in _ (by omega)
  clear hp hg
  go_enter Tryz.func21, Tryz.ntmps21
  go_wp2_with fail
  refine HC.out.mono ?_
  rintro e w1 ⟨rfl, hb1⟩
  have HB1 : Hidden (Below w.heap.size w (w1.alloc (.cells #[.int .i64 a0, .int .i64 a1, .int .i64 fr, .int .i64 mo, .int .i64 a4] 42))) := ⟨hb1.alloc hb1.size _⟩
  have hbk := heap_alloc_new w1 (.cells #[.int .i64 a0, .int .i64 a1, .int .i64 fr, .int .i64 mo, .int .i64 a4] 42)
  obtain ⟨z0, z1, z2, z3, z4, -⟩ := fiveCells hbk
  clear hb1 hbk HC
  by_cases h0 : fr = 0
  · have hl : looseI fr mo = 0 := by unfold looseI; rw [if_pos h0]
    subst h0
    go_wp2_with fail
    go_ret2
    exact ⟨by rw [hl]; rfl, HB1.out⟩
  · have hl : looseI fr mo = (100 * (fr - mo)).tdiv fr := by unfold looseI; rw [if_neg h0]
    have d0 : decide (fr = 0) = false := by simpa using h0
    have d0' : (fr == 0) = false := by simpa using h0
    have s3 : IntKind.i64.wrap ((100 * (fr - mo)).tdiv fr) = (100 * (fr - mo)).tdiv fr := IntWalk.i64_in _ (by
      have h1 : (100 * (fr - mo)).tdiv fr = (100 * (fr - mo)) / fr := Int.tdiv_eq_ediv_of_nonneg (by omega)
      have h2 : 0 ≤ (100 * (fr - mo)) / fr := Int.ediv_nonneg (by omega) (by omega)
      have h3 : (100 * (fr - mo)) / fr ≤ 100 * (fr - mo) := Int.ediv_le_self _ (by omega)
      rw [h1]; omega)
    go_wp2_with fail
    go_ret2
    exact ⟨by rw [hl]; rfl, HB1.out⟩
/-- how many of them could be had -/
def canF : Bytes → List Int → Nat
  | _, [] => 0
  | l, x :: r => if allocE l x 0 = 0 then canF (allocL l x 0) r + 1 else 0
def canE (S : List Int) : Nat := if 200 < S.length then 4 else if S.all (fun x => lenB x) = true then 0 else 1
def canN (l : Bytes) (S : List Int) : Nat := if canE S = 0 then canF l S else 0
theorem canF_drop (l : Bytes) (S : List Int) (k : Nat) (hk : k < S.length) : canF l (S.drop k) = if allocE l S[k] 0 = 0 then canF (allocL l S[k] 0) (S.drop (k + 1)) + 1 else 0 := by
  rw [List.drop_eq_getElem_cons hk]; rfl
theorem canF_le : ∀ (S : List Int) (l : Bytes), canF l S ≤ S.length
  | [], _ => Nat.le_refl _
  | x :: r, l => by
    unfold canF
    have := canF_le r (allocL l x 0)
    split <;> simp <;> omega
set_option maxRecDepth 100000 in
theorem bytag_any (hp : Hp w0 w F h l) (hg : Good l) :
    Calls Tryz.prog 23 #[.pointer (some ⟨h, 0, none⟩)] w fun e w' => ∃ g, e = .returned (.slice (some ⟨g, 0, none⟩) 16 16) ∧ RdX ncell 1 w' (some ⟨g, 0, none⟩) (tagsL l) ∧ Below w.heap.size w w' := by
  have HTG : Hidden (∀ e ∈ entriesL l, ∃ t : Nat, t ≤ 15 ∧ rTag e.2 = (t : Int)) := ⟨fun e he => by
    obtain ⟨k, hk, hh, rfl⟩ := entL_mem.1 he
    have := strayE_false (hg.s.fit k hk hh)
    exact ⟨(rTag (rawE l k)).toNat, by omega, by dsimp only; omega⟩⟩
  have hmk := mk_ints 16 (by omega) w
  rw [show ((16 : Nat) : Int) = 16 from rfl] at hmk
  have HI0 : Hidden (IRow (w.alloc (.cells (Array.replicate 16 (.int .i64 0)) 3)) w.heap.size 16 (fun _ => 0)) := ⟨IRow.new w 16⟩
  have HB0 : Hidden (Below w.heap.size w (w.alloc (.cells (Array.replicate 16 (.int .i64 0)) 3)) ∧ (w.alloc (.cells (Array.replicate 16 (.int .i64 0)) 3)).heap.size = w.heap.size + 1) := ⟨(Below.refl _ _).alloc (Nat.le_refl _) _, by simp⟩
  have HC := Hidden.mk (hentries_any (hp.below HB0.out.1))
  have hle : (entriesL l).length ≤ 40 := entsL_len _ _ 40
  have HTL : Hidden (tagsL l = (List.range 16).map (tagF (entriesL l))) := ⟨rfl⟩
  generalize tagsL l = TL at *
  generalize entriesL l = E at *
  generalize hm : E.length = m at *
  have HM := Hidden.mk hm
  clear hp hg hm
  go_enter Tryz.func23, Tryz.ntmps23
  go_wp2_with fail
  generalize w.alloc (.cells (Array.replicate 16 (.int .i64 0)) 3) = wa at *
  generalize hgd : w.heap.size = g at *
  have HGD := Hidden.mk hgd
  refine HC.out.mono ?_
  rintro e w1 ⟨v, rfl, hown, hb1⟩
  obtain ⟨A1, c1, rfl, hc1, -⟩ := own_split hown
  have HR : Hidden (∀ W, But g w1 W → RdX ecells 4 W A1 E) := ⟨fun W hW => own_far (f := ecells) (fun _ => rfl) HM.out hown (by have := HB0.out.2; omega) W hW⟩
  have HI1 := Hidden.mk (HI0.out.below hb1)
  have HB1 : Hidden (Below g w w1) := ⟨HB0.out.1.trans (hb1.mono (by have := HB0.out.2; omega))⟩
  clear hown hb1 HC HI0 hmk hgd
  go_wp2_with fail
  go_loopg [10] m (fun q iv wr => ∃ k : Nat, k ≤ m ∧ q = m - k ∧ iv = .int .i64 (k : Int) ∧ Hidden (But g w1 wr ∧ IRow wr g 16 (fun i => (tagF (E.take k) i : Int))))
  case atStart => exact ⟨0, by omega, rfl, rfl, ⟨Keep.refl _ _, HI1.out⟩⟩
  case round =>
    obtain ⟨k, hk, rfl, rfl, hst⟩ := hrel
    by_cases hlt : k < m
    · have hkE : k < E.length := by rw [HM.out]; exact hlt
      obtain ⟨pp, oo, rfl, hcx⟩ := (HR.out _ hst.out.1) k hkE
      have x0 := hcx 0 _ rfl
      have x1 := hcx 1 _ rfl
      have x2 := hcx 2 _ rfl
      have x3 := hcx 3 _ rfl
      rw [Nat.add_zero] at x0
      obtain ⟨t, ht, het⟩ := HTG.out E[k] (List.getElem_mem hkE)
      have HS := Hidden.mk (tagF_succ E k hkE)
      have hbt := tagF_le E t k (by omega)
      have b2 := rLen_le E[k].2
      rw [het] at x3 HS
      generalize E[k].1 = e0 at *
      generalize rAt E[k].2 = e1 at *
      generalize rLen E[k].2 = e2 at *
      have i0 : (0 : Int) ≤ k := by omega
      have i1 : (k : Int) < m := by omega
      have t0 : (0 : Int) ≤ t := by omega
      have t1 : (t : Int) < 16 := by omega
      have t1' : t < 16 := by omega
      have s1 : IntKind.i64.wrap ((tagF (E.take k) t : Int) + e2) = (tagF (E.take k) t : Int) + e2 := IntWalk.i64_in _ (by omega)
      have s3 : IntKind.i64.wrap ((k : Int) + 1) = (k : Int) + 1 := IntWalk.i64_in _ (by omega)
      have hal : Below wr.heap.size wr (wr.alloc (.cells #[.int .i64 e0, .int .i64 e1, .int .i64 e2, .int .i64 t] 58)) := (Below.refl _ _).alloc (Nat.le_refl _) _
      have HN : Hidden (But g w1 (wr.alloc (.cells #[.int .i64 e0, .int .i64 e1, .int .i64 e2, .int .i64 t] 58)) ∧ IRow (wr.alloc (.cells #[.int .i64 e0, .int .i64 e1, .int .i64 e2, .int .i64 t] 58)) g 16 (fun i => (tagF (E.take k) i : Int))) := ⟨hst.out.1.trans (Keep.of_below (F := fun k => k = g) hal) (fun x hx => .inl hx), hst.out.2.below hal⟩
      have hgt := HN.out.2.cell t (by omega)
      have hgf := HN.out.2.frozen t
      obtain ⟨z0, z1, z2, z3⟩ := fourAt_one wr e0 e1 e2 t 58
      have HST : Hidden (∀ W, But g w1 W → IRow W g 16 (fun i => (tagF (E.take k) i : Int)) → But g w1 (W.setCell ⟨g, t, none⟩ (.int .i64 ((tagF (E.take k) t : Int) + e2))) ∧ IRow (W.setCell ⟨g, t, none⟩ (.int .i64 ((tagF (E.take k) t : Int) + e2))) g 16 (fun i => (tagF (E.take (k + 1)) i : Int))) := ⟨fun W h1 h2 => ⟨h1.setCell (p := ⟨g, t, none⟩) (.inl rfl) _, (h2.set t _).congr fun i _ => by
        rw [HS.out i]
        unfold updI
        by_cases hi : i = t
        · subst hi; rw [if_pos rfl, if_pos rfl]; omega
        · rw [if_neg hi, if_neg (by omega)]⟩⟩
      clear hcx hst hal HS hbt b2 het
      generalize tagF (E.take k) t = tt at *
      go_upto_region 5 with (fail)
      generalize wr.alloc (.cells #[.int .i64 e0, .int .i64 e1, .int .i64 e2, .int .i64 t] 58) = wb at *
      go_still_tail 10, (by kernel_rfl)
      change wpList _ _ _ _ _ wb.drew
      have HN2 : Hidden (But g w1 wb.drew ∧ IRow wb.drew g 16 (fun i => (tagF (E.take k) i : Int))) := ⟨HN.out.1.drewN 1, HN.out.2.block rfl⟩
      have hgt2 : wb.drew.cell? ⟨g, t, none⟩ = some (.int .i64 tt) := hgt
      have hgf2 : wb.drew.frozen? ⟨g, t, none⟩ = false := hgf
      have HQ := Hidden.mk (HST.out _ HN2.out.1 HN2.out.2)
      clear x0 x1 x2 x3 z0 z1 z2 z3 hgt hgf HN HST HN2
      generalize wb.drew = wd at *
      go_wp2_with fail
      go_roundg (m - (k + 1))
      case measure => omega
      case rel => exact ⟨k + 1, by omega, rfl, by go_num, HQ⟩
    · obtain rfl : m = k := by omega
      have hT := hst.out
      rw [List.take_of_length_le (by rw [HM.out]; exact Nat.le_refl _)] at hT
      have HF : Hidden (RdX ncell 1 wr (some ⟨g, 0, none⟩) TL ∧ Below g w wr) := ⟨by rw [HTL.out]; exact hT.2.rdn (fun _ _ => rfl), HB1.out.trans (hT.1.below (by have := HB1.out.size; have := HGD.out; omega) (fun k e => by rw [e]; exact Nat.le_refl _))⟩
      clear hT hst
      go_wp2_with fail
      go_ret
      exact ⟨g, rfl, HF.out.1, by rw [HGD.out]; exact HF.out.2⟩
set_option maxRecDepth 100000 in
theorem can_any (A : Option Addr) (c : Nat) (S : List Int) (hA : RdX icell 1 w A S) (hp : Hp w0 w F h l) (hg : Good l) :
    Calls Tryz.prog 20 #[.pointer (some ⟨h, 0, none⟩), .slice A S.length c] w fun e w' => e = .returned (.tuple #[.int .i64 (canN l S : Int), errV (canE S)]) ∧ Below w.heap.size w w' := by
  have HA := Hidden.mk hA
  by_cases h200 : 200 < S.length
  · have he : canE S = 4 := by unfold canE; rw [if_pos h200]
    have hn : canN l S = 0 := by unfold canN; rw [he]; rfl
    rw [he, hn]
    have d1 : decide ((200 : Int) < S.length) = true := by simp; omega
    have d1' : decide (200 < S.length) = true := by simpa using h200
    clear hp hg hA he hn
    go_enter Tryz.func20, Tryz.ntmps20
    go_wp2_with fail
    go_ret2
    exact ⟨rfl, Below.refl _ _⟩
  · have d1 : decide ((200 : Int) < S.length) = false := by simp; omega
    have d1' : decide (200 < S.length) = false := by simpa using h200
    have HEB : Hidden (∀ k (hk : k < S.length), lenB S[k] = false → canE S = 1 ∧ canN l S = 0) := ⟨fun k hk hb => by
      have h0 : canE S = 1 := by
        unfold canE
        rw [if_neg h200, if_neg (fun hall => by have := List.all_eq_true.1 hall _ (List.getElem_mem hk); rw [hb] at this; cases this)]
      exact ⟨h0, by unfold canN; rw [h0]; rfl⟩⟩
    have HEA : Hidden ((∀ x ∈ S, lenB x = true) → canE S = 0 ∧ canN l S = canF l S) := ⟨fun hall => by
      have h0 : canE S = 0 := by unfold canE; rw [if_neg h200, if_pos (List.all_eq_true.2 hall)]
      exact ⟨h0, by unfold canN; rw [if_pos h0]⟩⟩
    have HCD := Hidden.mk (fun l' k hk => canF_drop l' S k hk)
    have HHB := Hidden.mk (hbytes_ok _ _ F h l hp)
    have HBE := Hidden.mk hp.bel
    have HGD := Hidden.mk hg
    have HGB := hg.bd
    have hS : S.length ≤ 200 := by omega
    generalize canE S = ce at *
    generalize canN l S = cn at *
    clear hp hg hA h200
    go_enter Tryz.func20, Tryz.ntmps20
    go_wp2_with fail
    go_loopg [20] S.length (fun q iv wr => ∃ k : Nat, k ≤ S.length ∧ q = S.length - k ∧ iv = .int .i64 (k : Int) ∧ Hidden (wr = w ∧ ∀ x ∈ S.take k, lenB x = true))
    case atStart => exact ⟨0, by omega, rfl, rfl, ⟨rfl, fun x hx => by simp at hx⟩⟩
    case round =>
      obtain ⟨k, hk, rfl, rfl, hst⟩ := hrel
      obtain ⟨⟨rfl, hall⟩⟩ := hst
      have HALL := Hidden.mk hall
      clear hall
      by_cases hlt : k < S.length
      · obtain ⟨pp, oo, rfl, hcx⟩ := HA.out k hlt
        have x0 : wr.cell? ⟨pp, oo + k, none⟩ = some (.int .i64 S[k]) := by simpa using hcx 0 _ rfl
        have i0 : (0 : Int) ≤ k := by omega
        have i1 : (k : Int) < S.length := by omega
        have s3 : IntKind.i64.wrap ((k : Int) + 1) = (k : Int) + 1 := IntWalk.i64_in _ (by omega)
        have HL := Hidden.mk (len_any S[k] wr)
        have HNX : Hidden (lenB S[k] = true → ∀ x ∈ S.take (k + 1), lenB x = true) := ⟨fun hb x hx => by
          rw [List.take_succ_eq_append_getElem hlt] at hx
          rcases List.mem_append.1 hx with hx | hx
          · exact HALL.out x hx
          · simp only [List.mem_singleton] at hx; subst hx; exact hb⟩
        have HBD := Hidden.mk (HEB.out k hlt)
        generalize S[k] = sz at *
        clear hcx HCD HHB HEA
        cases hb : lenB sz with
        | true =>
          rw [hb] at HL
          have HX := Hidden.mk (HNX.out hb)
          clear HNX HBD hb
          go_wp2_with fail
          refine HL.out.mono ?_
          rintro e w2 ⟨rfl, rfl⟩
          go_wp2_with fail
          go_roundg (S.length - (k + 1))
          case measure => omega
          case rel => exact ⟨k + 1, by omega, rfl, by go_num, ⟨rfl, HX.out⟩⟩
        | false =>
          rw [hb] at HL
          obtain ⟨e1, e2⟩ := HBD.out hb
          subst e1 e2
          clear HNX HBD hb
          go_wp2_with fail
          refine HL.out.mono ?_
          rintro e w2 ⟨rfl, rfl⟩
          go_wp2_with fail
          go_ret2
          exact ⟨rfl, Below.refl _ _⟩
      · obtain rfl : k = S.length := by omega
        have hal := HALL.out
        rw [List.take_length] at hal
        obtain ⟨e1, e2⟩ := HEA.out hal
        subst e1 e2
        clear hal HALL HEA HEB
        go_wp2_with fail
        refine HHB.out.mono ?_
        rintro e w1 ⟨g, cap, rfl, hg1, hrow1, hb1⟩
        have HLD := Hidden.mk (hload_ok (some ⟨g, 0, none⟩) l.length cap l wr w1 rfl HGD.out hrow1.le.1 hrow1.rd hb1)
        have HB1 := Hidden.mk hb1
        clear hg1 hrow1 hb1 HHB
        go_wp2_with fail
        refine HLD.out.mono ?_
        rintro e w2 ⟨x, F2, rfl, hp2, -, -⟩
        have HP2 := Hidden.mk hp2
        clear hp2 HLD
        go_wp2_with fail
        go_loopg [40] S.length (fun q iv ws => ∃ (k : Nat) (F' : Nat → Prop) (l' : Bytes), k ≤ S.length ∧ q = S.length - k ∧ iv = .int .i64 (k : Int) ∧ Hidden (Hp wr ws F' x l' ∧ Good l' ∧ canF l S = k + canF l' (S.drop k)))
        case atStart => exact ⟨0, F2, l, by omega, rfl, rfl, ⟨HP2.out, HGD.out, by rw [List.drop_zero]; omega⟩⟩
        case round =>
          obtain ⟨k, F', l', hk2, rfl, rfl, hst⟩ := hrel
          have HST := Hidden.mk hst.out
          clear hst
          by_cases hlt : k < S.length
          · obtain ⟨pp, oo, rfl, hcx⟩ := (HA.out.below HST.out.1.bel) k hlt
            have x0 : wr.cell? ⟨pp, oo + k, none⟩ = some (.int .i64 S[k]) := by simpa using hcx 0 _ rfl
            have i0 : (0 : Int) ≤ k := by omega
            have i1 : (k : Int) < S.length := by omega
            have s3 : IntKind.i64.wrap ((k : Int) + 1) = (k : Int) + 1 := IntWalk.i64_in _ (by omega)
            have HAL := Hidden.mk (halloc_any S[k] 0 HST.out.1)
            have HCK := Hidden.mk (HCD.out l' k hlt)
            by_cases h0 : allocE l' S[k] 0 = 0
            · rw [h0, show errV 0 = Value.nilIface from rfl] at HAL
              have hck := HCK.out
              rw [if_pos h0] at hck
              have HN : Hidden (Good (allocL l' S[k] 0) ∧ canF l S = (k + 1) + canF (allocL l' S[k] 0) (S.drop (k + 1))) := ⟨alloc_good HST.out.2.1 _ _, by rw [HST.out.2.2, hck]; omega⟩
              generalize allocL l' S[k] 0 = l2 at *
              generalize allocH l' S[k] 0 = ah at *
              generalize S[k] = sz at *
              clear hcx h0 hck HCK HST HCD
              go_wp2_with fail
              refine HAL.out.mono ?_
              rintro e w3 ⟨rfl, F3, hm⟩
              have HM := Hidden.mk hm.hp
              clear hm HAL
              go_wp2_with fail
              go_roundg (S.length - (k + 1))
              case measure => omega
              case rel => exact ⟨k + 1, F3, l2, by omega, rfl, by go_num, ⟨HM.out, HN.out.1, HN.out.2⟩⟩
            · obtain ⟨ec, hec⟩ : ∃ ec, allocE l' S[k] 0 = ec + 1 := ⟨allocE l' S[k] 0 - 1, by omega⟩
              have hck := HCK.out
              rw [if_neg h0] at hck
              have hcf : Hidden (canF l S = k) := ⟨by rw [HST.out.2.2, hck]; rfl⟩
              rw [hec, show errV (ec + 1) = .iface 75 (.int .i64 ((ec + 1 : Nat) : Int)) from rfl] at HAL
              generalize allocL l' S[k] 0 = l2 at *
              generalize allocH l' S[k] 0 = ah at *
              generalize S[k] = sz at *
              clear hcx h0 hck hec HCK HST HCD
              go_wp2_with fail
              refine HAL.out.mono ?_
              rintro e w3 ⟨rfl, F3, hm⟩
              have HM := Hidden.mk hm.hp.bel
              clear hm HAL
              go_wp2_with fail
              go_ret2
              exact ⟨by rw [hcf.out]; rfl, HM.out⟩
          · have hkS : k = S.length := by omega
            have hcf : Hidden (canF l S = S.length) := ⟨by rw [HST.out.2.2, hkS, List.drop_length]; rfl⟩
            have HM := Hidden.mk HST.out.1.bel
            have dk : decide ((k : Int) < S.length) = false := by simp; omega
            have dk' : decide (k < S.length) = false := by simp; omega
            clear HST HCD
            go_wp2_with fail
            go_ret2
            exact ⟨by rw [hcf.out]; rfl, HM.out⟩
end
end Go.Proofs.YtecjjhfaljdcpaaGreatDoor
/- The reference's Alloc. -/
namespace Go.Proofs.YtecjjhfaljdcpaaGreatDoor
open Go.RowKit

def RaAns (w w' : World) (e : Ending) (n : Nat) (l : Bytes) (sz : Int) : Prop :=
  Below w.heap.size w w' ∧ ((allocE l sz 0 = 0 ∧ ∃ g c', e = .returned (.tuple #[.slice (some ⟨g, 0, none⟩) n c', .int .i64 (allocH l sz 0), .int .i64 0]) ∧ n ≤ c' ∧ w.heap.size ≤ g ∧ Rd w' (some ⟨g, 0, none⟩) (allocL l sz 0)) ∨ (allocE l sz 0 ≠ 0 ∧ e = .returned (.tuple #[.slice none 0 0, .int .i64 0, .int .i64 4])))
theorem fH_at {l : Bytes} {k : Nat} (hk : k < 40) (h0 : hasE (rawE l k) = false) (hb : ∀ i, i < k → hasE (rawE l i) = true) : fH l 40 = k + 1 := by
  rcases fH_spec l 40 (Nat.le_refl _) with ⟨_, h⟩ | ⟨q, q1, q2, q3, q4, q5⟩
  · rw [h k (by omega) hk] at h0; cases h0
  · rcases Nat.lt_trichotomy q k with h | h | h
    · rw [hb q h] at q4; cases q4
    · rw [q3, h]
    · rw [q5 k (by omega) h] at h0; cases h0
theorem fH_zero {l : Bytes} (hb : ∀ i, i < 40 → hasE (rawE l i) = true) : fH l 40 = 0 := by
  rcases fH_spec l 40 (Nat.le_refl _) with ⟨h, _⟩ | ⟨q, q1, q2, q3, q4, q5⟩
  · exact h
  · rw [hb q q2] at q4; cases q4
theorem alloc_no {l : Bytes} {sz : Int} (h1 : 1 ≤ sz) (h2 : sz ≤ 1000) (h : fH l 40 = 0 ∨ fitE ((l.length : Int) - 288) (takenL l) sz ≠ 0) : allocE l sz 0 ≠ 0 := by
  unfold allocE
  have h3 : ¬ (lenB sz = false ∨ tagB 0 = false) := by
    rw [lenB_true.2 ⟨h1, h2⟩]; simp [tagB]
  rw [if_neg h3, if_pos h]
  decide
theorem alloc_yes {l : Bytes} {sz : Int} (h1 : 1 ≤ sz) (h2 : sz ≤ 1000) {k : Nat} (hk : fH l 40 = k + 1) (h : fitE ((l.length : Int) - 288) (takenL l) sz = 0) : allocE l sz 0 = 0 ∧ allocH l sz 0 = (k : Int) + 1 ∧ ∃ a : Nat, allocA l sz = (a : Int) ∧ 288 ≤ a ∧ (a : Int) + sz ≤ l.length ∧ allocL l sz 0 = splice (putEnt l ((k : Int) + 1) (a : Int) sz 0) a (List.replicate sz.toNat 0) := by
  have h3 : ¬ (lenB sz = false ∨ tagB 0 = false) := by
    rw [lenB_true.2 ⟨h1, h2⟩]; simp [tagB]
  have h0 : allocE l sz 0 = 0 := by
    unfold allocE
    rw [if_neg h3, if_neg (by omega)]
  obtain ⟨i1, i2⟩ := alloc_in h
  obtain ⟨a, ha⟩ := Int.eq_ofNat_of_zero_le (show 0 ≤ allocA l sz by omega)
  refine ⟨h0, by unfold allocH; rw [if_pos h0, hk]; omega, a, ha, by omega, by omega, ?_⟩
  unfold allocL
  rw [if_pos h0, ha, hk]
  rfl
set_option maxRecDepth 100000 in
theorem ralloc_any (p off n c : Nat) (l : Bytes) (sz : Int) (w : World) (hn : l.length = n) (hg : Good l) (hnc : n ≤ c) (hrd : Rd w (some ⟨p, off, none⟩) l) (h1 : 1 ≤ sz) (h2 : sz ≤ 1000) :
    Calls Tryz.prog 19 #[.slice (some ⟨p, off, none⟩) n c, .int .i64 sz, .int .i64 0] w fun e w' => RaAns w w' e n l sz := by
  have hbd := hg.bd
  have hr : rightB n = true := rightB_true.2 (by omega)
  have HE : Hidden (∀ (W : World) (k : Nat), k < 40 → Below w.heap.size w W → Calls Tryz.prog 29 #[.slice (some ⟨p, off, none⟩) n c, .int .i64 ((k : Int) + 1)] W fun e w' => e = .returned (.tuple #[.agg #[.int .i64 ((k : Int) + 1), .int .i64 (rAt (rawE l k) : Int), .int .i64 (rLen (rawE l k) : Int), .int .i64 (rTag (rawE l k))], .bool (hasE (rawE l k))]) ∧ Below W.heap.size W w') := ⟨fun W k hk hW => refEntry_ok _ n c l k W hn (by omega) hnc (hrd.below hW) hk⟩
  have HT : Hidden (∀ W, Below w.heap.size w W → Calls Tryz.prog 17 #[.slice (some ⟨p, off, none⟩) n c] W fun e w' => ∃ A' c', e = .returned (.slice A' (takenL l).length c') ∧ (takenL l).length ≤ c' ∧ RdX tcells 2 w' A' (takenL l) ∧ Below W.heap.size W w') := ⟨fun W hW => rtaken_ok _ n c l W hn hr hnc (hrd.below hW)⟩
  have hcast : (((n - 288 : Nat)) : Int) = (n : Int) - 288 := by omega
  have HF : Hidden (∀ A c W, RdX tcells 2 W A (takenL l) → Calls Tryz.prog 44 #[.int .i64 ((n : Int) - 288), .slice A (takenL l).length c, .int .i64 sz] W fun e w' => e = .returned (.int .i64 (refF sz (holesX ((n : Int) - 288) (takenL l))).1) ∧ Below W.heap.size W w') := ⟨fun A c W hW => by
    have h := rfit_any (n - 288) A (takenL l).length c (takenL l) W rfl hW (by rw [hcast, ← hn]; exact good_chk hg) sz
    rw [hcast] at h
    exact h⟩
  have HFF := Hidden.mk (refF_fit (good_chk hg) sz (by omega))
  rw [hn] at HFF
  have HP : Hidden (∀ (W : World) (k a : Nat), k < 40 → 288 ≤ a → (a : Int) + sz ≤ n → Below w.heap.size w W → Calls Tryz.prog 45 #[.slice (some ⟨p, off, none⟩) n c, .agg #[.int .i64 ((k : Int) + 1), .int .i64 (a : Int), .int .i64 sz, .int .i64 0]] W fun e w' => ∃ g c', e = .returned (.tuple #[.slice (some ⟨g, 0, none⟩) n c', .int .i64 0]) ∧ W.heap.size ≤ g ∧ Row w' 5 g c' (putEnt l ((k : Int) + 1) (a : Int) sz 0) ∧ Below W.heap.size W w') := ⟨fun W k a hk ha han hW => refPutEntry_own _ n c l _ _ _ _ W hn hr (hrd.below hW) (handleB_true.2 (by omega)) (tagB_true.2 (by omega)) (lenB_true.2 (by omega)) (withinB_true.2 (by omega))⟩
  have HPL : Hidden (∀ (k a : Nat), k < 40 → (putEnt l ((k : Int) + 1) (a : Int) sz 0).length = n) := ⟨fun k a hk => by rw [putEnt_len _ _ _ _ _ (by omega) (by omega) (by omega)]; exact hn⟩
  have HAY := Hidden.mk (fun k hk hf => alloc_yes (l := l) h1 h2 (k := k) hk hf)
  have HAN := Hidden.mk (alloc_no (l := l) h1 h2)
  rw [hn] at HAY HAN
  have HAA : Hidden (fitE ((n : Int) - 288) (takenL l) sz = 0 → allocA l sz = fitA ((n : Int) - 288) (takenL l) sz + 288) := ⟨fun _ => by rw [← hn]; rfl⟩
  have s0 : IntKind.i64.wrap ((n : Int) - 288) = (n : Int) - 288 := IntWalk.i64_in _ (by omega)
  have d1 : decide (sz < 1) = false := by simp; omega
  have d2 : decide (1000 < sz) = false := by simp; omega
  generalize hfm : (refF sz (holesX ((n : Int) - 288) (takenL l))).1 = fm at *
  clear hfm hrd hg hr hcast
  go_enter Tryz.func19, Tryz.ntmps19
  go_wp2_with fail
  go_loopg [9] 40 (fun q hv wr => ∃ k : Nat, k ≤ 40 ∧ q = 40 - k ∧ hv = .int .i64 ((k : Int) + 1) ∧ Hidden ((∀ i, i < k → hasE (rawE l i) = true) ∧ Below w.heap.size w wr))
  case atStart => exact ⟨0, by omega, rfl, rfl, ⟨fun i hi => by omega, Below.refl _ _⟩⟩
  case round =>
    obtain ⟨k, hk, rfl, rfl, hst⟩ := hrel
    have HST := Hidden.mk hst.out
    clear hst
    by_cases hlt : k < 40
    · have k0 : ((k : Int) + 1) ≤ 40 := by omega
      have dk : decide ((k : Int) + 1 ≤ 40) = true := by simp; omega
      have s1 : IntKind.i64.wrap ((k : Int) + 1 + 1) = (k : Int) + 1 + 1 := IntWalk.i64_in _ (by omega)
      have HEK := Hidden.mk (HE.out wr k hlt HST.out.2)
      have HFK : Hidden (hasE (rawE l k) = false → fH l 40 = k + 1) := ⟨fun h => fH_at hlt h HST.out.1⟩
      have HFT : Hidden (hasE (rawE l k) = true → ∀ i, i < k + 1 → hasE (rawE l i) = true) := ⟨fun h i hi => by
        by_cases e : i = k
        · rw [e]; exact h
        · exact HST.out.1 i (by omega)⟩
      generalize hasE (rawE l k) = hs at *
      generalize (rAt (rawE l k) : Int) = a1 at *
      generalize (rLen (rawE l k) : Int) = a2 at *
      generalize rTag (rawE l k) = a3 at *
      go_wp2_with fail
      refine HEK.out.mono ?_
      rintro e w1 ⟨rfl, hb1⟩
      have HB1 : Hidden (Below w.heap.size w (w1.alloc (.cells #[.int .i64 ((k : Int) + 1), .int .i64 a1, .int .i64 a2, .int .i64 a3] 58))) := ⟨(HST.out.2.trans (hb1.mono HST.out.2.size)).alloc (HST.out.2.trans (hb1.mono HST.out.2.size)).size _⟩
      clear hb1 HEK
      cases hs with
      | true =>
        have HA := Hidden.mk (HFT.out rfl)
        clear HFT HFK
        go_wp2_with fail
        generalize w1.alloc (.cells #[.int .i64 ((k : Int) + 1), .int .i64 a1, .int .i64 a2, .int .i64 a3] 58) = w2 at *
        go_roundg (40 - (k + 1))
        case measure => omega
        case rel => exact ⟨k + 1, by omega, rfl, by go_num, ⟨HA.out, HB1.out⟩⟩
      | false =>
        have HFH := Hidden.mk (HFK.out rfl)
        have dg : decide ((40 : Int) < (k : Int) + 1) = false := by simp; omega
        have dg' : decide (40 < k + 1) = false := by simp; omega
        have HBW := Hidden.mk HB1.out
        clear HFT HFK HST HE
        go_wp2_with fail
        generalize w1.alloc (.cells #[.int .i64 ((k : Int) + 1), .int .i64 a1, .int .i64 a2, .int .i64 a3] 58) = w2 at *
        refine (HT.out _ HBW.out).mono ?_
        rintro e w3 ⟨A3, c3, rfl, hc3, hr3, hb3⟩
        have HB3 := Hidden.mk (HBW.out.trans (hb3.mono HBW.out.size))
        have HFC := Hidden.mk (HF.out A3 c3 w3 hr3)
        clear hc3 hr3 hb3 HT HF
        go_wp2_with fail
        refine HFC.out.mono ?_
        rintro e w4 ⟨rfl, hb4⟩
        have HB4 := Hidden.mk (HB3.out.trans (hb4.mono HB3.out.size))
        clear hb4 HFC HB3
        rcases HFF.out with ⟨f1, f2, f3⟩ | ⟨f1, f2, f3⟩
        · have df : decide (fm < 0) = true := by simpa using f1
          have HNO := Hidden.mk (HAN.out (.inr (by rw [f2]; decide)))
          clear f1 f2 f3 HFF HAN HAY HP HPL HAA
          go_wp2_with fail
          go_ret3
          exact ⟨HB4.out, .inr ⟨HNO.out, rfl⟩⟩
        · have df : decide (fm < 0) = false := by simp; omega
          obtain ⟨y1, y2, a, y3, y4, y5, y6⟩ := HAY.out k HFH.out f2
          have haa := HAA.out f2
          have hfa : fm + 288 = (a : Int) := by rw [← y3, haa, ← f3]
          have sa : IntKind.i64.wrap (fm + 288) = (a : Int) := by rw [IntWalk.i64_in _ (by omega)]; exact hfa
          have HP4 := Hidden.mk (HP.out w4 k a hlt y4 y5 HB4.out)
          have HPK := Hidden.mk (HPL.out k a hlt)
          obtain ⟨m, rfl⟩ := Int.eq_ofNat_of_zero_le (show 0 ≤ sz by omega)
          have HY := Hidden.mk (And.intro y1 (And.intro y2 y6))
          have y5' : a + m ≤ n := by omega
          generalize putEnt l ((k : Int) + 1) (a : Int) (m : Int) 0 = P at *
          clear f1 f2 f3 y1 y2 y3 y5 y6 haa HFF HAN HAY HP HPL HAA
          go_wp2_with fail
          refine HP4.out.mono ?_
          rintro e w5 ⟨g5, c5, rfl, hg5, hrow5, hb5⟩
          have HB5 := Hidden.mk (HB4.out.trans (hb5.mono HB4.out.size))
          have HWP := Hidden.mk (refWipe_ok g5 0 n c5 P a m w5 HPK.out (by omega) (by omega) y5' hrow5.rd)
          clear hg5 hrow5 hb5 HP4 HB4
          go_wp2_with fail
          refine HWP.out.mono ?_
          rintro e w6 ⟨g6, c6, rfl, hg6, hc6, hrow6, hb6⟩
          have HB6 := Hidden.mk (HB5.out.trans (hb6.mono HB5.out.size))
          have HF6 : Hidden (n ≤ c6 ∧ w.heap.size ≤ g6 ∧ Rd w6 (some ⟨g6, 0, none⟩) (allocL l (m : Int) 0)) := ⟨hc6, Nat.le_trans HB5.out.size hg6, by rw [HY.out.2.2]; exact hrow6.rd⟩
          clear hg6 hc6 hrow6 hb6 HWP HB5
          go_wp2_with fail
          go_ret3
          exact ⟨HB6.out, .inl ⟨HY.out.1, g6, c6, by rw [HY.out.2.1]; rfl, HF6.out.1, HF6.out.2.1, HF6.out.2.2⟩⟩
    · have hk40 : k = 40 := by omega
      have dk : decide ((k : Int) + 1 ≤ 40) = false := by simp; omega
      have HZ := Hidden.mk (fH_zero (l := l) (fun i hi => HST.out.1 i (by omega)))
      have HNO := Hidden.mk (HAN.out (.inl HZ.out))
      have dg : decide ((40 : Int) < (k : Int) + 1) = true := by simp; omega
      have dg' : decide (40 < k + 1) = true := by simp; omega
      have HBW := Hidden.mk HST.out.2
      clear HST HE HZ HAN HAY HP HPL HAA HFF
      go_wp2_with fail
      refine (HT.out _ HBW.out).mono ?_
      rintro e w3 ⟨A3, c3, rfl, hc3, hr3, hb3⟩
      have HB3 := Hidden.mk (HBW.out.trans (hb3.mono HBW.out.size))
      have HFC := Hidden.mk (HF.out A3 c3 w3 hr3)
      clear hc3 hr3 hb3 HT HF
      go_wp2_with fail
      refine HFC.out.mono ?_
      rintro e w4 ⟨rfl, hb4⟩
      have HB4 := Hidden.mk (HB3.out.trans (hb4.mono HB3.out.size))
      clear hb4 HFC HB3
      go_wp2_with fail
      go_ret3
      exact ⟨HB4.out, .inr ⟨HNO.out, rfl⟩⟩
end Go.Proofs.YtecjjhfaljdcpaaGreatDoor
/- The contracts of errors.As at a target that points to an api.Errno, of plain.Told and of vaultsame.Error. After the guide's worked example on errors.As at a concrete target. -/
namespace Go.Proofs.YtecjjhfaljdcpaaGreatDoor
open Go.RowKit Go.Extern.Stop Go.Stop Go.Extern

/-- errors.As(nil, target) -/
theorem as_nil (t : Value) (w : World) :
    Calls Tryz.prog 60 #[.nilIface, t] w fun e w' => e = .returned (.bool false) ∧ w' = w := by
  go_enter Tryz.func60, Tryz.ntmps60
  go_wp2
  go_ret
  exact ⟨rfl, rfl⟩

theorem rl_valueOfP (t : Addr) (w : World) : (ReflectliteValue.unpack (.iface 113 (.pointer (some t)))).run Tryz.prog w
    = .ok (.agg #[.pointer (some ⟨1, 113, none⟩), .pointer (some ⟨w.heap.size, 0, none⟩), .int .u64 150]) (w.alloc (.cells #[.pointer (some t)] 113)) := by kernel_rfl
theorem rl_typeP (a : Addr) (w : World) : (ReflectliteValue.methodAny (ReflectliteValue.valueError "reflectlite.Value.Type" 0) (fun t _ _ _ => ReflectliteType.toType t) #[.agg #[.pointer (some ⟨1, 113, none⟩), .pointer (some a), .int .u64 150]]).run Tryz.prog w
    = .ok (.iface 160 (.agg #[.pointer (some ⟨1, 113, none⟩)])) w := by kernel_rfl
theorem rl_kindP (w : World) : ((ReflectliteType.abiMethod fun t => (fun a : Nat => Value.int IntKind.u8 (a : Int)) <$> Rtype.kind t) #[.pointer (some ⟨1, 113, none⟩)]).run Tryz.prog w = .ok (.int .u8 22) w := by kernel_rfl
theorem rl_kindE (w : World) : ((ReflectliteType.abiMethod fun t => (fun a : Nat => Value.int IntKind.u8 (a : Int)) <$> Rtype.kind t) #[.pointer (some ⟨1, 75, none⟩)]).run Tryz.prog w = .ok (.int .u8 2) w := by kernel_rfl
theorem rl_m (z : Sem Value) (f : TypeId → Addr → Nat → Nat → Sem Value) (v : Value) :
    ReflectliteValue.method z f #[v] = (do match ← ReflectliteValue.parts v with | none => z | some (t, a, fl) => f t a fl (fl % 32)) := rfl
theorem rl_partsP (a : Addr) (w : World) : (ReflectliteValue.parts (.agg #[.pointer (some ⟨1, 113, none⟩), .pointer (some a), .int .u64 150])).run Tryz.prog w = .ok (some (113, a, 150)) w := by kernel_rfl
theorem rl_isNilP (a p : Addr) (W : World) (ha : W.cell? a = some (.pointer (some p))) :
    (ReflectliteValue.method (ReflectliteValue.valueError "reflectlite.Value.IsNil" 0) ReflectliteValue.isNil #[.agg #[.pointer (some ⟨1, 113, none⟩), .pointer (some a), .int .u64 150]]).run Tryz.prog W = .ok (.bool false) W := by
  rw [rl_m]
  simp only [Sem.run_bind, rl_partsP, Result.andThen]
  simp [ReflectliteValue.isNil, loadVar, isAgg, underlying, Tryz.underlying113, ha, Result.andThen]
theorem rl_elemP (w : World) : (ReflectliteType.method ReflectliteType.elem #[.agg #[.pointer (some ⟨1, 113, none⟩)]]).run Tryz.prog w = .ok (.iface 160 (.agg #[.pointer (some ⟨1, 75, none⟩)])) w := by kernel_rfl
theorem rl_implE (w : World) : (ReflectliteType.relation "Implements" ReflectliteType.implements_ #[.agg #[.pointer (some ⟨1, 75, none⟩)], .iface 160 (.agg #[.pointer (some ⟨1, 32, none⟩)])]).run Tryz.prog w = .ok (.bool true) w := by kernel_rfl
theorem rl_typeOfE (v : Value) (w : World) : (ReflectliteType.typeOf #[.iface 75 v]).run Tryz.prog w = .ok (.iface 160 (.agg #[.pointer (some ⟨1, 75, none⟩)])) w := by kernel_rfl
theorem rl_assignE (w : World) : (ReflectliteType.relation "AssignableTo" ReflectliteType.assignableTo #[.agg #[.pointer (some ⟨1, 75, none⟩)], .iface 160 (.agg #[.pointer (some ⟨1, 75, none⟩)])]).run Tryz.prog w = .ok (.bool true) w := by kernel_rfl
theorem rl_valueOfE (k : Int) (w : World) : (ReflectliteValue.unpack (.iface 75 (.int .i64 k))).run Tryz.prog w
    = .ok (.agg #[.pointer (some ⟨1, 75, none⟩), .pointer (some ⟨w.heap.size, 0, none⟩), .int .u64 130]) (w.alloc (.cells #[.int .i64 k] 75)) := by kernel_rfl
theorem rl_elemOfP (w : World) : (Rtype.elem? 113).run Tryz.prog w = .ok (some 75) w := by kernel_rfl
theorem rl_mkE (p : Addr) (w : World) : (ReflectliteValue.mk 75 p ReflectliteValue.flagAddr).run Tryz.prog w = .ok (.agg #[.pointer (some ⟨1, 75, none⟩), .pointer (some p), .int .u64 386]) w := by kernel_rfl
theorem rl_elemVP (a p : Addr) (W : World) (ha : W.cell? a = some (.pointer (some p))) :
    (ReflectliteValue.method (ReflectliteValue.valueError "reflectlite.Value.Elem" 0) ReflectliteValue.elem #[.agg #[.pointer (some ⟨1, 113, none⟩), .pointer (some a), .int .u64 150]]).run Tryz.prog W
      = .ok (.agg #[.pointer (some ⟨1, 75, none⟩), .pointer (some p), .int .u64 386]) W := by
  rw [rl_m]
  simp only [Sem.run_bind, rl_partsP, Result.andThen]
  simp [ReflectliteValue.elem, loadVar, isAgg, underlying, Tryz.underlying113, ha, Result.andThen, rl_elemOfP, rl_mkE]
theorem rl_s (v x : Value) : ReflectliteValue.set #[v, x] = (do
    let (some (dst, a, fl), some (src, b, _)) := (← ReflectliteValue.parts v, ← ReflectliteValue.parts x)
      | unsupported (.noEntry "extern/(internal/reflectlite.Value).Set.zeroValue")
    if fl / ReflectliteValue.flagAddr % 2 == 0 then unsupported (.noEntry "extern/(internal/reflectlite.Value).Set.unaddressable")
    let val ← loadVar src b
    if ← Rtype.directlyAssignable dst src then storeVar dst a val
    else if ← Rtype.implements dst src then
      if (← Rtype.kind src) == 20 then
        match val with
        | .nilIface => unsupported (.noEntry "extern/reflectlite: a nil value of one interface type handed on as a value of another")
        | _ => storeVar dst a val
      else storeVar dst a (.iface src val)
    else panicString ("reflectlite.Set: value of type " ++ (← Rtype.spelt src) ++ " is not assignable to type " ++ (← Rtype.spelt dst))
    pure (.tuple #[])) := rfl
theorem rl_partsEa (a : Addr) (w : World) : (ReflectliteValue.parts (.agg #[.pointer (some ⟨1, 75, none⟩), .pointer (some a), .int .u64 386])).run Tryz.prog w = .ok (some (75, a, 386)) w := by kernel_rfl
theorem rl_partsE (a : Addr) (w : World) : (ReflectliteValue.parts (.agg #[.pointer (some ⟨1, 75, none⟩), .pointer (some a), .int .u64 130])).run Tryz.prog w = .ok (some (75, a, 130)) w := by kernel_rfl
theorem rl_directE (w : World) : (Rtype.directlyAssignable 75 75).run Tryz.prog w = .ok true w := by kernel_rfl
theorem rl_setE (ta b : Addr) (k : Int) (old : Value) (W : World) (hb : W.cell? b = some (.int .i64 k)) (ht : W.cell? ta = some old) (hf : W.frozen? ta = false) :
    (ReflectliteValue.set #[.agg #[.pointer (some ⟨1, 75, none⟩), .pointer (some ta), .int .u64 386], .agg #[.pointer (some ⟨1, 75, none⟩), .pointer (some b), .int .u64 130]]).run Tryz.prog W
      = .ok (.tuple #[]) (W.setCell ta (.int .i64 k)) := by
  rw [rl_s]
  simp only [Sem.run_bind, rl_partsEa, rl_partsE, Result.andThen]
  simp [ReflectliteValue.flagAddr, loadVar, isAgg, underlying, Tryz.underlying75, hb, Result.andThen, rl_directE, storeVar, Value.cells, storeCells, Addr.add]
  rw [run_store Tryz.prog W ta _ _ (by rfl)]
  simp [ht, hf]

/-- what the row's condition gives: the variable errors.errorType -/
def HasType (w : World) : Prop := w.cell? ⟨0, 0, none⟩ = some (.iface 160 (.agg #[.pointer (some ⟨1, 32, none⟩)]))
theorem HasType.below {B : Nat} {w w' : World} (h : HasType w) (hB : 0 < B) (hb : Below B w w') : HasType w' := (hb.cell (p := ⟨0, 0, none⟩) hB).trans h
theorem HasType.lt {w : World} (h : HasType w) : 0 < w.heap.size := block_lt_of_cell h
end Go.Proofs.YtecjjhfaljdcpaaGreatDoor
/- The contracts of errors.As at a target that points to an api.Errno, of plain.Told and of vaultsame.Error. -/
namespace Go.Proofs.YtecjjhfaljdcpaaGreatDoor
open Go.RowKit Go.Extern.Stop Go.Stop Go.Extern

theorem rl_methKind (n : Nat) (h : Value) (w : World) : (Go.method (n + 1) 160 (.agg #[h]) "Kind").run Tryz.prog w = .ok (171, h) w := by kernel_rfl
theorem rl_methElem (n : Nat) (h : Value) (w : World) : (Go.method (n + 1) 160 (.agg #[h]) "Elem").run Tryz.prog w = .ok (181, .agg #[h]) w := by kernel_rfl
theorem rl_methImpl (n : Nat) (h : Value) (w : World) : (Go.method (n + 1) 160 (.agg #[h]) "Implements").run Tryz.prog w = .ok (182, .agg #[h]) w := by kernel_rfl
theorem rl_methAssign (n : Nat) (h : Value) (w : World) : (Go.method (n + 1) 160 (.agg #[h]) "AssignableTo").run Tryz.prog w = .ok (179, .agg #[h]) w := by kernel_rfl

set_option maxRecDepth 100000 in
set_option maxHeartbeats 4000000 in
theorem as_errno (k : Int) (t : Addr) (old : Value) (w : World) (hg : HasType w) (ht0 : w.cell? t = some old) (hf0 : w.frozen? t = false) :
    Calls Tryz.prog 60 #[.iface 75 (.int .i64 k), .iface 113 (.pointer (some t))] w fun ev w' => ev = .returned (.bool true) ∧ w' = ((((w.alloc (.cells #[.pointer (some t)] 113)).alloc (.cells #[.pointer (some ⟨1, 113, none⟩), .pointer (some ⟨w.heap.size, 0, none⟩), .int .u64 150] 133)).alloc (.cells #[.pointer (some ⟨1, 113, none⟩), .pointer (some ⟨w.heap.size, 0, none⟩), .int .u64 150] 133)).alloc (.cells #[.int .i64 k] 75)).setCell t (.int .i64 k) := by
  have h6 := @run_callFunc_extern Tryz.prog 81 _ (fun args => ReflectliteValue.unpack (args.getD 0 (.tuple #[]))) Tryz.func81 (by kernel_rfl) (by kernel_rfl) (by kernel_rfl) (by kernel_rfl)
  have h7 := @run_callFunc_extern Tryz.prog 82 _ (ReflectliteValue.methodAny (ReflectliteValue.valueError "reflectlite.Value.Type" 0) (fun t _ _ _ => ReflectliteType.toType t)) Tryz.func82 (by kernel_rfl) (by kernel_rfl) (by kernel_rfl) (by kernel_rfl)
  have h8 := @run_callFunc_extern Tryz.prog 83 _ (ReflectliteValue.method (ReflectliteValue.valueError "reflectlite.Value.IsNil" 0) ReflectliteValue.isNil) Tryz.func83 (by kernel_rfl) (by kernel_rfl) (by kernel_rfl) (by kernel_rfl)
  have h27 := @run_callFunc_extern Tryz.prog 171 _ (ReflectliteType.abiMethod fun t => do pure (.int .u8 (← Rtype.kind t))) Tryz.func171 (by kernel_rfl) (by kernel_rfl) (by kernel_rfl) (by kernel_rfl)
  have h37 := @run_callFunc_extern Tryz.prog 181 _ (ReflectliteType.method ReflectliteType.elem) Tryz.func181 (by kernel_rfl) (by kernel_rfl) (by kernel_rfl) (by kernel_rfl)
  have h38 := @run_callFunc_extern Tryz.prog 182 _ (ReflectliteType.relation "Implements" ReflectliteType.implements_) Tryz.func182 (by kernel_rfl) (by kernel_rfl) (by kernel_rfl) (by kernel_rfl)
  have h10 := @run_callFunc_extern Tryz.prog 102 _ ReflectliteType.typeOf Tryz.func102 (by kernel_rfl) (by kernel_rfl) (by kernel_rfl) (by kernel_rfl)
  have h35 := @run_callFunc_extern Tryz.prog 179 _ (ReflectliteType.relation "AssignableTo" ReflectliteType.assignableTo) Tryz.func179 (by kernel_rfl) (by kernel_rfl) (by kernel_rfl) (by kernel_rfl)
  have h11 := @run_callFunc_extern Tryz.prog 103 _ (ReflectliteValue.method (ReflectliteValue.valueError "reflectlite.Value.Elem" 0) ReflectliteValue.elem) Tryz.func103 (by kernel_rfl) (by kernel_rfl) (by kernel_rfl) (by kernel_rfl)
  have h12 := @run_callFunc_extern Tryz.prog 104 _ ReflectliteValue.set Tryz.func104 (by kernel_rfl) (by kernel_rfl) (by kernel_rfl) (by kernel_rfl)
  have tO := rl_typeOfE
  have aE := rl_assignE
  have vE := rl_valueOfE
  have f6 := rl_valueOfP
  have f7 := rl_typeP
  have mK := rl_methKind
  have mE := rl_methElem
  have mI := rl_methImpl
  have mA := rl_methAssign
  have kP := rl_kindP
  have kE := rl_kindE
  have eP := rl_elemP
  have iE := rl_implE
  have n8 := rl_isNilP ⟨w.heap.size, 0, none⟩ t ((w.alloc (.cells #[.pointer (some t)] 113)).alloc (.cells #[.pointer (some ⟨1, 113, none⟩), .pointer (some ⟨w.heap.size, 0, none⟩), .int .u64 150] 133)) (by simp)
  have hlt : 0 < w.heap.size := hg.lt
  unfold HasType at hg
  have hg2 : ((w.alloc (.cells #[.pointer (some t)] 113)).alloc (.cells #[.pointer (some ⟨1, 113, none⟩), .pointer (some ⟨w.heap.size, 0, none⟩), .int .u64 150] 133)).cell? ⟨0, 0, none⟩ = some (.iface 160 (.agg #[.pointer (some ⟨1, 32, none⟩)])) := by
    rw [World.cell?_alloc_lt _ _ ⟨0, 0, none⟩ (by simp), World.cell?_alloc_lt _ _ ⟨0, 0, none⟩ hlt]; exact hg
  have htl : t.block < w.heap.size := by
    rcases Nat.lt_or_ge t.block w.heap.size with h | h
    · exact h
    · simp [World.cell?, Array.getElem?_eq_none h] at ht0
  have el := rl_elemVP ⟨w.heap.size, 0, none⟩ t (((w.alloc (.cells #[.pointer (some t)] 113)).alloc (.cells #[.pointer (some ⟨1, 113, none⟩), .pointer (some ⟨w.heap.size, 0, none⟩), .int .u64 150] 133)).alloc (.cells #[.pointer (some ⟨1, 113, none⟩), .pointer (some ⟨w.heap.size, 0, none⟩), .int .u64 150] 133)) (by rw [World.cell?_alloc_lt _ _ ⟨w.heap.size, 0, none⟩ (by simp; omega)]; simp)
  have st := rl_setE t ⟨w.heap.size + 1 + 1 + 1, 0, none⟩ k old ((((w.alloc (.cells #[.pointer (some t)] 113)).alloc (.cells #[.pointer (some ⟨1, 113, none⟩), .pointer (some ⟨w.heap.size, 0, none⟩), .int .u64 150] 133)).alloc (.cells #[.pointer (some ⟨1, 113, none⟩), .pointer (some ⟨w.heap.size, 0, none⟩), .int .u64 150] 133)).alloc (.cells #[.int .i64 k] 75))
    (by rw [World.cell?_alloc_at _ _ _ _ (by simp)]; rfl)
    (by rw [World.cell?_alloc_lt _ _ t (by simp; omega), World.cell?_alloc_lt _ _ t (by simp; omega), World.cell?_alloc_lt _ _ t (by simp; omega), World.cell?_alloc_lt _ _ t htl]; exact ht0)
    (by rw [World.frozen?_alloc_old _ _ t (by simp; omega), World.frozen?_alloc_old _ _ t (by simp; omega), World.frozen?_alloc_old _ _ t (by simp; omega), World.frozen?_alloc_old _ _ t (Nat.ne_of_lt htl)]; exact hf0)
  go_enter Tryz.func60, Tryz.ntmps60
  go_wp2
  refine wp_loop_rounds 1 ?_
  rw [rounds_succ]
  go_wp2
  go_ret
  exact ⟨rfl, rfl⟩
end Go.Proofs.YtecjjhfaljdcpaaGreatDoor
/- The contracts of plain.Told and of vaultsame.Error. -/
namespace Go.Proofs.YtecjjhfaljdcpaaGreatDoor
open Go.RowKit

theorem told_nil (w : World) : Calls Tryz.prog 35 #[.nilIface] w fun e w' => e = .returned (.int .i64 0) ∧ w = w' := by
  go_enter Tryz.func35, Tryz.ntmps35
  go_wp2_with fail
  go_ret
  exact ⟨rfl, rfl⟩
theorem told_errno (k : Int) (w : World) (hg : HasType w) : Calls Tryz.prog 35 #[.iface 75 (.int .i64 k)] w fun e w' => e = .returned (.int .i64 k) ∧ Below w.heap.size w w' := by
  have hW : Below w.heap.size w (w.alloc (.cells #[.int .i64 0] 75)) := (Below.refl _ _).alloc (Nat.le_refl _) _
  have hg1 := hg.below hg.lt hW
  have HC := Hidden.mk (as_errno k ⟨w.heap.size, 0, none⟩ (.int .i64 0) _ hg1 (by simp) (by simp))
  clear hg1
  go_enter Tryz.func35, Tryz.ntmps35
  go_wp2_with fail
  refine HC.out.mono ?_
  rintro e w' ⟨rfl, hw'⟩
  have hB : Below w.heap.size w w' := by
    rw [hw']
    exact ((((hW.alloc hW.size _).alloc (by simp; omega) _).alloc (by simp; omega) _).alloc (by simp; omega) _).setCell (p := ⟨w.heap.size, 0, none⟩) (Nat.le_refl _) _
  have hc : w'.cell? ⟨w.heap.size, 0, none⟩ = some (.int .i64 k) := by
    rw [hw']
    refine World.cell?_setCell_same' _ _ _ ?_
    rw [(((((Below.refl _ (w.alloc (.cells #[.int .i64 0] 75))).alloc (Nat.le_refl _) _).alloc (by simp) _).alloc (by simp) _).alloc (by simp) _).cell (p := ⟨w.heap.size, 0, none⟩) (by simp)]
    simp
  clear hw' HC hW
  go_wp2_with fail
  go_ret
  exact ⟨rfl, hB⟩
theorem err_nil (x : Int) (w : World) : Calls Tryz.prog 10 #[.nilIface, .int .i64 x] w fun e w' => e = .returned (.bool ((0 : Int) == x)) ∧ Below w.heap.size w w' := by
  go_enter Tryz.func10, Tryz.ntmps10
  go_wp2_with fail
  refine (told_nil _).mono ?_
  rintro e w' ⟨rfl, rfl⟩
  go_wp2_with fail
  go_ret
  exact ⟨rfl, Below.refl _ _⟩
theorem err_some (k x : Int) (w : World) (hg : HasType w) : Calls Tryz.prog 10 #[.iface 75 (.int .i64 k), .int .i64 x] w fun e w' => e = .returned (.bool (k == x)) ∧ Below w.heap.size w w' := by
  go_enter Tryz.func10, Tryz.ntmps10
  go_wp2_with fail
  refine (told_errno k _ hg).mono ?_
  rintro e w' ⟨rfl, hb⟩
  go_wp2_with fail
  go_ret
  exact ⟨rfl, hb⟩
/-- .. of an error that is nil or a number -/
theorem err_any (n : Nat) (x : Int) (w : World) (hg : HasType w) : Calls Tryz.prog 10 #[errV n, .int .i64 x] w fun e w' => e = .returned (.bool ((n : Int) == x)) ∧ Below w.heap.size w w' := by
  unfold errV
  by_cases h : n = 0
  · rw [if_pos h, h]; exact err_nil x w
  · rw [if_neg h]; exact err_some n x w hg
end Go.Proofs.YtecjjhfaljdcpaaGreatDoor
