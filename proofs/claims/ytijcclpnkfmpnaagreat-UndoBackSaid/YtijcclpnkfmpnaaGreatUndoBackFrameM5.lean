/- Contracts and plain laws, put together: RootLP, RootL1, MoveP, LayE, Move1, Move2, Move3, UndoBackP, SameN, UndoBack0, Open8, Open5, UndoBack1, LayR, SortI, Reach1, ReachP, SortJ, DiffA, DiffA1, Dev3, Diff3, Reach2. -/
import Derived.Test.YtijcclpnkfmpnaaGreatUndoBackFrameM4
import Derived.Test.YtijcclpnkfmpnaaGreatUndoBackFrameM3
import Derived.Shelf.SlGeneric
import Derived.Shelf.SlSortCmp.WholeK
import Derived.Ground.SlsfProg
import Derived.Test.YtijcclpnkfmpnaaGreatUndoBackFrameM1
import Derived.Test.YtijcclpnkfmpnaaGreatUndoBackFrameM2
import Derived.Deep.DeepCutAuto
import Derived.Deep.CutBlock
import Derived.Deep.LoopGhost
import Derived.Deep.RegionHeld3
import Derived.Shelf.Slices.CompactI
import Derived.Shelf.Slices.Reverse
import Derived.Lib.SlicesCompact
/- Roots that are set and unset, plainly: where names lead then. No walk here. -/
namespace Go.Proofs.YtijcclpnkfmpnaaGreat
open Go.RowKit

theorem leadR_mem {L : List (Bytes × Nat)} {s : Bytes} {r : Bytes × Nat} (hr : r ∈ L) (hs : r.1 = s) (hu : ∀ x ∈ L, x.1 = s → x.2 = r.2) : leadR L s = r.2 := by
  unfold leadR
  cases hf : L.find? (fun r => r.1 == s) with
  | none =>
    have := List.find?_eq_none.1 hf r hr
    simp [hs] at this
  | some x =>
    have h1 := List.find?_some hf
    have h2 := List.mem_of_find?_eq_some hf
    exact hu x h2 (by simpa using h1)
theorem mem_rootsF {S : Nat → Bytes} {m : Nat} {x : Bytes × Nat} : x ∈ rootsF S m ↔ ∃ i, i < m ∧ zeroE (S i) = false ∧ rootP (S i) = x := by
  unfold rootsF
  simp only [List.mem_map, List.mem_filter, List.mem_range, Bool.not_eq_true']
  constructor
  · rintro ⟨i, ⟨h1, h2⟩, h3⟩; exact ⟨i, h1, h2, h3⟩
  · rintro ⟨i, h1, h2, h3⟩; exact ⟨i, ⟨h1, h2⟩, h3⟩
theorem good_rootP {l : Bytes} (hg : Good l) {i : Nat} (hi : i < 8) (hz : zeroE (rawR l i) = false) : rootP (rawR l i) = (nmR (rawR l i), ((rawR l i).getD 10 0).toNat) := by
  unfold rootP; rw [if_pos (hg.got hi hz)]
/-- where a name leads, by the place of its root -/
theorem lead_at {l s : Bytes} (hg : Good l) {i : Nat} (hi : i < 8) (hz : zeroE (rawR l i) = false) (hs : nmR (rawR l i) = s) : leadR (rootsL l) s = ((rawR l i).getD 10 0).toNat := by
  have hm : rootP (rawR l i) ∈ rootsL l := mem_rootsF.2 ⟨i, hi, hz, rfl⟩
  rw [good_rootP hg hi hz] at hm
  refine leadR_mem hm hs fun x hx he => ?_
  obtain ⟨j, hj, hzj, rfl⟩ := mem_rootsF.1 hx
  rw [good_rootP hg hj hzj] at he ⊢
  dsimp only at he ⊢
  by_cases h : j = i
  · rw [h]
  · exfalso
    rcases Nat.lt_or_gt_of_ne h with h | h
    · exact hg.s.name i hi j h hz hzj (hs.trans he.symm)
    · exact hg.s.name j hj i h hzj hz (he.trans hs.symm)
theorem lead_no {l s : Bytes} (hg : Good l) (h : ∀ i, i < 8 → zeroE (rawR l i) = false → nmR (rawR l i) ≠ s) : leadR (rootsL l) s = 0 :=
  leadR_none fun x hx => by
    obtain ⟨j, hj, hzj, rfl⟩ := mem_rootsF.1 hx
    rw [good_rootP hg hj hzj]
    simpa using h j hj hzj
theorem count_upd (p : Nat → Bool) (i : Nat) (b : Bool) : ∀ n, ((List.range n).filter (fun j => if j = i then b else p j)).length + (if i < n ∧ p i = true then 1 else 0) = ((List.range n).filter p).length + (if i < n ∧ b = true then 1 else 0)
  | 0 => by simp
  | n + 1 => by
    have ih := count_upd p i b n
    rw [List.range_succ, List.filter_append, List.filter_append, List.length_append, List.length_append]
    by_cases h : n = i
    · subst h
      have h1 : ((List.range n).filter (fun j => if j = n then b else p j)) = (List.range n).filter p := List.filter_congr fun j hj => by
        rw [if_neg (by have := List.mem_range.1 hj; omega)]
      rw [h1]
      cases hb : b <;> cases hp : p n <;> simp [hp]
    · have e1 : (i < n + 1 ∧ p i = true) ↔ (i < n ∧ p i = true) := by constructor <;> rintro ⟨a, b⟩ <;> exact ⟨by omega, b⟩
      have e2 : (i < n + 1 ∧ b = true) ↔ (i < n ∧ b = true) := by constructor <;> rintro ⟨a, b⟩ <;> exact ⟨by omega, b⟩
      simp only [e1, e2]
      have e3 : ((List.filter (fun j => if j = i then b else p j) [n]).length) = (List.filter p [n]).length := by
        simp only [List.filter_cons, List.filter_nil, if_neg h]
      omega
/-- l' has x in the place of the root i; nothing else is another -/
structure PutsR (l l' : Bytes) (i : Nat) (x : Bytes) : Prop where
  i8 : i < 8
  x11 : x.length = 11
  eq : l' = splice l (200 + 11 * i) x
section
variable {l l' x : Bytes} {i : Nat}
theorem PutsR.len (h : PutsR l l' i x) (hb : 288 ≤ l.length) : l'.length = l.length := by rw [h.eq]; exact splice_len _ _ _ (by have := h.i8; have := h.x11; omega)
theorem PutsR.ents (h : PutsR l l' i x) (hb : 288 ≤ l.length) (j : Nat) (hj : j < 40) : rawE l' j = rawE l j := by rw [h.eq]; exact rawE_root l _ i j h.x11 h.i8 hj hb
theorem PutsR.rots (h : PutsR l l' i x) (hb : 288 ≤ l.length) (j : Nat) (hj : j < 8) : rawR l' j = if j = i then x else rawR l j := by rw [h.eq]; exact rawR_splice l _ i j h.x11 h.i8 hj hb
theorem same_ents {l l' : Bytes} (h : ∀ j, j < 40 → rawE l' j = rawE l j) (y : Int) : hE l' y = hE l y ∧ gT l' y = gT l y ∧ gA l' y = gA l y ∧ gL l' y = gL l y := by
  have hx : hE l' y = hE l y ∧ (hE l y = 0 → hR l' y = hR l y) := by
    unfold hE hR
    by_cases hb : handleB y = false
    · rw [if_pos hb, if_pos hb]; exact ⟨rfl, fun h => by cases h⟩
    · have := handleB_true.1 (show handleB y = true by
        cases hx : handleB y with
        | true => rfl
        | false => exact absurd hx hb)
      rw [if_neg hb, if_neg hb, h (y - 1).toNat (by omega)]
      exact ⟨rfl, fun _ => rfl⟩
  unfold gT gL gA
  rw [hx.1]
  by_cases h0 : hE l y = 0
  · rw [if_pos h0, if_pos h0, if_pos h0, if_pos h0, if_pos h0, if_pos h0, hx.2 h0]; exact ⟨rfl, rfl, rfl, rfl⟩
  · rw [if_neg h0, if_neg h0, if_neg h0, if_neg h0, if_neg h0, if_neg h0]; exact ⟨rfl, rfl, rfl, rfl⟩
theorem PutsR.same (h : PutsR l l' i x) (hb : 288 ≤ l.length) (y : Int) : hE l' y = hE l y ∧ gT l' y = gT l y ∧ gA l' y = gA l y ∧ gL l' y = gL l y := same_ents (h.ents hb) y
theorem goodS_ents {n : Nat} {R R' S : Nat → Bytes} (g : GoodS n R S) (h : ∀ j, j < 40 → R' j = R j) : GoodS n R' S where
  none j hj hh := by rw [h j hj] at hh ⊢; exact g.none j hj hh
  fit j hj hh := by rw [h j hj] at hh ⊢; exact g.fit j hj hh
  apart i hi j hj hh hh' := by rw [h i hi] at hh ⊢; rw [h j (by omega)] at hh' ⊢; exact g.apart i hi j hj hh hh'
  root i hi hz := badR_mono (g.root i hi hz) fun hl => by
    obtain ⟨j, hj, hh, hx⟩ := leadsS_iff.1 hl
    exact leadsS_iff.2 ⟨j, hj, by rw [h j hj]; exact hh, hx⟩
  name := g.name
theorem PutsR.good (h : PutsR l l' i x) (hg : Good l) (hx : zeroE x = true ∨ (badR (leadsS (rawE l)) x = false ∧ ∀ j, j < 8 → j ≠ i → zeroE (rawR l j) = false → nmR x ≠ nmR (rawR l j))) : Good l' := by
  have hb := hg.bd.1
  refine good_iff.2 ⟨by rw [h.len hb]; exact hg.len, ?_⟩
  rw [h.len hb]
  exact goodS_ents (hg.s.putR i x (h.rots hb) hx) (h.ents hb)
theorem PutsR.count (h : PutsR l l' i x) (hb : 288 ≤ l.length) : (rootsL l').length + (if zeroE (rawR l i) = false then 1 else 0) = (rootsL l).length + (if zeroE x = false then 1 else 0) := by
  have hc := count_upd (fun j => !zeroE (rawR l j)) i (!zeroE x) 8
  have e : (List.range 8).filter (fun j => !zeroE (rawR l' j)) = (List.range 8).filter (fun j => if j = i then !zeroE x else !zeroE (rawR l j)) := List.filter_congr fun j hj => by
    rw [h.rots hb j (List.mem_range.1 hj)]; split <;> rfl
  unfold rootsL rootsF
  rw [List.length_map, List.length_map, e]
  have hi := h.i8
  cases h1 : zeroE (rawR l i) <;> cases h2 : zeroE x <;> simp [h1, h2, hi] at hc ⊢ <;> omega
end
theorem putRo_zero : putRo [] 0 = List.replicate 11 0 := by decide
theorem rootB_facts (s : Bytes) (y : Int) (hh : handleB y = true) (hnm : isName s = true) : zeroE (rootB s y) = false ∧ nmR (rootB s y) = s ∧ (rootB s y).length = 11 ∧ ((rootB s y).getD 10 0).toNat = y.toNat ∧ gotName ((rootB s y).take 8) = true ∧ (rootB s y).getD 8 0 = 0 ∧ (rootB s y).getD 9 0 = 0 := by
  have hb := handleB_true.1 hh
  have h8 := nameB_len s hnm
  obtain ⟨h1, h2⟩ := nameB_back s hnm
  have ht : (rootB s y).take 8 = nameB s := by unfold rootB; rw [List.take_append_of_le_length (by omega), List.take_of_length_le (by omega)]
  have hd : (UInt8.ofNat y.toNat).toNat = y.toNat := by rw [UInt8.toNat_ofNat', Nat.mod_eq_of_lt (by omega)]
  refine ⟨rootB_zero s y hh, by unfold nmR; rw [ht]; exact h2, rootB_len s y hnm, ?_, by rw [ht]; exact h1, ?_, ?_⟩
  · unfold rootB
    rw [List.getD_eq_getElem?_getD, List.getElem?_append_right (by omega), h8]
    exact hd
  · unfold rootB
    rw [List.getD_eq_getElem?_getD, List.getElem?_append_right (by omega), h8]
    rfl
  · unfold rootB
    rw [List.getD_eq_getElem?_getD, List.getElem?_append_right (by omega), h8]
    rfl
theorem putRo_name (s : Bytes) (y : Int) (hh : handleB y = true) : putRo s y = rootB s y := by
  have hb := handleB_true.1 hh
  unfold putRo
  rw [if_neg (by simp; omega)]
theorem hE_handle {l : Bytes} {y : Int} (h : hE l y = 0) : handleB y = true := by
  obtain ⟨k, hk, rfl, -, -⟩ := hE_zero h
  exact handleB_true.2 (by omega)
/-- what is said of a name that is set -/
structure SetIs (l l' s : Bytes) (y : Int) : Prop where
  good : Good l'
  same : ∀ z, hE l' z = hE l z ∧ gT l' z = gT l z ∧ gA l' z = gA l z ∧ gL l' z = gL l z
  lead : (leadR (rootsL l') s : Int) = y
  rest : ∀ t, t ≠ s → leadR (rootsL l') t = leadR (rootsL l) t
  count : (rootsL l').length = (rootsL l).length + (if (placeF l s 8).1 < 0 then 1 else 0)
  own : ∃ r ∈ rootsL l', (r.2 : Int) = y
  puts : ∃ i, PutsR l l' i (rootB s y)
theorem set_is {l s : Bytes} {y : Int} {i : Nat} (hg : Good l) (hn : isName s = true) (hy : hE l y = 0) (hi : i < 8) (ha : setAt l s = i) : SetIs l (splice l (200 + 11 * i) (rootB s y)) s y := by
  have hb := hg.bd.1
  have hh := hE_handle hy
  have hyb := handleB_true.1 hh
  have hyn : ((y.toNat : Nat) : Int) = y := Int.toNat_of_nonneg (by omega)
  obtain ⟨f1, f2, f3, f4, f5, f6, f7⟩ := rootB_facts s y hh hn
  have hP : PutsR l (splice l (200 + 11 * i) (rootB s y)) i (rootB s y) := ⟨hi, f3, rfl⟩
  obtain ⟨p1, p2⟩ := placeF_spec l s 8 (Nat.le_refl _)
  have hno : ∀ j, j < 8 → j ≠ i → zeroE (rawR l j) = false → nmR (rawR l j) ≠ s := fun j hj hne hz => by
    rcases p1 with ⟨a, b⟩ | ⟨q, _, b, c, d, e, _⟩
    · exact b j (by omega) hj hz
    · unfold setAt at ha
      rw [if_neg (by omega), c] at ha
      obtain rfl : q = i := by omega
      intro hs
      rcases Nat.lt_or_gt_of_ne hne with h | h
      · exact hg.s.name q b j h d hz (e.trans hs.symm)
      · exact hg.s.name j hj q h hz d (hs.trans e.symm)
  have hz : zeroE (rawR l i) = decide ((placeF l s 8).1 < 0) := by
    rcases p1 with ⟨a, b⟩ | ⟨q, _, b, c, d, e, _⟩
    · unfold setAt at ha
      rw [if_pos (by omega)] at ha
      rcases p2 with ⟨a2, b2⟩ | ⟨q, _, b2, c2, d2, e2⟩
      · omega
      · obtain rfl : q = i := by omega
        rw [d2, a]; rfl
    · unfold setAt at ha
      rw [if_neg (by omega), c] at ha
      obtain rfl : q = i := by omega
      rw [d, c]; simp
  have hG : Good (splice l (200 + 11 * i) (rootB s y)) := hP.good hg (.inr ⟨by
    unfold badR
    rw [f5, f6, f7]
    have : leadsS (rawE l) ((rootB s y).getD 10 0) = true := by
      obtain ⟨k, hk, rfl, hk1, -⟩ := hE_zero hy
      exact leadsS_iff.2 ⟨k, hk, hk1, by rw [f4]; omega⟩
    rw [this]; rfl, fun j hj hne hz => by rw [f2]; exact (hno j hj hne hz).symm⟩)
  have hr := hP.rots hb
  have hLs : leadR (rootsL (splice l (200 + 11 * i) (rootB s y))) s = y.toNat := by
    have := lead_at hG (s := s) hi (by rw [hr i hi, if_pos rfl]; exact f1) (by rw [hr i hi, if_pos rfl]; exact f2)
    rw [hr i hi, if_pos rfl, f4] at this
    exact this
  refine ⟨hG, hP.same hb, by rw [hLs]; exact hyn, fun t ht => ?_, ?_, ?_, i, hP⟩
  · by_cases hex : ∃ j, j < 8 ∧ zeroE (rawR l j) = false ∧ nmR (rawR l j) = t
    · obtain ⟨j, hj, hzj, hnj⟩ := hex
      have hne : j ≠ i := fun e => by
        subst e
        rw [hz] at hzj
        have h1 : ¬ (placeF l s 8).1 < 0 := by simpa using hzj
        rcases p1 with ⟨a, b⟩ | ⟨q, _, b, c, d, e, _⟩
        · omega
        · unfold setAt at ha
          rw [if_neg h1, c] at ha
          obtain rfl : q = j := by omega
          exact ht (hnj.symm.trans e)
      rw [lead_at hg hj hzj hnj, lead_at hG hj (by rw [hr j hj, if_neg hne]; exact hzj) (by rw [hr j hj, if_neg hne]; exact hnj), hr j hj, if_neg hne]
    · rw [lead_no hg (fun j hj hzj hnj => hex ⟨j, hj, hzj, hnj⟩), lead_no hG (fun j hj hzj hnj => ?_)]
      rw [hr j hj] at hzj hnj
      by_cases e : j = i
      · rw [if_pos e, f2] at hnj; exact ht hnj.symm
      · rw [if_neg e] at hzj hnj; exact hex ⟨j, hj, hzj, hnj⟩
  · have hc := hP.count hb
    rw [f1, hz] at hc
    by_cases h0 : (placeF l s 8).1 < 0
    · simp [h0] at hc ⊢; omega
    · simp [h0] at hc ⊢; omega
  · refine ⟨rootP (rootB s y), mem_rootsF.2 ⟨i, hi, by rw [hr i hi, if_pos rfl]; exact f1, by rw [hr i hi, if_pos rfl]⟩, ?_⟩
    rw [rootB_P s y hh hn]
    exact hyn
/-- a name that was set lies at its own place then -/
theorem SetIs.place {l l' s : Bytes} {y : Int} (h : SetIs l l' s y) (hg : Good l) (hn : isName s = true) (hy : hE l y = 0) : ∃ i : Nat, i < 8 ∧ (placeF l' s 8).1 = i ∧ zeroE (rawR l' i) = false ∧ nmR (rawR l' i) = s := by
  obtain ⟨i, hP⟩ := h.puts
  obtain ⟨f1, f2, -⟩ := rootB_facts s y (hE_handle hy) hn
  have hr := hP.rots hg.bd.1 i hP.i8
  rw [if_pos rfl] at hr
  obtain ⟨p1, -⟩ := placeF_spec l' s 8 (Nat.le_refl _)
  rcases p1 with ⟨a, b⟩ | ⟨q, _, b, c, d, e, _⟩
  · exact absurd (by rw [hr]; exact f2) (b i (by have := hP.i8; omega) hP.i8 (by rw [hr]; exact f1))
  · exact ⟨q, b, c, d, e⟩
/-- unset -/
theorem unset_is {l s : Bytes} {i : Nat} (hg : Good l) (hi : i < 8) (hz : zeroE (rawR l i) = false) (hs : nmR (rawR l i) = s) : Good (splice l (200 + 11 * i) (List.replicate 11 0)) ∧ leadR (rootsL (splice l (200 + 11 * i) (List.replicate 11 0))) s = 0 ∧ (placeF (splice l (200 + 11 * i) (List.replicate 11 0)) s 8).1 = -1 := by
  have hP : PutsR l (splice l (200 + 11 * i) (List.replicate 11 0)) i (List.replicate 11 0) := ⟨hi, by simp, rfl⟩
  have hG := hP.good hg (.inl (zeros_zero 11))
  have hr := hP.rots hg.bd.1
  have hno : ∀ j, j < 8 → zeroE (rawR (splice l (200 + 11 * i) (List.replicate 11 0)) j) = false → nmR (rawR (splice l (200 + 11 * i) (List.replicate 11 0)) j) ≠ s := fun j hj hzj hnj => by
    rw [hr j hj] at hzj hnj
    by_cases e : j = i
    · rw [if_pos e, zeros_zero] at hzj; cases hzj
    · rw [if_neg e] at hzj hnj
      rcases Nat.lt_or_gt_of_ne e with h | h
      · exact hg.s.name i hi j h hz hzj (hs.trans hnj.symm)
      · exact hg.s.name j hj i h hzj hz (hnj.trans hs.symm)
  refine ⟨hG, lead_no hG hno, ?_⟩
  obtain ⟨p1, -⟩ := placeF_spec (splice l (200 + 11 * i) (List.replicate 11 0)) s 8 (Nat.le_refl _)
  rcases p1 with ⟨a, _⟩ | ⟨q, _, b, c, d, e, _⟩
  · exact a
  · exact absurd e (hno q b d)
end Go.Proofs.YtijcclpnkfmpnaaGreat
/- root.Set of whatever, and root.Unset. -/
namespace Go.Proofs.YtijcclpnkfmpnaaGreat
open Go.RowKit

/-- the fault of Set; the image behind it -/
def setE (l s : Bytes) (x : Int) : Nat := if isName s = false then 2 else if hE l x ≠ 0 then hE l x else if setAt l s < 0 then 4 else 0
def setL (l s : Bytes) (x : Int) : Bytes := if setE l s x = 0 then splice l (200 + 11 * (setAt l s).toNat) (rootB s x) else l
def unE (l s : Bytes) : Nat := if isName s = false then 2 else if (placeF l s 8).1 < 0 then 5 else 0
def unL (l s : Bytes) : Bytes := if unE l s = 0 then splice l (200 + 11 * (placeF l s 8).1.toNat) (List.replicate 11 0) else l
theorem setAt_lt (l s : Bytes) : -1 ≤ setAt l s ∧ setAt l s < 8 := by
  obtain ⟨p1, p2⟩ := placeF_spec l s 8 (Nat.le_refl _)
  unfold setAt
  split
  · rcases p2 with ⟨a, _⟩ | ⟨q, _, b, c, _⟩ <;> omega
  · rcases p1 with ⟨a, _⟩ | ⟨q, _, b, c, _⟩ <;> omega
theorem setE_ok {l s : Bytes} {x : Int} (h : setE l s x = 0) : isName s = true ∧ hE l x = 0 ∧ ∃ i : Nat, i < 8 ∧ setAt l s = i ∧ setL l s x = splice l (200 + 11 * i) (rootB s x) := by
  have h' := h
  unfold setE at h
  cases hn : isName s with
  | false => rw [hn] at h; simp at h
  | true =>
    rw [hn] at h
    by_cases h0 : hE l x = 0
    · by_cases h1 : setAt l s < 0
      · simp [h0, h1] at h
      · have := setAt_lt l s
        refine ⟨rfl, h0, (setAt l s).toNat, by omega, by omega, ?_⟩
        unfold setL; rw [if_pos h']
    · simp [h0] at h
theorem setE_is {l s : Bytes} {x : Int} (hg : Good l) (h : setE l s x = 0) : SetIs l (setL l s x) s x := by
  obtain ⟨h1, h2, i, h3, h4, h5⟩ := setE_ok h
  rw [h5]; exact set_is hg h1 h2 h3 h4
theorem unL_good {l s : Bytes} (hg : Good l) : Good (unL l s) := by
  unfold unL
  split
  · rename_i h
    obtain ⟨p1, p2⟩ := placeF_spec l s 8 (Nat.le_refl _)
    rcases p1 with ⟨a, _⟩ | ⟨q, _, b, c, d, e, _⟩
    · unfold unE at h; rw [if_pos (by omega : (placeF l s 8).1 < 0)] at h; split at h <;> simp at h
    · rw [c, Int.toNat_natCast]; exact (unset_is hg b d e).1
  · exact hg
section
variable {w0 w : World} {F : Nat → Prop} {h : Nat} {l : Bytes}
set_option maxRecDepth 100000 in
theorem rset_any (s : Bytes) (x : Int) (hp : Hp w0 w F h l) (hg : Good l) (hs : s.length ≤ 140737488351232) :
    Calls Tryz.prog 15 #[.pointer (some ⟨h, 0, none⟩), sv s, .int .i64 x] w fun e w' => e = .returned (.tuple #[.bool (decide (setE l s x = 0 ∧ (placeF l s 8).1 < 0)), errV (setE l s x)]) ∧ ∃ F', HpM w0 w w' F F' h (setL l s x) := by
  cases hn : isName s with
  | false =>
    have he : setE l s x = 2 := by unfold setE; rw [if_pos hn]
    have hL : setL l s x = l := by unfold setL; rw [he]; rfl
    rw [he, hL]
    rw [show decide ((2 : Nat) = 0 ∧ (placeF l s 8).1 < 0) = false from by simp]
    have HP := Hidden.mk hp
    have HC := Hidden.mk (putName_no s w hs hn)
    clear hp hg he hL hn
    go_enter Tryz.func15, Tryz.ntmps15
    go_wp2_with fail
    refine HC.out.mono ?_
    rintro e w2 ⟨rfl, hb2⟩
    have HB := Hidden.mk (HP.out.same hb2)
    clear hb2 HC
    go_wp2_with fail
    go_ret2
    exact ⟨rfl, F, HB.out⟩
  | true =>
    by_cases hx : hE l x = 0
    · have hA := setAt_lt l s
      by_cases ha : setAt l s < 0
      · have he : setE l s x = 4 := by unfold setE; rw [if_neg (by rw [hn]; decide), if_neg (by omega), if_pos ha]
        have hL : setL l s x = l := by unfold setL; rw [he]; rfl
        rw [he, hL]
        rw [show decide ((4 : Nat) = 0 ∧ (placeF l s 8).1 < 0) = false from by simp]
        refine (rset_full s x hp hg hn hx ha).mono ?_
        rintro e w' ⟨rfl, hb⟩
        exact ⟨rfl, F, hp.same hb⟩
      · have he : setE l s x = 0 := by unfold setE; rw [if_neg (by rw [hn]; decide), if_neg (by omega), if_neg ha]
        obtain ⟨_, _, i, hi, hai, hL⟩ := setE_ok he
        rw [he, hL]
        refine (rset_ok s x i hp hg hn hx hi hai).mono ?_
        rintro e w' ⟨rfl, F', hm⟩
        rw [putRo_name s x (hE_handle hx)] at hm
        refine ⟨?_, F', hm⟩
        rw [show decide ((0 : Nat) = 0 ∧ (placeF l s 8).1 < 0) = decide ((placeF l s 8).1 < 0) from by simp]
        rfl
    · have he : setE l s x = hE l x := by unfold setE; rw [if_neg (by rw [hn]; decide), if_pos hx]
      have hL : setL l s x = l := by unfold setL; rw [he, if_neg hx]
      have hev : errV (hE l x) = .iface 76 (.int .i64 (hE l x : Int)) := by unfold errV; rw [if_neg hx]
      rw [he, hL]
      rw [show decide (hE l x = 0 ∧ (placeF l s 8).1 < 0) = false from by simp [hx]]
      have HP := Hidden.mk hp
      have HC := Hidden.mk (putName_ok s w hn)
      have HT : Hidden (∀ W, Below w.heap.size w W → Calls Tryz.prog 53 #[.pointer (some ⟨h, 0, none⟩), .int .i64 x] W fun e w' => e = .returned (.tuple #[.int .i64 (gT l x), .iface 76 (.int .i64 (hE l x : Int))]) ∧ Below W.heap.size W w') := ⟨fun W hW => by rw [← hev]; exact htag_any x (hp.below hW)⟩
      rw [hev]
      generalize gT l x = gt at *
      generalize (hE l x : Int) = q at *
      clear hp hg he hL hn hx hev
      go_enter Tryz.func15, Tryz.ntmps15
      go_wp2_with fail
      refine HC.out.mono ?_
      rintro e w1 ⟨gn, rfl, -, -, hb1⟩
      have HB1 := Hidden.mk hb1
      clear hb1 HC
      go_wp2_with fail
      refine (HT.out w1 HB1.out).mono ?_
      rintro e w2 ⟨rfl, hb2⟩
      have HB2 := Hidden.mk (HP.out.same (HB1.out.trans (hb2.mono HB1.out.size)))
      clear hb2 HT HB1
      go_wp2_with fail
      go_ret2
      exact ⟨rfl, F, HB2.out⟩
set_option maxRecDepth 100000 in
theorem runset_any (s : Bytes) (hp : Hp w0 w F h l) (hg : Good l) (hs : s.length ≤ 140737488351232) :
    Calls Tryz.prog 16 #[.pointer (some ⟨h, 0, none⟩), sv s] w fun e w' => e = .returned (errV (unE l s)) ∧ ∃ F', HpM w0 w w' F F' h (unL l s) := by
  have HP := Hidden.mk hp
  cases hn : isName s with
  | false =>
    have he : unE l s = 2 := by unfold unE; rw [if_pos hn]
    have hL : unL l s = l := by unfold unL; rw [he]; rfl
    rw [he, hL]
    have HC := Hidden.mk (putName_no s w hs hn)
    clear hp hg he hL hn
    go_enter Tryz.func16, Tryz.ntmps16
    go_wp2_with fail
    refine HC.out.mono ?_
    rintro e w2 ⟨rfl, hb2⟩
    have HB := Hidden.mk (HP.out.same hb2)
    clear hb2 HC
    go_wp2_with fail
    go_ret
    exact ⟨rfl, F, HB.out⟩
  | true =>
    have HC := Hidden.mk (putName_ok s w hn)
    have HPL : Hidden (∀ W, Below w.heap.size w W → Calls Tryz.prog 54 #[.pointer (some ⟨h, 0, none⟩), sv s] W fun e w' => e = .returned (.tuple #[.int .i64 (placeF l s 8).1, .int .i64 (placeF l s 8).2]) ∧ Below W.heap.size W w') := ⟨fun W hW => place_any s (hp.below hW) hg⟩
    obtain ⟨p1, -⟩ := placeF_spec l s 8 (Nat.le_refl _)
    rcases p1 with ⟨a, _⟩ | ⟨i, _, b, c, d, e, _⟩
    · have he : unE l s = 5 := by unfold unE; rw [if_neg (by rw [hn]; decide), if_pos (by omega)]
      have hL : unL l s = l := by unfold unL; rw [he]; rfl
      rw [he, hL]
      rw [a] at HPL
      generalize (placeF l s 8).2 = p2 at *
      clear hp hg he hL hn a
      go_enter Tryz.func16, Tryz.ntmps16
      go_wp2_with fail
      refine HC.out.mono ?_
      rintro e w1 ⟨gn, rfl, -, -, hb1⟩
      have HB1 := Hidden.mk hb1
      clear hb1 HC
      go_wp2_with fail
      refine (HPL.out w1 HB1.out).mono ?_
      rintro e w2 ⟨rfl, hb2⟩
      have HB2 := Hidden.mk (HP.out.same (HB1.out.trans (hb2.mono HB1.out.size)))
      clear hb2 HPL HB1
      go_wp2_with fail
      go_ret
      exact ⟨rfl, F, HB2.out⟩
    · have he : unE l s = 0 := by unfold unE; rw [if_neg (by rw [hn]; decide), if_neg (by omega)]
      have hL : unL l s = splice l (200 + 11 * i) (List.replicate 11 0) := by unfold unL; rw [if_pos he, c, Int.toNat_natCast]
      rw [he, hL]
      rw [c] at HPL
      have HPR : Hidden (∀ W, Below w.heap.size w W → Calls Tryz.prog 55 #[.pointer (some ⟨h, 0, none⟩), .int .i64 (i : Int), .agg #[sv [], .int .i64 0]] W fun e w' => e = .returned .nilIface ∧ ∃ F', HpM w0 W w' F F' h (splice l (200 + 11 * i) (List.replicate 11 0))) := ⟨fun W hW => by
        have := hroot_ok i [] 0 (hp.below hW) b (.inl ⟨rfl, rfl⟩)
        rw [putRo_zero] at this; exact this⟩
      have d1 : decide ((i : Int) < 0) = false := by simp
      generalize splice l (200 + 11 * i) (List.replicate 11 0) = l' at *
      generalize (placeF l s 8).2 = p2 at *
      clear hp hg he hL hn c d e b
      go_enter Tryz.func16, Tryz.ntmps16
      go_wp2_with fail
      refine HC.out.mono ?_
      rintro e w1 ⟨gn, rfl, -, -, hb1⟩
      have HB1 := Hidden.mk hb1
      clear hb1 HC
      go_wp2_with fail
      refine (HPL.out w1 HB1.out).mono ?_
      rintro e w2 ⟨rfl, hb2⟩
      have HB2 := Hidden.mk (HB1.out.trans (hb2.mono HB1.out.size))
      clear hb2 HPL HB1
      go_wp2_with fail
      refine (HPR.out w2 HB2.out).mono ?_
      rintro e w3 ⟨rfl, F', hm⟩
      have HF := Hidden.mk ((HP.out.same HB2.out).trans hm)
      clear hm HPR HB2
      go_wp2_with fail
      go_ret
      exact ⟨rfl, F', HF.out⟩
end
end Go.Proofs.YtijcclpnkfmpnaaGreat
/- Objects moved closer together, plainly. No walk here. -/
namespace Go.Proofs.YtijcclpnkfmpnaaGreat
open Go.RowKit Go.Sort Go.Shelf Go.Lib

abbrev Ent := Int × Bytes
def cmpM (x y : Ent) : Int := Lib.compareInt (rAt x.2 : Int) (rAt y.2 : Int)
theorem ltM (x y : Ent) : ltOf cmpM x y = decide (rAt x.2 < rAt y.2) := by
  unfold ltOf cmpM Lib.compareInt
  by_cases h1 : (rAt x.2 : Int) < rAt y.2
  · have : rAt x.2 < rAt y.2 := by omega
    simp [h1, this]
  · have h3 : ¬ rAt x.2 < rAt y.2 := by omega
    by_cases h2 : (rAt y.2 : Int) < rAt x.2 <;> simp [h1, h2, h3]
theorem swoM : SWO (ltOf cmpM) where
  irrefl x := by rw [ltM]; simp
  trans x y z h1 h2 := by rw [ltM] at *; simp at *; omega
  ntrans x y z h1 h2 := by rw [ltM] at *; simp at *; omega
/-- entries by where they begin -/
def sortM (l : Bytes) : List Ent := pdqL cmpM (entriesL l)
theorem sortM_perm (l : Bytes) : (sortM l).Perm (entriesL l) := (pdqL_perm cmpM swoM _).1
theorem sortM_sorted (l : Bytes) : (sortM l).Pairwise (fun a b => rAt a.2 ≤ rAt b.2) := (pdqL_perm cmpM swoM _).2.imp fun {a b} h => by
  rw [ltM] at h; simp at h; omega
/-- behind each other, from a to n -/
def TidyM : Nat → List Ent → Nat → Prop
  | a, [], n => a ≤ n
  | a, e :: r, n => a ≤ rAt e.2 ∧ 1 ≤ rLen e.2 ∧ TidyM (rAt e.2 + rLen e.2) r n
theorem tidyM_le : ∀ {S : List Ent} {a n : Nat}, TidyM a S n → a ≤ n
  | [], _, _, h => h
  | e :: r, _, _, ⟨h1, h2, h3⟩ => by have := tidyM_le h3; omega
theorem tidyM_mem : ∀ {S : List Ent} {a n : Nat}, TidyM a S n → ∀ e ∈ S, a ≤ rAt e.2 ∧ 1 ≤ rLen e.2 ∧ rAt e.2 + rLen e.2 ≤ n
  | [], _, _, _, e, he => by cases he
  | x :: r, _, _, ⟨h1, h2, h3⟩, e, he => by
    rcases List.mem_cons.1 he with rfl | he
    · have := tidyM_le h3; omega
    · have := tidyM_mem h3 e he; omega
theorem tidyM_mono : ∀ {S : List Ent} {a b n : Nat}, TidyM a S n → b ≤ a → TidyM b S n
  | [], _, _, _, h, hb => Nat.le_trans hb h
  | _ :: _, _, _, _, ⟨h1, h2, h3⟩, hb => ⟨by omega, h2, h3⟩
theorem tidyM_strict : ∀ {S : List Ent} {a n : Nat}, TidyM a S n → S.Pairwise (fun x y => rAt x.2 < rAt y.2)
  | [], _, _, _ => List.Pairwise.nil
  | e :: r, a, n, ⟨h1, h2, h3⟩ => List.Pairwise.cons (fun x hx => by have := tidyM_mem h3 x hx; omega) (tidyM_strict h3)
theorem tidyM_mk (n : Nat) : ∀ (S : List Ent) (a : Nat), (∀ e ∈ S, a ≤ rAt e.2 ∧ 1 ≤ rLen e.2 ∧ rAt e.2 + rLen e.2 ≤ n) → S.Pairwise (fun x y => rAt x.2 + rLen x.2 ≤ rAt y.2) → a ≤ n → TidyM a S n
  | [], _, _, _, h => h
  | e :: r, a, hb, hp, _ => by
    obtain ⟨h1, h2, h3⟩ := hb e (List.mem_cons_self ..)
    rw [List.pairwise_cons] at hp
    exact ⟨h1, h2, tidyM_mk n r _ (fun x hx => by have := hb x (List.mem_cons_of_mem _ hx); have := hp.1 x hx; omega) hp.2 (by omega)⟩
theorem entL_mem {l : Bytes} {e : Ent} : e ∈ entriesL l ↔ ∃ k : Nat, k < 40 ∧ hasE (rawE l k) = true ∧ e = ((k : Int) + 1, rawE l k) := by
  unfold entriesL entsL
  simp only [List.mem_map, List.mem_filter, List.mem_range]
  constructor
  · rintro ⟨k, ⟨h1, h2⟩, rfl⟩; exact ⟨k, h1, h2, rfl⟩
  · rintro ⟨k, h1, h2, rfl⟩; exact ⟨k, ⟨h1, h2⟩, rfl⟩
theorem entL_nodup (l : Bytes) : (entriesL l).Pairwise (fun a b => a.1 ≠ b.1) := by
  unfold entriesL entsL
  rw [List.pairwise_map]
  exact (List.pairwise_lt_range.filter _).imp fun {a b} h => by dsimp only; omega
theorem sortM_nodup (l : Bytes) : (sortM l).Pairwise (fun a b => a.1 ≠ b.1) := ((sortM_perm l).pairwise_iff (R := fun a b : Ent => a.1 ≠ b.1) (fun h => h.symm)).2 (entL_nodup l)
theorem tidy_sortM {l : Bytes} (hg : Good l) : TidyM 288 (sortM l) l.length := by
  have hb := hg.bd
  refine tidyM_mk _ _ _ (fun e he => ?_) ?_ hb.1
  · obtain ⟨k, hk, hh, rfl⟩ := entL_mem.1 ((sortM_perm l).mem_iff.1 he)
    have := strayE_false (hg.s.fit k hk hh)
    dsimp only; omega
  · rw [List.pairwise_iff_getElem]
    intro i j hi hj hij
    have hs := List.pairwise_iff_getElem.1 (sortM_sorted l) i j hi hj hij
    have hn := List.pairwise_iff_getElem.1 (sortM_nodup l) i j hi hj hij
    obtain ⟨k, hk, hh, e1⟩ := entL_mem.1 ((sortM_perm l).mem_iff.1 (List.getElem_mem hi))
    obtain ⟨q, hq, hh2, e2⟩ := entL_mem.1 ((sortM_perm l).mem_iff.1 (List.getElem_mem hj))
    rw [e1, e2] at hs hn ⊢
    dsimp only at hs hn ⊢
    have ha := hg.apart (j := q) (k := k) hq hk (by omega) hh2 hh
    have h1 := strayE_false (hg.s.fit k hk hh)
    have h2 := strayE_false (hg.s.fit q hq hh2)
    unfold overE at ha
    simp only [Bool.and_eq_false_iff, decide_eq_false_iff_not] at ha
    omega
theorem sortM_unique {l : Bytes} {S : List Ent} {a n : Nat} (hp : S.Perm (entriesL l)) (ht : TidyM a S n) : sortM l = S := by
  have h1 : (sortM l).Perm S := (sortM_perm l).trans hp.symm
  have hs := tidyM_strict ht
  refine List.Perm.eq_of_pairwise (le := fun x y : Ent => rAt x.2 ≤ rAt y.2) (fun x y hx hy h h' => ?_) (sortM_sorted l) (hs.imp fun h => Nat.le_of_lt h) h1
  have hx' : x ∈ S := h1.mem_iff.1 hx
  obtain ⟨i, hi, rfl⟩ := List.getElem_of_mem hx'
  obtain ⟨j, hj, rfl⟩ := List.getElem_of_mem hy
  rw [List.pairwise_iff_getElem] at hs
  rcases Nat.lt_trichotomy i j with hij | rfl | hij
  · have := hs i j hi hj hij; omega
  · rfl
  · have := hs j i hj hi hij; omega
/-- the first that has a gap ahead of it, and where it goes -/
def gapM : Nat → List Ent → Option (Ent × Nat)
  | _, [] => none
  | a, e :: r => if a < rAt e.2 then some (e, a) else gapM (rAt e.2 + rLen e.2) r
/-- how many stand behind the first gap -/
def packM : Nat → List Ent → Nat
  | _, [] => 0
  | a, e :: r => if a < rAt e.2 then r.length + 1 else packM (rAt e.2 + rLen e.2) r
theorem packM_le : ∀ (S : List Ent) (a : Nat), packM a S ≤ S.length
  | [], _ => Nat.le_refl _
  | e :: r, a => by
    unfold packM; split
    · simp
    · have := packM_le r (rAt e.2 + rLen e.2); simp; omega
theorem packM_zero : ∀ {S : List Ent} {a : Nat}, packM a S = 0 → gapM a S = none
  | [], _, _ => rfl
  | e :: r, a, h => by
    unfold packM at h; unfold gapM
    by_cases hc : a < rAt e.2
    · rw [if_pos hc] at h; omega
    · rw [if_neg hc] at h ⊢; exact packM_zero h
def swapE (e : Ent) (r' : Bytes) (x : Ent) : Ent := if x.1 = e.1 then (e.1, r') else x
theorem swap_none {e : Ent} {r' : Bytes} : ∀ {S : List Ent}, (∀ x ∈ S, x.1 ≠ e.1) → S.map (swapE e r') = S
  | [], _ => rfl
  | x :: r, h => by
    rw [List.map_cons, swap_none (fun y hy => h y (List.mem_cons_of_mem _ hy))]
    unfold swapE
    rw [if_neg (h x (List.mem_cons_self ..))]
theorem gap_swap {n : Nat} {e : Ent} {at_ : Nat} {r' : Bytes} (h1 : rAt r' = at_) (h2 : rLen r' = rLen e.2) : ∀ {S : List Ent} {a : Nat}, TidyM a S n → S.Pairwise (fun x y => x.1 ≠ y.1) → gapM a S = some (e, at_) →
    TidyM a (S.map (swapE e r')) n ∧ packM a (S.map (swapE e r')) < packM a S ∧ a ≤ at_ ∧ at_ < rAt e.2 ∧ e ∈ S ∧ ∀ x ∈ S, x.1 ≠ e.1 → at_ + rLen e.2 ≤ rAt x.2 ∨ rAt x.2 + rLen x.2 ≤ at_
  | [], _, _, _, h => by cases h
  | x :: r, a, ⟨t1, t2, t3⟩, hp, h => by
    rw [List.pairwise_cons] at hp
    unfold gapM at h
    by_cases hc : a < rAt x.2
    · rw [if_pos hc] at h
      have h' := Option.some.inj h
      injection h' with h3 h4
      subst h3 h4
      have hr : r.map (swapE x r') = r := swap_none (fun y hy => (hp.1 y hy).symm)
      rw [List.map_cons, hr]
      have hx : swapE x r' x = (x.1, r') := by unfold swapE; rw [if_pos rfl]
      rw [hx]
      have hm : TidyM (rAt r' + rLen r') r n := tidyM_mono t3 (by omega)
      refine ⟨⟨by dsimp only; omega, by dsimp only; omega, hm⟩, ?_, Nat.le_refl _, hc, List.mem_cons_self .., fun y hy hne => ?_⟩
      · unfold packM
        rw [if_pos hc, if_neg (by dsimp only; omega)]
        have := packM_le r (rAt r' + rLen r')
        dsimp only; omega
      · rcases List.mem_cons.1 hy with rfl | hy
        · exact absurd rfl hne
        · have := tidyM_mem t3 y hy; left; omega
    · rw [if_neg hc] at h
      obtain ⟨g1, g2, g3, g4, g5, g6⟩ := gap_swap h1 h2 t3 hp.2 h
      have hne : x.1 ≠ e.1 := hp.1 e g5
      have hx : swapE e r' x = x := by unfold swapE; rw [if_neg hne]
      rw [List.map_cons, hx]
      refine ⟨⟨t1, t2, g1⟩, ?_, by omega, g4, List.mem_cons_of_mem _ g5, fun y hy hne' => ?_⟩
      · unfold packM
        rw [if_neg hc, if_neg hc]; exact g2
      · rcases List.mem_cons.1 hy with rfl | hy
        · right; omega
        · exact g6 y hy hne'
/-- what Move makes of an image: the object of the handle k + 1 at another place -/
def moveL (l : Bytes) (k a : Nat) : Bytes := splice (splice l (5 * k) (entB a (rLen (rawE l k)) (rTag (rawE l k)).toNat)) a ((l.drop (rAt (rawE l k))).take (rLen (rawE l k)))
structure MoveIs (l l' : Bytes) (k a : Nat) : Prop where
  k40 : k < 40
  has : hasE (rawE l k) = true
  a0 : 288 ≤ a
  a1 : a < rAt (rawE l k)
  len : l'.length = l.length
  ents : ∀ j, j < 40 → rawE l' j = if j = k then entB a (rLen (rawE l k)) (rTag (rawE l k)).toNat else rawE l j
  rots : ∀ i, i < 8 → rawR l' i = rawR l i
  apart : ∀ j, j < 40 → j ≠ k → hasE (rawE l j) = true → a + rLen (rawE l k) ≤ rAt (rawE l j) ∨ rAt (rawE l j) + rLen (rawE l j) ≤ a
  body : (l'.drop a).take (rLen (rawE l k)) = (l.drop (rAt (rawE l k))).take (rLen (rawE l k))
  rest : ∀ b m, 288 ≤ b → b + m ≤ a ∨ a + rLen (rawE l k) ≤ b → (l'.drop b).take m = (l.drop b).take m
theorem move_is {l : Bytes} (hg : Good l) {k a : Nat} (hk : k < 40) (hh : hasE (rawE l k) = true) (ha : 288 ≤ a) (ha1 : a < rAt (rawE l k)) (hap : ∀ j, j < 40 → j ≠ k → hasE (rawE l j) = true → a + rLen (rawE l k) ≤ rAt (rawE l j) ∨ rAt (rawE l j) + rLen (rawE l j) ≤ a) : MoveIs l (moveL l k a) k a := by
  have hb := hg.bd
  have hs := strayE_false (hg.s.fit k hk hh)
  have hbl : ((l.drop (rAt (rawE l k))).take (rLen (rawE l k))).length = rLen (rawE l k) := by simp; omega
  have hl1 : (splice l (5 * k) (entB a (rLen (rawE l k)) (rTag (rawE l k)).toNat)).length = l.length := splice_len _ _ _ (by rw [entB_len]; omega)
  have hfit : a + ((l.drop (rAt (rawE l k))).take (rLen (rawE l k))).length ≤ (splice l (5 * k) (entB a (rLen (rawE l k)) (rTag (rawE l k)).toNat)).length := by rw [hbl, hl1]; omega
  refine ⟨hk, hh, ha, ha1, by unfold moveL; rw [splice_len _ _ _ hfit, hl1], fun j hj => ?_, fun i hi => ?_, hap, ?_, fun b m hb0 hbm => ?_⟩
  · unfold moveL
    rw [rawE_tail _ _ _ _ ha hfit hj]
    exact rawE_splice l _ k j (entB_len _ _ _) hk hj (by omega)
  · unfold moveL
    rw [rawR_tail _ _ _ _ ha hfit hi]
    exact rawR_head l _ _ _ (by rw [entB_len]; omega) (by omega)
  · unfold moveL
    rw [cut_splice_in _ _ _ _ _ hfit (Nat.le_refl _) (by rw [hbl]; exact Nat.le_refl _), Nat.sub_self, List.drop_zero, List.take_of_length_le (by rw [hbl]; exact Nat.le_refl _)]
  · unfold moveL
    rw [cut_splice _ _ _ _ _ hfit (by rw [hbl]; exact hbm), cut_splice _ _ _ _ _ (by rw [entB_len]; omega) (by rw [entB_len]; omega)]
section
variable {l l' : Bytes} {k a : Nat}
theorem MoveIs.ent (h : MoveIs l l' k a) (hg : Good l) : hasE (rawE l' k) = true ∧ rAt (rawE l' k) = a ∧ rLen (rawE l' k) = rLen (rawE l k) ∧ rTag (rawE l' k) = rTag (rawE l k) := by
  have hs := strayE_false (hg.s.fit k h.k40 h.has)
  have hb := hg.bd
  have ha := h.a1
  obtain ⟨e1, e2, e3, e4⟩ := entB_rd a (rLen (rawE l k)) (rTag (rawE l k)).toNat (by omega) (by omega) (by omega)
  rw [h.ents k h.k40, if_pos rfl]
  exact ⟨e1, e2, e3, by omega⟩
theorem MoveIs.good (h : MoveIs l l' k a) (hg : Good l) : Good l' := by
  have hs := strayE_false (hg.s.fit k h.k40 h.has)
  have hb := hg.bd
  have ha := h.a1
  have ha0 := h.a0
  obtain ⟨e1, e2, e3, e4⟩ := entB_rd a (rLen (rawE l k)) (rTag (rawE l k)).toNat (by omega) (by omega) (by omega)
  refine good_iff.2 ⟨by rw [h.len]; exact hg.len, ?_⟩
  rw [h.len]
  have h1 : GoodS l.length (rawE l') (rawR l) := by
    refine hg.s.putE k h.k40 _ h.ents e1 ?_ (fun j hj hne hh => ?_)
    · unfold strayE
      rw [e2, e3, e4, tagB_true.2 ⟨by omega, by omega⟩, lenB_true.2 ⟨by omega, by omega⟩, withinB_true.2 ⟨by omega, by omega, by omega⟩]
      rfl
    · have := h.apart j hj hne hh
      unfold overE
      rw [e2, e3]
      simp only [Bool.and_eq_false_iff, decide_eq_false_iff_not]
      omega
  exact h1.putR 0 (rawR l 0) (fun j hj => by rw [h.rots j hj]; split <;> simp_all) (by
    cases hz : zeroE (rawR l 0) with
    | true => exact .inl rfl
    | false => exact .inr ⟨h1.root 0 (by omega) hz, fun j hj hne hz' => (h1.name j hj 0 (by omega) hz' hz).symm⟩)
/-- no object is another one -/
theorem MoveIs.keep (h : MoveIs l l' k a) (hg : Good l) {j : Nat} (hj : j < 40) : objT l' j = objT l j ∧ objS l' j = objS l j := by
  by_cases e : j = k
  · subst e
    obtain ⟨e1, e2, e3, e4⟩ := h.ent hg
    unfold objT objS
    rw [e1, h.has, e2, e3, e4]
    simp only [if_true]
    exact ⟨trivial, h.body⟩
  · refine obj_congr (by rw [h.ents j hj, if_neg e]) fun hh => ?_
    have := strayE_false (hg.s.fit j hj hh)
    have := h.apart j hj e hh
    exact h.rest _ _ (by omega) (by omega)
theorem MoveIs.roots (h : MoveIs l l' k a) : rootsL l' = rootsL l := by
  unfold rootsL rootsF
  rw [List.filter_congr (fun i hi => by rw [h.rots i (List.mem_range.1 hi)])]
  exact List.map_congr_left fun i hi => by rw [h.rots i (List.mem_range.1 (List.mem_filter.1 hi).1)]
theorem MoveIs.entries (h : MoveIs l l' k a) (hg : Good l) : entriesL l' = (entriesL l).map (swapE ((k : Int) + 1, rawE l k) (rawE l' k)) := by
  have he := h.ent hg
  unfold entriesL entsL
  rw [List.map_map, List.filter_congr (q := fun j => hasE (rawE l j)) (fun j hj => by
    have hj := List.mem_range.1 hj
    by_cases e : j = k
    · rw [e, he.1, h.has]
    · rw [h.ents j hj, if_neg e])]
  refine List.map_congr_left fun j hj => ?_
  have hj := List.mem_range.1 (List.mem_filter.1 hj).1
  simp only [Function.comp_apply, swapE]
  by_cases e : j = k
  · subst e; rw [if_pos rfl]
  · rw [if_neg (by omega), h.ents j hj, if_neg e]
theorem MoveIs.taken (h : MoveIs l l' k a) (hg : Good l) : (takenL l').length = (takenL l).length ∧ sumX (takenL l') = sumX (takenL l) := by
  have he := h.ent hg
  have hE := h.entries hg
  constructor
  · unfold takenL; rw [List.length_map, List.length_map, hE, List.length_map]
  · have key : ∀ L : List Ent, (∀ e ∈ L, e.1 = (k : Int) + 1 → rLen e.2 = rLen (rawE l k)) → sumX ((L.map (swapE ((k : Int) + 1, rawE l k) (rawE l' k))).map takeX) = sumX (L.map takeX) := by
      intro L
      induction L with
      | nil => intro _; rfl
      | cons x r ih =>
        intro hL
        rw [List.map_cons, List.map_cons, List.map_cons, sumX_cons, sumX_cons, ih (fun e he => hL e (List.mem_cons_of_mem _ he))]
        congr 1
        unfold swapE takeX
        by_cases e : x.1 = (k : Int) + 1
        · rw [if_pos e]
          have := hL x (List.mem_cons_self ..) e
          dsimp only; omega
        · rw [if_neg e]
    unfold takenL
    rw [hE]
    exact key _ fun e he1 he2 => by
      obtain ⟨j, hj, hh, rfl⟩ := entL_mem.1 he1
      dsimp only at he2 ⊢
      rw [show j = k by omega]
end
/-- a step, if there is one -/
theorem step_is {l : Bytes} (hg : Good l) {e : Ent} {a : Nat} (h : gapM 288 (sortM l) = some (e, a)) : ∃ k : Nat, e = ((k : Int) + 1, rawE l k) ∧ MoveIs l (moveL l k a) k a ∧ packM 288 (sortM (moveL l k a)) < packM 288 (sortM l) := by
  have ht := tidy_sortM hg
  have hn := sortM_nodup l
  have hmem : e ∈ sortM l ∧ 288 ≤ a ∧ a < rAt e.2 ∧ ∀ x ∈ sortM l, x.1 ≠ e.1 → a + rLen e.2 ≤ rAt x.2 ∨ rAt x.2 + rLen x.2 ≤ a := by
    have aux : ∀ {S : List Ent} {b n : Nat}, TidyM b S n → S.Pairwise (fun x y => x.1 ≠ y.1) → gapM b S = some (e, a) → e ∈ S ∧ b ≤ a ∧ a < rAt e.2 ∧ ∀ x ∈ S, x.1 ≠ e.1 → a + rLen e.2 ≤ rAt x.2 ∨ rAt x.2 + rLen x.2 ≤ a := by
      intro S
      induction S with
      | nil => intro b n _ _ h; cases h
      | cons x r ih =>
        intro b n ⟨t1, t2, t3⟩ hp h
        rw [List.pairwise_cons] at hp
        unfold gapM at h
        by_cases hc : b < rAt x.2
        · rw [if_pos hc] at h
          have h' := Option.some.inj h
          injection h' with h3 h4
          subst h3 h4
          refine ⟨List.mem_cons_self .., Nat.le_refl _, hc, fun y hy hne => ?_⟩
          rcases List.mem_cons.1 hy with rfl | hy
          · exact absurd rfl hne
          · have := tidyM_mem t3 y hy; left; omega
        · rw [if_neg hc] at h
          obtain ⟨g1, g2, g3, g4⟩ := ih t3 hp.2 h
          refine ⟨List.mem_cons_of_mem _ g1, by omega, g3, fun y hy hne => ?_⟩
          rcases List.mem_cons.1 hy with rfl | hy
          · right; omega
          · exact g4 y hy hne
    exact aux ht hn h
  obtain ⟨m1, m2, m3, m4⟩ := hmem
  obtain ⟨k, hk, hh, rfl⟩ := entL_mem.1 ((sortM_perm l).mem_iff.1 m1)
  dsimp only at m3 m4
  have hM := move_is hg hk hh m2 m3 (fun j hj hne hj2 => by
    have := m4 ((j : Int) + 1, rawE l j) ((sortM_perm l).mem_iff.2 (entL_mem.2 ⟨j, hj, hj2, rfl⟩)) (by dsimp only; omega)
    exact this)
  refine ⟨k, rfl, hM, ?_⟩
  obtain ⟨e1, e2, e3, e4⟩ := hM.ent hg
  obtain ⟨g1, g2, -⟩ := gap_swap (r' := rawE (moveL l k a) k) e2 e3 ht hn h
  have hp : ((sortM l).map (swapE ((k : Int) + 1, rawE l k) (rawE (moveL l k a) k))).Perm (entriesL (moveL l k a)) := by
    rw [hM.entries hg]; exact (sortM_perm l).map _
  rw [sortM_unique hp g1]
  exact g2
/-- all that is free is one run -/
theorem packed_runs : ∀ {S : List Ent} {a n : Nat}, TidyM a S n → gapM a S = none → (runsX ((a : Int) - 288) (S.map takeX) ((n : Int) - 288)).length ≤ 1
  | [], a, n, _, _ => by
    rw [List.map_nil, runsX_nil]; split <;> simp
  | e :: r, a, n, ⟨t1, t2, t3⟩, h => by
    unfold gapM at h
    by_cases hc : a < rAt e.2
    · rw [if_pos hc] at h; cases h
    · rw [if_neg hc] at h
      have := packed_runs t3 h
      rw [List.map_cons, runsX_cons]
      unfold takeX
      dsimp only
      rw [if_neg (by omega), List.nil_append, show ((rAt e.2 : Int) - 288 + rLen e.2) = ((rAt e.2 + rLen e.2 : Nat) : Int) - 288 by omega]
      exact this
theorem tidy_take : ∀ {S : List Ent} {a n : Nat}, TidyM a S n → Tidy ((a : Int) - 288) (S.map takeX) ((n : Int) - 288)
  | [], a, n, h => by
    have h : a ≤ n := h
    show (a : Int) - 288 ≤ (n : Int) - 288
    omega
  | e :: r, a, n, ⟨t1, t2, t3⟩ => by
    have := tidy_take t3
    refine ⟨?_, ?_, ?_⟩
    · unfold takeX; dsimp only; omega
    · unfold takeX; dsimp only; omega
    · show Tidy ((rAt e.2 : Int) - 288 + rLen e.2) (r.map takeX) _
      rw [show ((rAt e.2 : Int) - 288 + rLen e.2) = ((rAt e.2 + rLen e.2 : Nat) : Int) - 288 by omega]
      exact this
theorem packed_holes {l : Bytes} (hg : Good l) (h : gapM 288 (sortM l) = none) : (holesX ((l.length : Int) - 288) (takenL l)).length ≤ 1 ∧ mostX (holesX ((l.length : Int) - 288) (takenL l)) = ((l.length : Int) - 288) - sumX (takenL l) := by
  have ht := tidy_sortM hg
  have hc := good_chk hg
  have hs : sortE (takenL l) = (sortM l).map takeX := sortE_unique (a := ((288 : Nat) : Int) - 288) (by unfold takenL; exact (sortM_perm l).map _) (tidy_take ht)
  have h1 := packed_runs ht h
  have e : holesX ((l.length : Int) - 288) (takenL l) = runsX (((288 : Nat) : Int) - 288) ((sortM l).map takeX) ((l.length : Int) - 288) := by rw [holes_runs, hs]; rfl
  rw [← e] at h1
  refine ⟨h1, ?_⟩
  have hsum := holds_sum hc
  have hm := holes_mem hc
  generalize holesX ((l.length : Int) - 288) (takenL l) = H at *
  rcases H with _ | ⟨x, _ | ⟨y, r⟩⟩
  · have : sumX ([] : List Ext) = 0 := rfl
    show (0 : Int) = _
    omega
  · have hx := hm x (by simp)
    have e1 : sumX [x] = x.2 := by show (0 : Int) + x.2 = x.2; omega
    have e2 : mostX [x] = max 0 x.2 := rfl
    rw [e2, Int.max_eq_right (by omega)]
    omega
  · simp at h1
end Go.Proofs.YtijcclpnkfmpnaaGreat
/- Laid: library functions whose contracts are proved over whatever program: the table of numbers, and a field a function or a type. -/
namespace Go.Proofs.YtijcclpnkfmpnaaGreat
open Go.Shelf
def layE_ren : Go.Shelf.Ren := ⟨fun | 6 => 91 | 15 => 134 | 14 => 133 | 28 => 157 | 29 => 158 | 20 => 149 | 21 => 150 | 22 => 151 | 23 => 152 | 24 => 153 | 25 => 154 | 26 => 155 | 27 => 156 | 46 => 185 | 47 => 186 | 48 => 187 | 49 => 188 | 50 => 189 | 57 => 201 | n => n, fun | 22 => 136 | 24 => 85 | 25 => 152 | 3 => 3 | 39 => 189 | 0 => 0 | 53 => 212 | 55 => 214 | 4 => 4 | 46 => 206 | 45 => 205 | 50 => 194 | 5 => 5 | 9 => 9 | 66 => 233 | 70 => 237 | 76 => 246 | 77 => 105 | n => n, fun | n => n⟩
theorem layE : Go.Proofs.SlLaysF0.n6 Tryz.prog layE_ren := {
  mixed := by kernel_rfl
  f6 := ⟨Tryz.f91.name, by decide, Tryz.func91.trans (congrArg some (by kernel_rfl))⟩
  f14 := ⟨Tryz.f133.name, by decide, Tryz.func133.trans (congrArg some (by kernel_rfl))⟩
  f15 := Tryz.func134.trans (congrArg some (by kernel_rfl))
  f20 := ⟨Tryz.f149.name, by decide, Tryz.func149.trans (congrArg some (by kernel_rfl))⟩
  f21 := ⟨Tryz.f150.name, by decide, Tryz.func150.trans (congrArg some (by kernel_rfl))⟩
  f22 := ⟨Tryz.f151.name, by decide, Tryz.func151.trans (congrArg some (by kernel_rfl))⟩
  f23 := ⟨Tryz.f152.name, by decide, Tryz.func152.trans (congrArg some (by kernel_rfl))⟩
  f24 := ⟨Tryz.f153.name, by decide, Tryz.func153.trans (congrArg some (by kernel_rfl))⟩
  f25 := ⟨Tryz.f154.name, by decide, Tryz.func154.trans (congrArg some (by kernel_rfl))⟩
  f26 := ⟨Tryz.f155.name, by decide, Tryz.func155.trans (congrArg some (by kernel_rfl))⟩
  f27 := ⟨Tryz.f156.name, by decide, Tryz.func156.trans (congrArg some (by kernel_rfl))⟩
  f28 := Tryz.func157.trans (congrArg some (by kernel_rfl))
  f29 := Tryz.func158.trans (congrArg some (by kernel_rfl))
  f46 := ⟨Tryz.f185.name, by decide, Tryz.func185.trans (congrArg some (by kernel_rfl))⟩
  f47 := Tryz.func186.trans (congrArg some (by kernel_rfl))
  f48 := Tryz.func187.trans (congrArg some (by kernel_rfl))
  f49 := ⟨Tryz.f188.name, by decide, Tryz.func188.trans (congrArg some (by kernel_rfl))⟩
  f50 := ⟨Tryz.f189.name, by decide, Tryz.func189.trans (congrArg some (by kernel_rfl))⟩
  f57 := ⟨Tryz.f201.name, by decide, Tryz.func201.trans (congrArg some (by kernel_rfl))⟩
  t0 := Tryz.underlying0
  a0 := Tryz.isAgg0
  z0 := Tryz.sizeOf0
  v0 := Tryz.zeroValue0
  t3 := Tryz.underlying3
  a3 := Tryz.isAgg3
  z3 := Tryz.sizeOf3
  v3 := Tryz.zeroValue3
  t4 := Tryz.underlying4
  a4 := Tryz.isAgg4
  z4 := Tryz.sizeOf4
  v4 := Tryz.zeroValue4
  t5 := Tryz.underlying5
  a5 := Tryz.isAgg5
  z5 := Tryz.sizeOf5
  v5 := Tryz.zeroValue5
  t9 := Tryz.underlying9
  a9 := Tryz.isAgg9
  z9 := Tryz.sizeOf9
  v9 := Tryz.zeroValue9
  t22 := Tryz.underlying136
  a22 := Tryz.isAgg136
  z22 := Tryz.sizeOf136
  v22 := Tryz.zeroValue136
  t25 := Tryz.underlying152
  a25 := Tryz.isAgg152
  z25 := Tryz.sizeOf152
  v25 := Tryz.zeroValue152
  t39 := Tryz.underlying189
  a39 := Tryz.isAgg189
  z39 := Tryz.sizeOf189
  v39 := Tryz.zeroValue189
  t45 := Tryz.underlying205
  a45 := Tryz.isAgg205
  z45 := Tryz.sizeOf205
  v45 := Tryz.zeroValue205
  t46 := Tryz.underlying206
  a46 := Tryz.isAgg206
  z46 := Tryz.sizeOf206
  v46 := Tryz.zeroValue206
  t50 := Tryz.underlying194
  a50 := Tryz.isAgg194
  z50 := Tryz.sizeOf194
  v50 := Tryz.zeroValue194
  t53 := Tryz.underlying212
  a53 := Tryz.isAgg212
  z53 := Tryz.sizeOf212
  v53 := Tryz.zeroValue212
  t55 := Tryz.underlying214
  a55 := Tryz.isAgg214
  z55 := Tryz.sizeOf214
  v55 := Tryz.zeroValue214
  t66 := Tryz.underlying233
  a66 := Tryz.isAgg233
  z66 := Tryz.sizeOf233
  v66 := Tryz.zeroValue233
  t70 := Tryz.underlying237
  a70 := Tryz.isAgg237
  z70 := Tryz.sizeOf237
  v70 := Tryz.zeroValue237
  t76 := Tryz.underlying246
  a76 := Tryz.isAgg246
  z76 := Tryz.sizeOf246
  v76 := Tryz.zeroValue246
  t77 := Tryz.underlying105
  a77 := Tryz.isAgg105
  z77 := Tryz.sizeOf105
  v77 := Tryz.zeroValue105 }
end Go.Proofs.YtijcclpnkfmpnaaGreat
/- The contracts of heap.Move and of package move's Step. -/
namespace Go.Proofs.YtijcclpnkfmpnaaGreat
open Go.RowKit Go.Sort Go.Shelf Go.Lib

theorem HpM.rowB {w0 w w' : World} {F F' : Nat → Prop} {h : Nat} {l' : Bytes} (hm : HpM w0 w w' F F' h l') {g cap : Nat} {b : Bytes} (hr : Row w 5 g cap b) (hn : ¬ F g) : Row w' 5 g cap b ∧ ¬ F' g :=
  ⟨hr.block (hm.kp.block _ hr.lt hn), fun hk => by rcases hm.nw _ hk with h | h; exact hn h; have := hr.lt; omega⟩
/-- the closure of Step -/
theorem closeM (x y : Ent) (W : World) : Calls Tryz.prog 92 #[.agg #[.int .i64 x.1, .int .i64 (rAt x.2), .int .i64 (rLen x.2), .int .i64 (rTag x.2)], .agg #[.int .i64 y.1, .int .i64 (rAt y.2), .int .i64 (rLen y.2), .int .i64 (rTag y.2)]] W fun e w' => e = .returned (.int .i64 (cmpM x y)) ∧ ∃ q os', w' = grow (W.drewN q) os' := by
  have hcon := fun W' => compare_any (rAt x.2 : Int) (rAt y.2 : Int) W'
  have HC := Hidden.mk hcon
  have HX : Hidden (cmpM x y = Lib.compareInt (rAt x.2 : Int) (rAt y.2 : Int)) := ⟨rfl⟩
  clear hcon
  rw [HX.out]
  generalize Lib.compareInt (rAt x.2 : Int) (rAt y.2 : Int) = r at *
  generalize (rAt x.2 : Int) = xa at *
  generalize (rLen x.2 : Int) = xl at *
  generalize (rTag x.2) = xt at *
  generalize (rAt y.2 : Int) = ya at *
  generalize (rLen y.2 : Int) = yl at *
  generalize (rTag y.2) = yt at *
  go_enter Tryz.func92, Tryz.ntmps92
  go_wp2_with (go_at_call 93; refine (HC.out _).mono ?_; rintro e w' ⟨rfl, rfl⟩)
  go_ret
  exact ⟨rfl, 0, _, by rw [alloc_eq_grow, alloc_eq_grow, grow_grow]; rfl⟩
theorem sortN_any (w : World) (base n : Nat) (v : Value) (L : List Ent) (hn : L.length = n) (hl : n ≤ 1000) (hown : w.ownsRow base 85 4 v n (L.flatMap ecells)) :
    Calls Tryz.prog 91 #[v, .func (.func 92) #[] #[]] w fun e w' => e = .returned (.tuple #[]) ∧ w'.ownsRow base 85 4 v n ((pdqL cmpM L).flatMap ecells) ∧ w.grownBy w' v.ownBlock := by
  rcases hown.2 with ⟨rfl, h0⟩ | ⟨g, cap, cur, rfl, hb, hh, _⟩
  · have hL : L = [] := List.eq_nil_of_length_eq_zero (by omega)
    subst hL h0
    have hs : pdqL cmpM [] = [] := List.Perm.eq_nil (pdqL_perm cmpM swoM []).1
    have hc := AnyF.slices_SortFunc_none layE none 0 (.func (.func 92) #[] #[]) w
    change Calls Tryz.prog 91 _ _ _ at hc
    refine hc.mono ?_
    rintro e w' ⟨rfl, rfl⟩
    exact ⟨rfl, by rw [hs]; exact hown, World.grownBy.refl _ _⟩
  · have eg : ∀ args w, (callFunc 92 args).run Tryz.prog w = .ok (.enter 92 args) w := enters_of Tryz.func92 (by kernel_rfl) rfl
    have hcon := AnyQ.slices_SortFunc_eq layE 4 Tryz.isAgg85 Tryz.sizeOf85 ecells (fun _ => rfl) (fun x v hv => by simp [ecells] at hv; rcases hv with rfl | rfl | rfl | rfl <;> rfl) cmpM swoM 92 #[] g 0 cap L.toArray w eg
      (fun _ _ _ _ x y => closeM x y _) (holdsK_own (k := 4) (enc := ecells) (fun _ => rfl) (by decide) hown) (Array.getElem?_eq_some_iff.1 hh).1 (by simp only [List.size_toArray]; omega)
    change Calls Tryz.prog 91 _ _ _ at hcon
    have hsz : L.toArray.size = n := by simpa using hn
    rw [hsz] at hcon
    refine hcon.mono ?_
    rintro e w' ⟨rfl, m, os, rfl⟩
    have hds : (pdq (ltOf cmpM) L.toArray 0 n (Lib.bitLen n) true true).size = n := by
      have := (pdqL_perm cmpM swoM L).1.length_eq
      unfold pdqL at this
      rw [Array.length_toList, hn] at this
      exact this
    have h2 := own_sortedK (k := 4) (m := m) (os := os) (enc := ecells) (fun _ => rfl) (by decide) hds hown
    refine ⟨rfl, ?_, h2.2⟩
    have he : pdqL cmpM L = (pdq (ltOf cmpM) L.toArray 0 n (Lib.bitLen n) true true).toList := by unfold pdqL; rw [hn]
    rw [he]
    exact h2.1
section
variable {w0 w : World} {F : Nat → Prop} {h : Nat} {l : Bytes}
set_option maxRecDepth 100000 in
theorem hmove_ok (k a : Nat) (hp : Hp w0 w F h l) (hg : Good l) (hk : k < 40) (hh : hasE (rawE l k) = true) (ha : 288 ≤ a) (ha1 : a < rAt (rawE l k)) :
    Calls Tryz.prog 94 #[.pointer (some ⟨h, 0, none⟩), .agg #[.int .i64 ((k : Int) + 1), .int .i64 (rAt (rawE l k)), .int .i64 (rLen (rawE l k)), .int .i64 (rTag (rawE l k))], .int .i64 (a : Int)] w fun e w' => e = .returned .nilIface ∧ ∃ F', HpM w0 w w' F F' h (moveL l k a) := by
  have hb := hg.bd
  have hs := strayE_false (hg.s.fit k hk hh)
  obtain ⟨g, cap, c0, -, hcap, -, hrow, hF⟩ := hp.head
  have hbl : ((l.drop (rAt (rawE l k))).take (rLen (rawE l k))).length = rLen (rawE l k) := by simp; omega
  have hcut := hrow.rd.cut (rAt (rawE l k)) (rLen (rawE l k)) (by omega)
  rw [Option.map_some, Addr.add_lit, Nat.zero_add] at hcut
  have hPT : putEnt l ((k : Int) + 1) (a : Int) (rLen (rawE l k)) (rTag (rawE l k)) = splice l (5 * k) (entB a (rLen (rawE l k)) (rTag (rawE l k)).toNat) := by unfold putEnt; rw [entO_k]; rfl
  have hpl : (putEnt l ((k : Int) + 1) (a : Int) (rLen (rawE l k)) (rTag (rawE l k))).length = l.length := putEnt_len l _ _ _ _ (by omega) (by omega) (by omega)
  have hML : moveL l k a = splice (putEnt l ((k : Int) + 1) (a : Int) (rLen (rawE l k)) (rTag (rawE l k))) a ((l.drop (rAt (rawE l k))).take (rLen (rawE l k))) := by rw [hPT]; rfl
  have HPUT := Hidden.mk (fun (W : World) (hW : Hp w0 W F h l) => hput_ok ((k : Int) + 1) (a : Int) (rLen (rawE l k)) (rTag (rawE l k)) hW (handleB_true.2 (by omega)) (tagB_true.2 (by omega)) (lenB_true.2 (by omega)) (withinB_true.2 (by omega)))
  rw [hML]
  have HPL := Hidden.mk hpl
  have HP := Hidden.mk hp
  have HBD : Hidden (a + rLen (rawE l k) ≤ l.length ∧ rAt (rawE l k) + rLen (rawE l k) ≤ l.length ∧ l.length ≤ 6400 ∧ 1 ≤ rLen (rawE l k)) := ⟨by omega⟩
  generalize putEnt l ((k : Int) + 1) (a : Int) (rLen (rawE l k)) (rTag (rawE l k)) = l1 at *
  generalize rTag (rawE l k) = tg at *
  generalize rLen (rawE l k) = m at *
  generalize rAt (rawE l k) = ea at *
  generalize (l.drop ea).take m = body at *
  generalize (k : Int) + 1 = x at *
  have HBL := Hidden.mk hbl
  have HCUT := Hidden.mk hcut
  have hal := (Below.refl w.heap.size w).alloc (Nat.le_refl _) (.cells #[.int .i64 x, .int .i64 (ea : Int), .int .i64 (m : Int), .int .i64 tg] 85)
  have hf := fourAt_one w x (ea : Int) (m : Int) tg 85
  have hbk := heap_alloc_new w (.cells #[.int .i64 x, .int .i64 (ea : Int), .int .i64 (m : Int), .int .i64 tg] 85)
  have HOF := Hidden.mk (hof_any (h := h) g cap ea m x tg (w.alloc (.cells #[.int .i64 x, .int .i64 (ea : Int), .int .i64 (m : Int), .int .i64 tg] 85)) ⟨_, (hal.cell (p := ⟨h, 0, none⟩) (block_lt_of_cell c0)).trans c0⟩ (by omega) (by omega) (by omega))
  have HAL := Hidden.mk hal
  have HF4 := Hidden.mk hf
  have HBK := Hidden.mk hbk
  obtain ⟨f0, f1, f2, f3⟩ := hf
  have hcw := hrow.le.2
  clear hp hg hb hs hh ha ha1 hrow hbl hcut hPT hpl hML hal hbk c0 hk
  go_enter Tryz.func94, Tryz.ntmps94
  go_wp2_with fail
  generalize w.alloc (.cells #[.int .i64 x, .int .i64 (ea : Int), .int .i64 (m : Int), .int .i64 tg] 85) = w1 at *
  refine HOF.out.mono ?_
  rintro e w2 ⟨rfl, hb2⟩
  have HB2 := Hidden.mk (HAL.out.trans (hb2.mono HAL.out.size))
  have HK2 := Hidden.mk ((hb2.block _ (block_lt_of_cell f0)).trans HBK.out)
  have HCL := Hidden.mk (clone_some ⟨g, ea, none⟩ m (cap - ea) body w2 HBL.out (by have := HBD.out; omega) (HCUT.out.below HB2.out))
  clear hb2 HOF f0 f1 f2 f3 HAL HF4 HBK
  go_wp2_with fail
  refine HCL.out.mono ?_
  rintro e w3 ⟨gB, cB, rfl, hgB, hrowB, hb3⟩
  have HB3 := Hidden.mk (HB2.out.trans (hb3.mono HB2.out.size))
  have hlt2 : w.heap.size < w2.heap.size := (Array.getElem?_eq_some_iff.1 HK2.out).1
  have hk3 := (hb3.block _ hlt2).trans HK2.out
  have hfz : w3.frozen? ⟨w.heap.size, 1, none⟩ = false := frozen_of_row _ _ 1 _ _ hk3
  have f0 : w3.cell? ⟨w.heap.size, 0, none⟩ = some (.int .i64 x) := by simp [World.cell?, hk3]
  have f1 : w3.cell? ⟨w.heap.size, 1, none⟩ = some (.int .i64 (ea : Int)) := by simp [World.cell?, hk3]
  have hk4 := heap_setK (k := 1) hk3 (.int .i64 (a : Int))
  have hrB4 := hrowB.block (Below.heap_setCell w3 ⟨w.heap.size, 1, none⟩ (.int .i64 (a : Int)) _ (show gB ≠ w.heap.size by omega))
  have HB4 := Hidden.mk (HB3.out.setCell (p := ⟨w.heap.size, 1, none⟩) (Nat.le_refl _) (.int .i64 (a : Int)))
  have hn4 : ¬ F gB := fun hk => by have := HP.out.flt _ hk; have := HB2.out.size; omega
  clear hlt2 hb3 HCL HK2 HCUT hgB hrowB
  have HP4 := Hidden.mk (HP.out.below HB4.out)
  have HRB := Hidden.mk hrB4
  have HN4 := Hidden.mk hn4
  clear hrB4 hn4
  go_upto_region 3 with (fail)
  generalize w3.setCell ⟨w.heap.size, 1, none⟩ (.int .i64 (a : Int)) = w4 at *
  have g0 : w4.cell? ⟨w.heap.size, 0, none⟩ = some (.int .i64 x) := by simp [World.cell?, hk4]
  have g1 : w4.cell? ⟨w.heap.size, 1, none⟩ = some (.int .i64 (a : Int)) := by simp [World.cell?, hk4]
  have g2 : w4.cell? ⟨w.heap.size, 2, none⟩ = some (.int .i64 (m : Int)) := by simp [World.cell?, hk4]
  have g3 : w4.cell? ⟨w.heap.size, 3, none⟩ = some (.int .i64 tg) := by simp [World.cell?, hk4]
  have HK4 := Hidden.mk hk4
  clear hk3 hfz f0 f1 hk4
  go_wp2_with fail
  refine (HPUT.out _ HP4.out).mono ?_
  rintro e w5 ⟨rfl, F5, hm5⟩
  have hno : ¬ F w.heap.size := fun hk => by have := HP.out.flt _ hk; omega
  have hk5 := (hm5.kp.block _ (Array.getElem?_eq_some_iff.1 HK4.out).1 hno).trans HK4.out
  have j0 : w5.cell? ⟨w.heap.size, 0, none⟩ = some (.int .i64 x) := by simp [World.cell?, hk5]
  have j1 : w5.cell? ⟨w.heap.size, 1, none⟩ = some (.int .i64 (a : Int)) := by simp [World.cell?, hk5]
  have j2 : w5.cell? ⟨w.heap.size, 2, none⟩ = some (.int .i64 (m : Int)) := by simp [World.cell?, hk5]
  have j3 : w5.cell? ⟨w.heap.size, 3, none⟩ = some (.int .i64 tg) := by simp [World.cell?, hk5]
  have HRB5 := Hidden.mk (hm5.rowB HRB.out HN4.out).1
  obtain ⟨gi, ci, cur5, y0, -, -, hci, -, -, -, -⟩ := hm5.hp.rowW
  rw [HPL.out] at y0 hci
  have HOF := Hidden.mk (hof_any (h := h) gi ci a m x tg w5 ⟨_, y0⟩ (by have := HBD.out; omega) (by have := HBD.out; omega) (by have := HBD.out; omega))
  have HM := Hidden.mk ((HP.out.same HB4.out).trans hm5)
  have HY0 := Hidden.mk y0
  clear g0 g1 g2 g3 hno hk5 hm5 y0 HPUT HK4 HRB HN4 HP4
  go_wp2_with fail
  refine HOF.out.mono ?_
  rintro e w6 ⟨rfl, hb6⟩
  have hm6 := HM.out.trans (HM.out.hp.same hb6)
  obtain ⟨g6, c6, cur6, z0, z1, z2, z3, -, -, -, z4⟩ := hm6.hp.rowW
  have hyz := ((hb6.cell (p := ⟨h, 0, none⟩) (block_lt_of_cell HY0.out)).trans HY0.out).symm.trans z0
  have hyz := Option.some.inj hyz
  injection hyz with q1 q2 q3
  injection q1 with q1
  injection q1 with q1
  subst q1 q3
  rw [HPL.out] at z3
  have hrb6 := HRB5.out.below hb6 HRB5.out.lt
  have hcp := fun ty => run_copy_rd w6 gi a m (ci - a) m cB m (some ⟨gB, 0, none⟩) body cur6 _ z1 HBL.out hrb6.rd (by simp) (by have := HBD.out; omega) ty
  have HFIN : Hidden (HpM w0 w (w6.setRow gi (setB cur6 a ((body.take m).map bv))) F F5 h (splice l1 a body)) := ⟨by
    have hbt : body.take m = body := List.take_of_length_le (by rw [HBL.out]; exact Nat.le_refl _)
    rw [hbt]
    have := z4 a body (by rw [HPL.out, HBL.out]; have := HBD.out; omega)
    exact hm6.trans ⟨this.1, this.2, fun k hk => .inl hk⟩⟩
  clear z0 z1 z2 z3 z4 hm6 hb6 HOF HM HY0 q2 hrb6 HRB5 j0 j1 j2 j3
  go_wp2_with fail
  go_ret
  exact ⟨rfl, F5, by have hF := HFIN.out; rw [List.map_take] at hF; exact hF⟩
end
end Go.Proofs.YtijcclpnkfmpnaaGreat
/- Package move: Step, All, Gain; stat.Heap. -/
namespace Go.Proofs.YtijcclpnkfmpnaaGreat
open Go.RowKit Go.Sort Go.Shelf Go.Lib

/-- is there a step; the image behind it -/
def stepB (l : Bytes) : Bool := (gapM 288 (sortM l)).isSome
def stepL (l : Bytes) : Bytes := match gapM 288 (sortM l) with
  | some (e, a) => moveL l (e.1 - 1).toNat a
  | none => l
theorem stepL_some {l : Bytes} {e : Ent} {a : Nat} (h : gapM 288 (sortM l) = some (e, a)) : stepL l = moveL l (e.1 - 1).toNat a := by unfold stepL; rw [h]
theorem stepL_none {l : Bytes} (h : gapM 288 (sortM l) = none) : stepL l = l := by unfold stepL; rw [h]
theorem gapM_ge : ∀ {S : List Ent} {b n : Nat} {e : Ent} {a : Nat}, TidyM b S n → gapM b S = some (e, a) → b ≤ a ∧ a < rAt e.2 ∧ e ∈ S
  | [], _, _, _, _, _, h => by cases h
  | x :: r, b, n, e, a, ⟨t1, t2, t3⟩, h => by
    unfold gapM at h
    by_cases hc : b < rAt x.2
    · rw [if_pos hc] at h
      have h' := Option.some.inj h
      injection h' with h3 h4
      subst h3 h4
      exact ⟨Nat.le_refl _, hc, List.mem_cons_self ..⟩
    · rw [if_neg hc] at h
      obtain ⟨g1, g2, g3⟩ := gapM_ge t3 h
      exact ⟨by omega, g2, List.mem_cons_of_mem _ g3⟩
section
variable {w0 w : World} {F : Nat → Prop} {h : Nat} {l : Bytes}
set_option maxRecDepth 100000 in
theorem mstep_any (hp : Hp w0 w F h l) (hg : Good l) :
    Calls Tryz.prog 56 #[.pointer (some ⟨h, 0, none⟩)] w fun e w' => e = .returned (.tuple #[.bool (stepB l), .nilIface]) ∧ ∃ F', HpM w0 w w' F F' h (stepL l) := by
  have hl40 : (entriesL l).length ≤ 40 := entsL_len _ _ 40
  have HC := Hidden.mk (hentries_any hp)
  have HP := Hidden.mk hp
  have htd := tidy_sortM hg
  have HSLN : Hidden ((sortM l).length = (entriesL l).length) := ⟨(sortM_perm l).length_eq⟩
  have HSB : Hidden (∀ e ∈ sortM l, rAt e.2 ≤ 6400 ∧ rLen e.2 ≤ 6400) := ⟨fun e he => by have := tidyM_mem htd e he; have := hg.bd; omega⟩
  have HSORT : Hidden (∀ W v, W.ownsRow w.heap.size 85 4 v (entriesL l).length ((entriesL l).flatMap ecells) → Calls Tryz.prog 91 #[v, .func (.func 92) #[] #[]] W fun e w' => e = .returned (.tuple #[]) ∧ w'.ownsRow w.heap.size 85 4 v (entriesL l).length ((sortM l).flatMap ecells) ∧ W.grownBy w' v.ownBlock) := ⟨fun W v hown => sortN_any W w.heap.size _ v (entriesL l) rfl (by omega) hown⟩
  have HMV : Hidden (∀ (W : World) (e : Ent) (a : Nat), Hp w0 W F h l → gapM 288 (sortM l) = some (e, a) → Calls Tryz.prog 94 #[.pointer (some ⟨h, 0, none⟩), .agg #[.int .i64 e.1, .int .i64 (rAt e.2), .int .i64 (rLen e.2), .int .i64 (rTag e.2)], .int .i64 (a : Int)] W fun e w' => e = .returned .nilIface ∧ ∃ F', HpM w0 W w' F F' h (stepL l)) := ⟨fun W e a hW hgap => by
    obtain ⟨g1, g2, g3⟩ := gapM_ge htd hgap
    obtain ⟨k, hk, hh, rfl⟩ := entL_mem.1 ((sortM_perm l).mem_iff.1 g3)
    rw [stepL_some hgap, show ((((k : Int) + 1, rawE l k) : Ent).1 - 1).toNat = k by dsimp only; omega]
    exact hmove_ok k a hW hg hk hh g1 g2⟩
  have HNO : Hidden (gapM 288 (sortM l) = none → stepL l = l) := ⟨stepL_none⟩
  have HB : Hidden (stepB l = (gapM 288 (sortM l)).isSome) := ⟨rfl⟩
  generalize stepL l = l' at *
  generalize stepB l = sb at *
  generalize sortM l = T at *
  generalize entriesL l = E at *
  generalize hm : E.length = m at *
  have HM := Hidden.mk hm
  clear hp hg htd hm
  go_enter Tryz.func56, Tryz.ntmps56
  go_wp2_with fail
  refine HC.out.mono ?_
  rintro e w1 ⟨v1, rfl, hown1, hb1⟩
  have HO1 := Hidden.mk (And.intro hown1 hb1)
  clear hown1 hb1 HC
  go_wp2_with fail
  refine (HSORT.out _ _ HO1.out.1).mono ?_
  rintro e w2 ⟨rfl, hown2, hg2⟩
  have hb2 : Below w.heap.size w w2 := HO1.out.2.grown hg2 HO1.out.2.size (fun q hq => (HO1.out.1.lt q hq).1)
  obtain ⟨A2, c2, rfl, hc2, -⟩ := own_split hown2
  have HRX := Hidden.mk (own_rdX3 (f := ecells) (fun _ => rfl) HSLN.out hown2)
  have HB2 := Hidden.mk hb2
  clear hown2 hb2 hg2 HO1 HSORT
  go_wp2_with fail
  go_loopg [5, 14] m (fun q av i wr => ∃ (k a : Nat), k ≤ m ∧ q = m - k ∧ i = .int .i64 (k : Int) ∧ av = .int .i64 (a : Int) ∧ a ≤ 12800 ∧ Hidden (gapM 288 T = gapM a (T.drop k) ∧ Below w2.heap.size w2 wr))
  case atStart => exact ⟨0, 288, by omega, rfl, rfl, rfl, by omega, ⟨by rw [List.drop_zero], Below.refl _ _⟩⟩
  case round =>
    obtain ⟨k, a, hk, rfl, rfl, rfl, ha, hst⟩ := hrel
    by_cases hlt : k < m
    · have hkT : k < T.length := by rw [HSLN.out]; exact hlt
      obtain ⟨pp, oo, rfl, hcx⟩ := (HRX.out.below hst.out.2) k hkT
      have x0 := hcx 0 _ rfl
      have x1 := hcx 1 _ rfl
      have x2 := hcx 2 _ rfl
      have x3 := hcx 3 _ rfl
      rw [Nat.add_zero] at x0
      have HG : Hidden (gapM 288 T = if a < rAt T[k].2 then some (T[k], a) else gapM (rAt T[k].2 + rLen T[k].2) (T.drop (k + 1))) := ⟨by rw [hst.out.1, List.drop_eq_getElem_cons hkT]; rfl⟩
      have hbd := HSB.out T[k] (List.getElem_mem hkT)
      have HMVK : Hidden (∀ W : World, Hp w0 W F h l → gapM 288 T = some (T[k], a) → Calls Tryz.prog 94 #[.pointer (some ⟨h, 0, none⟩), .agg #[.int .i64 T[k].1, .int .i64 (rAt T[k].2), .int .i64 (rLen T[k].2), .int .i64 (rTag T[k].2)], .int .i64 (a : Int)] W fun e w' => e = .returned .nilIface ∧ ∃ F', HpM w0 W w' F F' h l') := ⟨fun W hW hgap => HMV.out W _ a hW hgap⟩
      generalize T[k] = e at *
      have HSM : Hidden (gapM 288 T = some (e, a) → sb = true) := ⟨fun hh => by rw [HB.out, hh]; rfl⟩
      generalize some (e, a) = se at *
      generalize e.1 = e0 at *
      generalize rAt e.2 = e1 at *
      generalize rLen e.2 = e2 at *
      generalize rTag e.2 = e3 at *
      have i0 : (0 : Int) ≤ k := by omega
      have i1 : (k : Int) < m := by omega
      have s1 : IntKind.i64.wrap ((e1 : Int) + e2) = (e1 : Int) + e2 := IntWalk.i64_in _ (by omega)
      have s3 : IntKind.i64.wrap ((k : Int) + 1) = (k : Int) + 1 := IntWalk.i64_in _ (by omega)
      have hal : Below wr.heap.size wr (wr.alloc (.cells #[.int .i64 e0, .int .i64 e1, .int .i64 e2, .int .i64 e3] 85)) := (Below.refl _ _).alloc (Nat.le_refl _) _
      have HN := Hidden.mk (hst.out.2.trans (hal.mono hst.out.2.size))
      clear hcx hal hst
      by_cases hc : a < e1
      · have d1 : decide ((a : Int) < e1) = true := by simp; omega
        have d1' : decide (a < e1) = true := by simpa using hc
        have hgs : gapM 288 T = se := by rw [HG.out, if_pos hc]
        have hsb := HSM.out hgs
        subst hsb
        have hbw := HB2.out.trans (HN.out.mono HB2.out.size)
        have HCM := Hidden.mk (HMVK.out _ (HP.out.below hbw) hgs)
        have HBW := Hidden.mk (HP.out.same hbw)
        clear hgs hbw HSM HMVK HG hc
        go_wp2_with fail
        refine HCM.out.mono ?_
        rintro e w9 ⟨rfl, F', hm9⟩
        have HF := Hidden.mk (HBW.out.trans hm9)
        clear hm9 HCM
        go_wp2_with fail
        go_ret2
        exact ⟨rfl, F', HF.out⟩
      · have d1 : decide ((a : Int) < e1) = false := by simp; omega
        have d1' : decide (a < e1) = false := by simpa using hc
        have hgs : Hidden (gapM 288 T = gapM (e1 + e2) (T.drop (k + 1))) := ⟨by rw [HG.out, if_neg hc]⟩
        clear HSM HMVK HG hc
        go_wp2_with fail
        go_roundg (m - (k + 1))
        case measure => omega
        case rel => exact ⟨k + 1, e1 + e2, by omega, rfl, by go_num, by go_num, by omega, ⟨hgs.out, HN.out⟩⟩
    · obtain rfl : k = m := by omega
      have hgn : gapM 288 T = none := by rw [hst.out.1, List.drop_eq_nil_of_le (by rw [HSLN.out]; exact Nat.le_refl _)]; rfl
      have hsb : sb = false := by rw [HB.out, hgn]; rfl
      have hll := HNO.out hgn
      subst hsb hll
      have HF := Hidden.mk (HP.out.same (HB2.out.trans (hst.out.2.mono HB2.out.size)))
      clear hst hgn
      go_wp2_with fail
      go_ret2
      exact ⟨rfl, F, HF.out⟩
end
end Go.Proofs.YtijcclpnkfmpnaaGreat
/- Package move: All, Gain; stat.Heap. -/
namespace Go.Proofs.YtijcclpnkfmpnaaGreat
open Go.RowKit

/-- what moving leaves as it was -/
structure MovedR (l l' : Bytes) : Prop where
  good : Good l'
  len : l'.length = l.length
  obj : ∀ j, j < 40 → objT l' j = objT l j ∧ objS l' j = objS l j
  roots : rootsL l' = rootsL l
  rots : ∀ i, i < 8 → rawR l' i = rawR l i
  many : (takenL l').length = (takenL l).length
  sum : sumX (takenL l') = sumX (takenL l)
  has : ∀ j, j < 40 → hasE (rawE l' j) = hasE (rawE l j)
theorem MovedR.refl {l : Bytes} (hg : Good l) : MovedR l l := ⟨hg, rfl, fun _ _ => ⟨rfl, rfl⟩, rfl, fun _ _ => rfl, rfl, rfl, fun _ _ => rfl⟩
theorem MovedR.trans {l l' l'' : Bytes} (a : MovedR l l') (b : MovedR l' l'') : MovedR l l'' :=
  ⟨b.good, b.len.trans a.len, fun j hj => ⟨(b.obj j hj).1.trans (a.obj j hj).1, (b.obj j hj).2.trans (a.obj j hj).2⟩, b.roots.trans a.roots, fun i hi => (b.rots i hi).trans (a.rots i hi), b.many.trans a.many, b.sum.trans a.sum, fun j hj => (b.has j hj).trans (a.has j hj)⟩
theorem MoveIs.moved {l l' : Bytes} {k a : Nat} (h : MoveIs l l' k a) (hg : Good l) : MovedR l l' := by
  obtain ⟨t1, t2⟩ := h.taken hg
  refine ⟨h.good hg, h.len, fun j hj => h.keep hg hj, h.roots, h.rots, t1, t2, fun j hj => ?_⟩
  by_cases e : j = k
  · rw [e, (h.ent hg).1, h.has]
  · rw [h.ents j hj, if_neg e]
theorem step_moved {l : Bytes} (hg : Good l) : MovedR l (stepL l) ∧ (stepB l = true → packM 288 (sortM (stepL l)) < packM 288 (sortM l)) ∧ (stepB l = false → stepL l = l ∧ gapM 288 (sortM l) = none) := by
  cases hgap : gapM 288 (sortM l) with
  | none => exact ⟨by rw [stepL_none hgap]; exact MovedR.refl hg, fun h => (by unfold stepB at h; rw [hgap] at h; cases h), fun _ => ⟨stepL_none hgap, rfl⟩⟩
  | some p =>
    obtain ⟨e, a⟩ := p
    obtain ⟨k, he, hM, hp⟩ := step_is hg hgap
    have hk : (e.1 - 1).toNat = k := by rw [he]; dsimp only; omega
    have hs := stepL_some hgap
    rw [hk] at hs
    exact ⟨by rw [hs]; exact hM.moved hg, fun _ => (by rw [hs]; exact hp), fun h => (by unfold stepB at h; rw [hgap] at h; cases h)⟩
/-- step by step -/
def allF : Nat → Bytes → Nat × Bytes
  | 0, l => (0, l)
  | f + 1, l => if stepB l = true then ((allF f (stepL l)).1 + 1, (allF f (stepL l)).2) else (0, l)
def allN (l : Bytes) : Nat := (allF 40 l).1
def allL (l : Bytes) : Bytes := (allF 40 l).2
theorem pack40 (l : Bytes) : packM 288 (sortM l) ≤ 40 := Nat.le_trans (packM_le _ _) (by rw [(sortM_perm l).length_eq]; exact entsL_len _ _ 40)
theorem allF_done : ∀ (f : Nat) (l : Bytes), Good l → packM 288 (sortM l) ≤ f → MovedR l (allF f l).2 ∧ gapM 288 (sortM (allF f l).2) = none ∧ (allF f l).1 ≤ f
  | 0, l, hg, h => ⟨MovedR.refl hg, packM_zero (Nat.le_zero.1 h), Nat.le_refl _⟩
  | f + 1, l, hg, h => by
    obtain ⟨h1, h2, h3⟩ := step_moved hg
    unfold allF
    cases hs : stepB l with
    | true =>
      have := h2 hs
      obtain ⟨i1, i2, i3⟩ := allF_done f (stepL l) h1.good (by omega)
      simp only [if_true]
      exact ⟨h1.trans i1, i2, by omega⟩
    | false =>
      simp only [Bool.false_eq_true, if_false]
      exact ⟨MovedR.refl hg, (h3 hs).2, by omega⟩
theorem all_done {l : Bytes} (hg : Good l) : MovedR l (allL l) ∧ gapM 288 (sortM (allL l)) = none ∧ allN l ≤ 40 := allF_done 40 l hg (pack40 l)
section
variable {w0 w : World} {F : Nat → Prop} {h : Nat} {l : Bytes}
set_option maxRecDepth 100000 in
theorem mall_any (hp : Hp w0 w F h l) (hg : Good l) :
    Calls Tryz.prog 17 #[.pointer (some ⟨h, 0, none⟩)] w fun e w' => e = .returned (.tuple #[.int .i64 (allN l : Int), .nilIface]) ∧ ∃ F', HpM w0 w w' F F' h (allL l) := by
  have HP : Hidden (HpM w0 w w F F h l ∧ Good l ∧ packM 288 (sortM l) ≤ 40 ∧ (allN l, allL l) = (0 + (allF 40 l).1, (allF 40 l).2)) := ⟨hp.same (Below.refl _ _), hg, pack40 l, by rw [Nat.zero_add]; rfl⟩
  clear hp hg
  generalize allN l = an at *
  generalize allL l = al at *
  go_enter Tryz.func17, Tryz.ntmps17
  go_wp2_with fail
  go_loopg [4] 41 (fun q nv wr => ∃ (n f : Nat) (F' : Nat → Prop) (l' : Bytes), n + f = 40 ∧ q = f + 1 ∧ nv = .int .i64 (n : Int) ∧ Hidden (HpM w0 w wr F F' h l' ∧ Good l' ∧ packM 288 (sortM l') ≤ f ∧ (an, al) = (n + (allF f l').1, (allF f l').2)))
  case atStart => exact ⟨0, 40, F, l, rfl, rfl, rfl, HP⟩
  case round =>
    obtain ⟨n, f, F', l', hnf, rfl, rfl, hst⟩ := hrel
    have HST := Hidden.mk hst.out
    have HC := Hidden.mk (mstep_any hst.out.1.hp hst.out.2.1)
    have hbf : f = 0 → stepB l' = false := fun h0 => by
      have hgn := packM_zero (a := 288) (S := sortM l') (by have := hst.out.2.2.1; omega)
      unfold stepB; rw [hgn]; rfl
    have HBF := Hidden.mk hbf
    have HSM := Hidden.mk (step_moved hst.out.2.1)
    have HAF : Hidden (∀ g, f = g + 1 → allF f l' = if stepB l' = true then ((allF g (stepL l')).1 + 1, (allF g (stepL l')).2) else (0, l')) := ⟨fun g hg => by rw [hg]; rfl⟩
    have HAZ : Hidden (f = 0 → allF f l' = (0, l')) := ⟨fun hg => by rw [hg]; rfl⟩
    have s1 : IntKind.i64.wrap ((n : Int) + 1) = (n : Int) + 1 := IntWalk.i64_in _ (by omega)
    clear hst hbf HP
    cases hb : stepB l' with
    | true =>
      rw [hb] at HC
      have hf : f ≠ 0 := fun h0 => by have := HBF.out h0; rw [hb] at this; cases this
      obtain ⟨g, rfl⟩ : ∃ g, f = g + 1 := ⟨f - 1, by omega⟩
      have HA1 := Hidden.mk (HAF.out g rfl)
      rw [hb, if_pos rfl] at HA1
      have hlt := HSM.out.2.1 hb
      have HN : Hidden (Good (stepL l') ∧ packM 288 (sortM (stepL l')) ≤ g ∧ (an, al) = (n + 1 + (allF g (stepL l')).1, (allF g (stepL l')).2)) := ⟨HSM.out.1.good, by have := HST.out.2.2.1; omega, by rw [HST.out.2.2.2, HA1.out]; simp; omega⟩
      clear hlt HAF HAZ HBF HSM HA1 hb hf
      generalize stepL l' = l2 at *
      go_wp2_with fail
      refine HC.out.mono ?_
      rintro e w5 ⟨rfl, F5, hm⟩
      have HM := Hidden.mk (HST.out.1.trans hm)
      clear hm HC HST
      go_wp2_with fail
      go_roundg (g + 1)
      case measure => omega
      case rel => exact ⟨n + 1, g, F5, l2, by omega, rfl, by go_num, ⟨HM.out, HN.out⟩⟩
    | false =>
      rw [hb] at HC
      have hsl := (HSM.out.2.2 hb).1
      rw [hsl] at HC
      have HE : Hidden ((an, al) = (n, l')) := ⟨by
        have h1 := HST.out.2.2.2
        rw [h1]
        by_cases h0 : f = 0
        · rw [HAZ.out h0]; rfl
        · rw [HAF.out (f - 1) (by omega), hb]; rfl⟩
      have he1 : an = n := congrArg Prod.fst HE.out
      have he2 : al = l' := congrArg Prod.snd HE.out
      subst he1 he2
      clear HAF HAZ HBF HSM hb hsl HE
      go_wp2_with fail
      refine HC.out.mono ?_
      rintro e w5 ⟨rfl, F5, hm⟩
      have HM := Hidden.mk (HST.out.1.trans hm)
      clear hm HC HST
      go_wp2_with fail
      go_ret2
      exact ⟨rfl, F5, HM.out⟩
/-- how full a heap is -/
def statH (l : Bytes) : Value := statX ((l.length : Int) - 288) (takenL l)
theorem statH_good {l : Bytes} (hg : Good l) : statH l = statV (takenL l).length (sumX (takenL l)) ((l.length : Int) - 288 - sumX (takenL l)) (mostX (holesX ((l.length : Int) - 288) (takenL l))) (holesX ((l.length : Int) - 288) (takenL l)).length := by
  unfold statH statX; rw [if_pos (good_chk hg)]
/-- what moving would gain -/
def gainL (l : Bytes) : Int := (l.length : Int) - 288 - sumX (takenL l) - mostX (holesX ((l.length : Int) - 288) (takenL l))
end
end Go.Proofs.YtijcclpnkfmpnaaGreat
/- UndoBack: the plain law: how many bytes differ, and what an op makes of an image. -/
namespace Go.Proofs.YtijcclpnkfmpnaaGreat
open Go.RowKit

/-- how many of the first places differ -/
def cntD (a b : Bytes) : Nat → Nat
  | 0 => 0
  | k + 1 => cntD a b k + (if a[k]? = b[k]? then 0 else 1)
def toldL (L : List Chg) : Nat := (L.map fun c => c.new.length).sum
theorem toldL_succ (L : List Chg) (k : Nat) (hk : k < L.length) : toldL (L.take (k + 1)) = toldL (L.take k) + L[k].new.length := by
  unfold toldL; rw [List.take_succ_eq_append_getElem hk, List.map_append, List.sum_append]; simp
theorem cntD_run (a b : Bytes) (i : Nat) : ∀ r, (∀ p, i ≤ p → p < i + r → a[p]? ≠ b[p]?) → cntD a b (i + r) = cntD a b i + r
  | 0, _ => rfl
  | r + 1, h => by
    show cntD a b (i + r) + (if a[i + r]? = b[i + r]? then 0 else 1) = _
    rw [cntD_run a b i r (fun p h1 h2 => h p h1 (by omega)), if_neg (h (i + r) (by omega) (by omega))]; omega
theorem told_cnt (a b : Bytes) (hl : a.length = b.length) (f : Nat) : ∀ i, a.length - i ≤ f → i ≤ a.length + 1 → toldL (diffF a b f i) + cntD a b (min i a.length) = cntD a b a.length := by
  induction f with
  | zero => intro i hf _; rw [show min i a.length = a.length by omega]; simp [diffF, toldL]
  | succ f ih =>
    intro i hf hi
    simp only [diffF]
    by_cases hlt : i < a.length
    · rw [if_pos hlt]
      have hr := runAt_le a b i hl (by omega)
      have h1 := ih (i + runAt a b i + 1) (by omega) (by omega)
      have h2 := cntD_run a b i (runAt a b i) (fun p h1 h2 => runAt_ne a b i p h1 h2)
      have h3 : cntD a b (min (i + runAt a b i + 1) a.length) = cntD a b (i + runAt a b i) := by
        by_cases he : i + runAt a b i < a.length
        · rw [show min (i + runAt a b i + 1) a.length = i + runAt a b i + 1 by omega]
          show cntD a b (i + runAt a b i) + _ = _
          rw [if_pos (runAt_stop a b i hl he)]; rfl
        · rw [show min (i + runAt a b i + 1) a.length = i + runAt a b i by omega]
      rw [h3, h2] at h1
      rw [show min i a.length = i by omega]
      split
      · unfold toldL at h1 ⊢
        rw [List.map_append, List.sum_append]
        have : ((b.drop i).take (runAt a b i)).length = runAt a b i := by simp; omega
        simp only [List.map_cons, List.map_nil, List.sum_cons, List.sum_nil, this]
        omega
      · have h0 : runAt a b i = 0 := by omega
        rw [List.nil_append]; omega
    · rw [if_neg hlt, show min i a.length = a.length by omega]; simp [toldL]
theorem told_all (a b : Bytes) (hl : a.length = b.length) : toldL (diffL a b) = cntD a b a.length := by
  have := told_cnt a b hl a.length 0 (by omega) (by omega)
  rw [Nat.zero_min] at this
  exact this
theorem cntD_le (a b : Bytes) : ∀ k, cntD a b k ≤ k
  | 0 => Nat.le_refl _
  | k + 1 => by unfold cntD; have := cntD_le a b k; split <;> omega
theorem cntD_symm (a b : Bytes) : ∀ k, cntD a b k = cntD b a k
  | 0 => rfl
  | k + 1 => by
    unfold cntD; rw [cntD_symm a b k]
    by_cases h : a[k]? = b[k]?
    · rw [if_pos h, if_pos h.symm]
    · rw [if_neg h, if_neg (fun e => h e.symm)]
/-- an image that came of another by one op -/
structure StepR (l l' : Bytes) : Prop where
  good : Good l'
  len : l'.length = l.length
theorem stepR_alloc {l : Bytes} (hg : Good l) (n t : Int) : StepR l (allocL l n t) := by
  refine ⟨alloc_good hg _ _, ?_⟩
  by_cases h0 : allocE l n t = 0
  · obtain ⟨k, a, n', t', _, _, _, _, h⟩ := alloc_is hg h0
    exact h.len
  · have : allocL l n t = l := by unfold allocL; rw [if_neg h0]
    rw [this]
theorem stepR_free {l : Bytes} (hg : Good l) (x : Int) : StepR l (freeL l x) := by
  refine ⟨free_good hg _, ?_⟩
  by_cases h0 : freeE l x = 0
  · obtain ⟨k, _, h⟩ := free_is hg h0
    exact h.len
  · have : freeL l x = l := by unfold freeL; rw [if_neg h0]
    rw [this]
theorem stepR_write {l : Bytes} (hg : Good l) (x c : Int) (b : Bytes) : StepR l (writeL l x c b) := by
  refine ⟨write_good hg x c b, ?_⟩
  by_cases h : someE l x c b.length = 0
  · obtain ⟨k, o, _, _, hw⟩ := write_is hg h
    exact hw.len
  · have : writeL l x c b = l := by unfold writeL; rw [if_neg h]
    rw [this]
theorem stepR_set {l : Bytes} (hg : Good l) (s : Bytes) (x : Int) : StepR l (setL l s x) := by
  by_cases h : setE l s x = 0
  · have hs := setE_is hg h
    obtain ⟨i, hp⟩ := hs.puts
    exact ⟨hs.good, hp.len hg.bd.1⟩
  · have : setL l s x = l := by unfold setL; rw [if_neg h]
    rw [this]; exact ⟨hg, rfl⟩
theorem stepR_unset {l : Bytes} (hg : Good l) (s : Bytes) : StepR l (unL l s) := by
  refine ⟨unL_good hg, ?_⟩
  unfold unL
  split
  · rename_i h
    obtain ⟨p1, -⟩ := placeF_spec l s 8 (Nat.le_refl _)
    have hb := hg.bd
    rw [splice_len _ _ _ (by
      rw [List.length_replicate]
      rcases p1 with ⟨p1, -⟩ | ⟨i, h1, h2, h3, -⟩
      · exfalso
        unfold unE at h
        split at h
        · omega
        · rw [if_pos (by rw [p1]; decide)] at h; omega
      · rw [h3, Int.toNat_natCast]; omega)]
  · rfl
theorem stepR_moved {l l' : Bytes} (h : MovedR l l') : StepR l l' := ⟨h.good, h.len⟩
theorem StepR.refl {l : Bytes} (hg : Good l) : StepR l l := ⟨hg, rfl⟩
theorem StepR.trans {l l' l'' : Bytes} (a : StepR l l') (b : StepR l' l'') : StepR l l'' := ⟨b.good, b.len.trans a.len⟩
end Go.Proofs.YtijcclpnkfmpnaaGreat
/- vaultsame.Ints of lists that are the same. -/
namespace Go.Proofs.YtijcclpnkfmpnaaGreat
open Go.RowKit

def ncell (i : Nat) : List Value := [.int .i64 (i : Int)]
set_option maxRecDepth 100000 in
theorem sameInts_eq (A B : Option Addr) (ca cb n : Nat) (L : List Nat) (w : World) (hn : L.length = n) (hl : n ≤ 100000) (hA : RdX ncell 1 w A L) (hB : RdX ncell 1 w B L) :
    Calls Tryz.prog 19 #[.slice A n ca, .slice B n cb] w fun e w' => e = .returned (.bool true) ∧ Below w.heap.size w w' := by
  have HA := Hidden.mk hA
  have HB := Hidden.mk hB
  have HN := Hidden.mk hn
  clear hA hB hn
  go_enter Tryz.func19, Tryz.ntmps19
  go_wp2_with fail
  go_loopg [5] n (fun m i wr => ∃ j : Nat, j ≤ n ∧ m = n - j ∧ i = .int .i64 (j : Int) ∧ Hidden (Below w.heap.size w wr))
  case atStart => exact ⟨0, by omega, rfl, rfl, ⟨Below.refl _ _⟩⟩
  case round =>
    obtain ⟨j, hj, rfl, rfl, hbel⟩ := hrel
    by_cases hlt : j < n
    · have hjl : j < L.length := by rw [HN.out]; exact hlt
      have hp' := (HA.out.below hbel.out) j hjl
      obtain ⟨p, off, rfl, hp'⟩ := hp'
      have hq' := (HB.out.below hbel.out) j hjl
      obtain ⟨q, oq, rfl, hq'⟩ := hq'
      have x0 := hp' 0 _ rfl
      have y0 := hq' 0 _ rfl
      rw [Nat.add_zero, Nat.mul_one] at x0 y0
      have k0 : (0 : Int) ≤ j := by omega
      have k1 : (j : Int) < n := by omega
      have s1 : IntKind.i64.wrap ((j : Int) + 1) = (j : Int) + 1 := IntWalk.i64_in _ (by omega)
      have hse : ((L[j] : Int) == (L[j] : Int)) = true := by simp
      generalize (L[j] : Int) = b0 at *
      clear hp' hq'
      go_wp2_with fail
      go_quiet (fail)
      clear x0 y0
      have hbn := Hidden.mk (below_drewN hbel.out nq)
      go_wp2_with fail
      go_roundg (n - (j + 1))
      case measure => omega
      case rel => exact ⟨j + 1, by omega, rfl, by go_num, hbn⟩
    · obtain rfl : j = n := by omega
      go_wp2_with fail
      go_ret
      exact ⟨rfl, hbel.out⟩
theorem own_ints {w : World} {base n : Nat} {v : Value} {L : List Nat} (h : w.ownsRow base 3 1 v n (L.map fun i : Nat => .int .i64 (i : Int))) (hn : L.length = n) : ∃ A c, v = .slice A n c ∧ n ≤ c ∧ RdX ncell 1 w A L := by
  have e : (L.map fun i : Nat => Value.int .i64 (i : Int)) = L.flatMap ncell := by
    rw [List.map_eq_flatMap]; rfl
  rw [e] at h
  obtain ⟨A, c, rfl, hc, -⟩ := own_split h
  exact ⟨A, c, rfl, hc, own_rdX3 (fun _ => rfl) hn h⟩
end Go.Proofs.YtijcclpnkfmpnaaGreat
/- UndoBack: what the law keeps beside its heap. -/
namespace Go.Proofs.YtijcclpnkfmpnaaGreat
open Go.RowKit Go.Maps Go.ChangeMaps Go.Shelf

/-- the images: a block of 100 rows -/
structure UbI (w wr : World) (F : Nat → Prop) (gi last : Nat) (img : Nat → Bytes) : Prop where
  blk : ∃ cur, wr.heap[gi]? = some (.cells cur 22 (0, 0)) ∧ cur.size = 100 ∧ ∀ k, 1 ≤ k → k ≤ last → ∃ g cap, cur[k]? = some (.slice (some ⟨g, 0, none⟩) (img k).length cap) ∧ Row wr 5 g cap (img k) ∧ ¬ F g
  nf : ¬ F gi
  base : w.heap.size ≤ gi
structure UbSt (w wr : World) (F : Nat → Prop) (u h mb last : Nat) (l : Bytes) (I : Nat → Option Bytes) (img : Nat → Bytes) (gi : Nat) (M : List Nat) (mv : Value) : Prop where
  hp : Hp w wr F h l
  good : Good l
  ud : UdH w wr F u h mb last I
  il : ∀ k b, I k = some b → b = img k ∧ b.length = l.length ∧ Good b
  ib : UbI w wr F gi last img
  mo : wr.ownsRow w.heap.size 3 1 mv M.length (M.flatMap ncell)
  mf : ∀ q, mv.ownBlock = some q → ¬ F q
section
variable {w wr wr' : World} {F F' G : Nat → Prop} {u h mb last gi : Nat} {l l' : Bytes} {I I' : Nat → Option Bytes} {img : Nat → Bytes} {M : List Nat} {mv : Value}
theorem cells_type {w : World} {k : Nat} {cur cur' : Array Value} {T T' : TypeId} (h : w.heap[k]? = some (.cells cur T (0, 0))) (h' : w.heap[k]? = some (.cells cur' T' (0, 0))) : T = T' := by
  rw [h] at h'
  have := Option.some.inj h'
  injection this
theorem UbI.lt (h : UbI w wr F gi last img) : gi < wr.heap.size := by
  obtain ⟨cur, h0, -⟩ := h.blk
  exact (Array.getElem?_eq_some_iff.1 h0).1
theorem UbI.keep (h : UbI w wr F gi last img) (hk : ∀ k cur T, wr.heap[k]? = some (.cells cur T (0, 0)) → (T = 5 ∨ T = 22) → ¬ F k → wr'.heap[k]? = wr.heap[k]?) (hn : ∀ k, F' k → F k ∨ wr.heap.size ≤ k) : UbI w wr' F' gi last img := by
  have hno : ∀ k, k < wr.heap.size → ¬ F k → ¬ F' k := fun k hlt hnf hf' => by rcases hn k hf' with h | h; exact hnf h; omega
  obtain ⟨cur, h0, h1, h2⟩ := h.blk
  refine ⟨⟨cur, (hk gi cur _ h0 (.inr rfl) h.nf).trans h0, h1, fun k k1 k2 => ?_⟩, hno gi h.lt h.nf, h.base⟩
  obtain ⟨g, cap, e1, e2, e3⟩ := h2 k k1 k2
  refine ⟨g, cap, e1, e2.block ?_, hno g e2.lt e3⟩
  obtain ⟨cur', h3, -⟩ := e2
  exact hk g cur' _ h3 (.inl rfl) e3
theorem UbI.cell (h : UbI w wr F gi last img) (k : Nat) (h1 : 1 ≤ k) (h2 : k ≤ last) : ∃ g cap, wr.cell? ⟨gi, k, none⟩ = some (.slice (some ⟨g, 0, none⟩) (img k).length cap) ∧ Row wr 5 g cap (img k) ∧ ¬ F g := by
  obtain ⟨cur, h0, -, h3⟩ := h.blk
  obtain ⟨g, cap, e1, e2, e3⟩ := h3 k h1 h2
  exact ⟨g, cap, by simp only [World.cell?]; rw [h0]; exact e1, e2, e3⟩
theorem UbI.set (h : UbI w wr F gi last img) {g cap : Nat} {b : Bytes} (hl : last + 1 < 100) (hr : Row wr 5 g cap b) (hf : ¬ F g) : UbI w (wr.setCell ⟨gi, last + 1, none⟩ (.slice (some ⟨g, 0, none⟩) b.length cap)) F gi (last + 1) (fun k => if k = last + 1 then b else img k) := by
  obtain ⟨cur, h0, h1, h2⟩ := h.blk
  have hb : ∀ q c x, Row wr 5 q c x → Row (wr.setCell ⟨gi, last + 1, none⟩ (.slice (some ⟨g, 0, none⟩) b.length cap)) 5 q c x := fun q c x hq => hq.block (Below.heap_setCell _ _ _ _ (by
    dsimp only
    intro e
    obtain ⟨cur', h3, -⟩ := hq
    rw [e] at h3
    exact absurd (cells_type h0 h3) (by decide)))
  refine ⟨⟨_, heap_setK h0 _, by simp [h1], fun k k1 k2 => ?_⟩, h.nf, h.base⟩
  by_cases e : k = last + 1
  · subst e
    simp only [if_true]
    exact ⟨g, cap, by simp [h1, hl], hb _ _ _ hr, hf⟩
  · simp only [if_neg e]
    obtain ⟨g', cap', e1, e2, e3⟩ := h2 k k1 (by omega)
    refine ⟨g', cap', ?_, hb _ _ _ e2, e3⟩
    rw [Array.getElem?_setIfInBounds_ne (fun e' => e e'.symm)]
    exact e1
theorem UdH.typesB {w0 w : World} {F : Nat → Prop} {u h mb last : Nat} {I : Nat → Option Bytes} (hu : UdH w0 w F u h mb last I) : ∀ k, k = u ∨ k = mb → ∀ cur T, w.heap[k]? = some (.cells cur T (0, 0)) → T ≠ 5 ∧ T ≠ 22 ∧ T ≠ 3 := fun k hk cur T hc => by
  rcases hk with rfl | rfl
  · have := cells_type hu.blk hc
    subst this
    exact ⟨by decide, by decide, by decide⟩
  · obtain ⟨f, cnt, -, him, -⟩ := hu.mp
    obtain ⟨es, clock, hb⟩ := him.isMap
    rw [hb] at hc; cases hc
/-- what is written into another block does not touch an undo -/
theorem UdH.keepT {w0 w w' : World} {F F' : Nat → Prop} {u h mb last : Nat} {I : Nat → Option Bytes} {q : Option Nat} (hu : UdH w0 w F u h mb last I) (hk : ∀ k, k < w.heap.size → ¬ F k → q ≠ some k → w'.heap[k]? = w.heap[k]?) (hn : ∀ k, F' k → F k ∨ w.heap.size ≤ k) (hq : ∀ k, q = some k → ∃ cur T, w.heap[k]? = some (.cells cur T (0, 0)) ∧ (T = 22 ∨ T = 3)) : UdH w0 w' F' u h mb last I := by
  have hne : ∀ k, k = u ∨ k = mb → q ≠ some k := fun k hk e => by
    obtain ⟨cur, T, h1, h2⟩ := hq k e
    have := hu.typesB k hk cur T h1
    rcases h2 with h2 | h2
    · exact this.2.1 h2
    · exact this.2.2 h2
  have hng : ∀ g cap (b : Bytes), Row w 5 g cap b → q ≠ some g := fun g cap b hr e => by
    obtain ⟨cur, T, h1, h2⟩ := hq g e
    obtain ⟨cur', h3, -⟩ := hr
    have := cells_type h1 h3
    subst this
    rcases h2 with h2 | h2 <;> exact absurd h2 (by decide)
  obtain ⟨h1, h2⟩ := hu.lt
  obtain ⟨f, cnt, hc, him, hf⟩ := hu.mp
  have hno : ∀ k, k < w.heap.size → ¬ F k → ¬ F' k := fun k hlt hnf hf' => by rcases hn k hf' with h | h; exact hnf h; omega
  refine ⟨(hk u h1 hu.nu (hne u (.inl rfl))).trans hu.blk, ⟨f, cnt, hc, him.block (hk mb h2 hu.nm (hne mb (.inr rfl))), fun k => ⟨(hf k).1, fun b hb => ?_⟩⟩, hno u h1 hu.nu, hno mb h2 hu.nm, hu.u0, hu.m0, hu.top⟩
  obtain ⟨g, cap, e1, e2, e3⟩ := (hf k).2 b hb
  exact ⟨g, cap, e1, e2.block (hk g e2.lt e3 (hng g cap b e2)), hno g e2.lt e3⟩
theorem UbSt.moT (hs : UbSt w wr F u h mb last l I img gi M mv) : ∀ q, mv.ownBlock = some q → ∃ cur, wr.heap[q]? = some (.cells cur 3 (0, 0)) := fun q hq => by
  rcases hs.mo.2 with ⟨e, _⟩ | ⟨g, cap, cur, e, _, hh, _⟩
  · rw [e] at hq; cases hq
  · rw [e] at hq
    obtain rfl : g = q := by simpa [Value.ownBlock] using hq
    exact ⟨cur, hh⟩
/-- a step of the heap and its undo, which touches nothing else -/
theorem UbSt.turn (hs : UbSt w wr F u h mb last l I img gi M mv) (hp' : Hp w wr' F' h l') (hg' : Good l') (hu' : UdH w wr' F' u h mb last I') (hI : ∀ k b, I' k = some b → I k = some b) (hl : l'.length = l.length) (hk : ∀ k cur T, wr.heap[k]? = some (.cells cur T (0, 0)) → (T = 5 ∨ T = 22 ∨ T = 3) → ¬ F k → wr'.heap[k]? = wr.heap[k]?) (hn : ∀ k, F' k → F k ∨ wr.heap.size ≤ k) : UbSt w wr' F' u h mb last l' I' img gi M mv := by
  have hno : ∀ k, k < wr.heap.size → ¬ F k → ¬ F' k := fun k hlt hnf hf' => by rcases hn k hf' with h | h; exact hnf h; omega
  refine ⟨hp', hg', hu', fun k b e => ?_, hs.ib.keep (fun k cur T h1 h2 h3 => hk k cur T h1 (h2.imp id .inl) h3) hn, ownsRow_block hs.mo fun q hq => ?_, fun q hq => hno q (hs.mo.lt q hq).2 (hs.mf q hq)⟩
  · obtain ⟨h1, h2, h3⟩ := hs.il k b (hI k b e)
    exact ⟨h1, h2.trans hl.symm, h3⟩
  · obtain ⟨cur, hc⟩ := hs.moT q hq
    exact hk q cur _ hc (.inr (.inr rfl)) (hs.mf q hq)
theorem UbSt.below (hs : UbSt w wr F u h mb last l I img gi M mv) (hb : Below wr.heap.size wr wr') : UbSt w wr' F u h mb last l I img gi M mv :=
  hs.turn (hs.hp.below hb) hs.good (hs.ud.below hb) (fun _ _ e => e) rfl (fun k _ _ h1 _ _ => hb.block k (Array.getElem?_eq_some_iff.1 h1).1) (fun _ hk => .inl hk)
theorem UbSt.moved (hs : UbSt w wr F u h mb last l I img gi M mv) (hm : HpM w wr wr' F F' h l') (hr : StepR l l') : UbSt w wr' F' u h mb last l' I img gi M mv :=
  hs.turn hm.hp hr.good (hs.ud.moved hm) (fun _ _ e => e) hr.len (fun k _ _ h1 _ h3 => hm.kp.block k (Array.getElem?_eq_some_iff.1 h1).1 h3) hm.nw
/-- Back -/
theorem UbSt.back (hs : UbSt w wr F u h mb last l I img gi M mv) {b : Bytes} {x : Int} (hx : Ik I x = some b) (hu' : UdH w wr' F' u h mb last (cutI I x)) (hm : HpM w wr wr' (fun k => F k ∨ k = mb) F' h b) : UbSt w wr' F' u h mb last b (cutI I x) img gi M mv := by
  have hI : I x.toNat = some b := by
    unfold Ik at hx
    split at hx
    · cases hx
    · exact hx
  obtain ⟨-, h2, h3⟩ := hs.il _ _ hI
  refine hs.turn hm.hp h3 hu' (fun k c e => ?_) h2 (fun k cur T h1 h4 h5 => hm.kp.block k (Array.getElem?_eq_some_iff.1 h1).1 (fun e => ?_)) (fun k hk => ?_)
  · unfold cutI at e
    split at e
    · cases e
    · exact e
  · rcases e with e | e
    · exact h5 e
    · have := hs.ud.typesB k (.inr e) cur T h1
      rcases h4 with h4 | h4 | h4
      · exact this.1 h4
      · exact this.2.1 h4
      · exact this.2.2 h4
  · rcases hm.nw k hk with (h | h) | h
    · exact .inl h
    · subst h; exact absurd hk hu'.nm
    · exact .inr h
/-- Mark, and its image laid by -/
theorem UbSt.mark0 {w2 : World} (hg : Good l) (hil : ∀ k b, I k = some b → b = img k ∧ b.length = l.length ∧ Good b) (hib : UbI w w2 F gi last img) (hmo2 : w2.ownsRow w.heap.size 3 1 mv M.length (M.flatMap ncell)) (hmf : ∀ q, mv.ownBlock = some q → ¬ F q) (hp : Hp w w2 F h l) (hu : UdH w w2 F u h mb (last + 1) (markI I (last + 1) l)) {g cap : Nat} (hr : Row w2 5 g cap l) (hf : ¬ F g) (hl : last + 1 < 100) :
    UbSt w (w2.setCell ⟨gi, last + 1, none⟩ (.slice (some ⟨g, 0, none⟩) l.length cap)) F u h mb (last + 1) l (markI I (last + 1) l) (fun k => if k = last + 1 then l else img k) gi M mv := by
  obtain ⟨cur, h0, -, -⟩ := hib.blk
  have hKs : Keep (fun k => k = gi) w2 (w2.setCell ⟨gi, last + 1, none⟩ (.slice (some ⟨g, 0, none⟩) l.length cap)) := ⟨rfl, rfl, rfl, by simp, fun k _ hn => Below.heap_setCell _ _ _ _ hn⟩
  refine ⟨hp.keep hKs (fun k hk e => hib.nf (e ▸ hk)) (fun k e => e ▸ hib.base), hg, hu.keepT (q := some gi) (fun k hk _ hn => hKs.block k hk fun e => hn (congrArg some e.symm)) (fun _ h => .inl h) (fun k e => ⟨cur, _, by rw [← Option.some.inj e]; exact h0, .inl rfl⟩), fun k b e => ?_, hib.set hl hr hf, ownsRow_block hmo2 fun q hq => ?_, hmf⟩
  · unfold markI at e
    by_cases hk : k = last + 1
    · rw [if_pos hk] at e
      have := Option.some.inj e
      subst this
      exact ⟨by rw [if_pos hk], rfl, hg⟩
    · rw [if_neg hk] at e
      simp only [if_neg hk]
      exact hil k b e
  · refine Below.heap_setCell _ _ _ _ fun e => ?_
    dsimp only at e
    rcases hmo2.2 with ⟨e', _⟩ | ⟨g', cap', cur', e', _, hh, _⟩
    · rw [e'] at hq; cases hq
    · rw [e'] at hq
      obtain rfl : g' = q := by simpa [Value.ownBlock] using hq
      rw [e] at hh
      exact absurd (cells_type h0 hh) (by decide)
theorem UbSt.mark {w2 : World} (hs : UbSt w wr F u h mb last l I img gi M mv) (hp : Hp w w2 F h l) (hu : UdH w w2 F u h mb (last + 1) (markI I (last + 1) l)) (hk : ∀ k cur T, wr.heap[k]? = some (.cells cur T (0, 0)) → (T = 5 ∨ T = 22 ∨ T = 3) → ¬ F k → w2.heap[k]? = wr.heap[k]?) {g cap : Nat} (hr : Row w2 5 g cap l) (hf : ¬ F g) (hl : last + 1 < 100) :
    UbSt w (w2.setCell ⟨gi, last + 1, none⟩ (.slice (some ⟨g, 0, none⟩) l.length cap)) F u h mb (last + 1) l (markI I (last + 1) l) (fun k => if k = last + 1 then l else img k) gi M mv :=
  UbSt.mark0 hs.good hs.il (hs.ib.keep (fun k cur T h1 h2 h3 => hk k cur T h1 (h2.imp id .inl) h3) (fun _ h => .inl h)) (ownsRow_block hs.mo fun q hq => by
    obtain ⟨cur, hc⟩ := hs.moT q hq
    exact hk q cur _ hc (.inr (.inr rfl)) (hs.mf q hq)) hs.mf hp hu hr hf hl
/-- a mark more in the law's own row -/
theorem UbSt.app {M' : List Nat} {mv' : Value} (hs : UbSt w wr F u h mb last l I img gi M mv) (hg : wr.grownBy wr' mv.ownBlock) (ho : wr'.ownsRow w.heap.size 3 1 mv' M'.length (M'.flatMap ncell)) (hf : ∀ q, mv'.ownBlock = some q → ¬ F q) : UbSt w wr' F u h mb last l I img gi M' mv' := by
  have hK : Keep (fun k => mv.ownBlock = some k) wr wr' := ⟨hg.os, hg.tape, hg.output, hg.size, fun k hk hn => hg.block k hk (fun e => hn e.symm)⟩
  refine ⟨hs.hp.keep hK (fun k hk e => hs.mf k e hk) (fun k e => (hs.mo.lt k e).1), hs.good, hs.ud.keepT (q := mv.ownBlock) (fun k hk _ hn => hK.block k hk hn) (fun _ h => .inl h) (fun k e => ?_), hs.il, hs.ib.keep (fun k cur T h1 h2 h3 => hK.block k (Array.getElem?_eq_some_iff.1 h1).1 fun e => ?_) (fun _ h => .inl h), ho, hf⟩
  · obtain ⟨cur, hc⟩ := hs.moT k e
    exact ⟨cur, _, hc, .inr rfl⟩
  · obtain ⟨cur', hc⟩ := hs.moT k e
    have := cells_type h1 hc
    subst this
    rcases h2 with h2 | h2 <;> exact absurd h2 (by decide)
theorem UbSt.left {M' : List Nat} {mv' : Value} (hs : UbSt w wr F u h mb last l I img gi M mv) (ho : wr.ownsRow w.heap.size 3 1 mv' M'.length (M'.flatMap ncell)) (hf : ∀ q, mv'.ownBlock = some q → ¬ F q) : UbSt w wr F u h mb last l I img gi M' mv' :=
  { hs with mo := ho, mf := hf }
end
/-- the marks there are, as a list -/
structure MkL (I : Nat → Option Bytes) (M : List Nat) : Prop where
  up : M.Pairwise (· < ·)
  mem : ∀ k, k ∈ M ↔ I k ≠ none
def inZ (M : List Nat) (x : Int) (j : Nat) : Bool := (M.take j).any fun k => (k : Int) == x
theorem inZ_succ (M : List Nat) (x : Int) (j : Nat) (hj : j < M.length) : inZ M x (j + 1) = (inZ M x j || ((M[j] : Int) == x)) := by
  unfold inZ; rw [List.take_succ_eq_append_getElem hj, List.any_append]; simp
theorem inZ_all {I : Nat → Option Bytes} {M : List Nat} (h : MkL I M) (x : Int) : inZ M x M.length = (Ik I x).isSome := by
  unfold inZ Ik
  rw [List.take_length]
  by_cases hx : x < 0
  · rw [if_pos hx, Option.isSome_none, List.any_eq_false]
    intro k _
    simp; omega
  · rw [if_neg hx]
    cases hI : I x.toNat with
    | none =>
      rw [Option.isSome_none, List.any_eq_false]
      intro k hk
      have := (h.mem k).1 hk
      simp only [beq_iff_eq]
      intro e
      rw [← e, Int.toNat_natCast] at hI
      exact this hI
    | some b =>
      rw [Option.isSome_some, List.any_eq_true]
      exact ⟨x.toNat, (h.mem _).2 (by rw [hI]; simp), by simp; omega⟩
theorem Ik_mem {I : Nat → Option Bytes} {x : Int} {b : Bytes} (h : Ik I x = some b) : ∃ k : Nat, x = k ∧ I k = some b := by
  unfold Ik at h
  split at h
  · cases h
  · exact ⟨x.toNat, by omega, h⟩
def leftL (M : List Nat) (x : Int) (j : Nat) : List Nat := (M.take j).filter fun k => decide ((k : Int) ≤ x)
theorem leftL_yes (M : List Nat) (x : Int) (j : Nat) (hj : j < M.length) (h : (M[j] : Int) ≤ x) : leftL M x (j + 1) = leftL M x j ++ [M[j]] := by
  unfold leftL; rw [List.take_succ_eq_append_getElem hj, List.filter_append, List.filter_cons_of_pos (by simpa using h)]; rfl
theorem leftL_no (M : List Nat) (x : Int) (j : Nat) (hj : j < M.length) (h : ¬ (M[j] : Int) ≤ x) : leftL M x (j + 1) = leftL M x j := by
  unfold leftL; rw [List.take_succ_eq_append_getElem hj, List.filter_append, List.filter_cons_of_neg (by simpa using h)]; simp
theorem leftL_all {I : Nat → Option Bytes} {M : List Nat} (h : MkL I M) (x : Int) : MkL (cutI I x) (leftL M x M.length) := by
  unfold leftL
  rw [List.take_length]
  refine ⟨h.up.filter _, fun k => ?_⟩
  rw [List.mem_filter, h.mem]
  unfold cutI
  by_cases hk : x < (k : Int)
  · rw [if_pos hk]; simp; omega
  · rw [if_neg hk]; simp; omega
theorem mark_L {I : Nat → Option Bytes} {M : List Nat} {last : Nat} {l : Bytes} (h : MkL I M) (ht : ∀ k, I k ≠ none → 1 ≤ k ∧ k ≤ last) : MkL (markI I (last + 1) l) (M ++ [last + 1]) := by
  refine ⟨List.pairwise_append.2 ⟨h.up, List.pairwise_singleton _ _, fun a ha b hb => ?_⟩, fun k => ?_⟩
  · have := ht a ((h.mem a).1 ha)
    rw [List.mem_singleton] at hb
    omega
  · unfold markI
    rw [List.mem_append, List.mem_singleton, h.mem]
    by_cases hk : k = last + 1
    · rw [if_pos hk]; simp [hk]
    · rw [if_neg hk]; simp [hk]
theorem MkL.eq {I : Nat → Option Bytes} {M S : List Nat} (h : MkL I M) (h1 : S.Pairwise (· < ·)) (h2 : ∀ k, k ∈ S ↔ I k ≠ none) : S = M := by
  have hp : S.Perm M := (List.perm_ext_iff_of_nodup (h1.imp fun h e => by omega) (h.up.imp fun h e => by omega)).2 fun k => by rw [h2, h.mem]
  exact hp.eq_of_pairwise (le := fun a b => a < b) (fun a b _ _ h3 h4 => by omega) h1 h.up
theorem row_cut {w : World} {g cap j r : Nat} {l : Bytes} (h : Row w 5 g cap l) (hj : j + r ≤ l.length) : (convert 22 9 (.slice (some ⟨g, j, none⟩) r (cap - j))).run Tryz.prog w = .ok (sv ((l.drop j).take r)) w := by
  have hr := h.rd.cut j r hj
  refine conv_text w _ r (cap - j) _ (by simp; omega) ?_
  by_cases h0 : j = 0
  · subst h0; simpa [Addr.add] using hr
  · simpa [Addr.add, h0] using hr
end Go.Proofs.YtijcclpnkfmpnaaGreat
/- What comes in: slices of ops. -/
namespace Go.Proofs.YtijcclpnkfmpnaaGreat
open Go.RowKit Go.ChangeShapes Go.WideShapes Go.ChangeAt

/-- an op: what, handle, at, len, name, body -/
structure OpX where
  what : Int
  handle : Int
  at_ : Int
  len : Int
  name : Bytes
  A : Option Addr
  cap : Nat
  body : Bytes
  deriving Inhabited
def ocells (x : OpX) : List Value := [.int .i64 x.what, .int .i64 x.handle, .int .i64 x.at_, .int .i64 x.len, sv x.name, .slice x.A x.body.length x.cap]
structure OpOk (w : World) (x : OpX) : Prop where
  what : -9223372036854775808 ≤ x.what ∧ x.what ≤ 9223372036854775807
  handle : -9223372036854775808 ≤ x.handle ∧ x.handle ≤ 9223372036854775807
  at_ : -9223372036854775808 ≤ x.at_ ∧ x.at_ ≤ 9223372036854775807
  len : -9223372036854775808 ≤ x.len ∧ x.len ≤ 9223372036854775807
  name : x.name.length ≤ 140737488351232
  cap : x.body.length ≤ x.cap
  le : x.cap ≤ 140737488351232
  rd : Rd w x.A x.body
theorem OpOk.below {w w' : World} {x : OpX} (h : OpOk w x) (hb : Below w.heap.size w w') : OpOk w' x := ⟨h.what, h.handle, h.at_, h.len, h.name, h.cap, h.le, h.rd.below hb⟩
section
variable {H : Type} {enc : TypeId × Value → H} {w : World} {v : Value} {d : DataW H} {ps : List MemPlace} {base : Nat} {r : Reach}
set_option maxRecDepth 20000 in
theorem open_ops (hv : Value.okWide Tryz.prog w r base 23 v) (h : DataW.Trod enc Tryz.prog w 0 (fun _ => true) true 23 v d ps) (hz : (d.weights Tryz.prog 23).all (· ≤ reachBytes) = true) :
    ∃ (A : Option Addr) (c : Nat) (L : List OpX), v = .slice A L.length c ∧ L.length ≤ c ∧ c ≤ 140737488351232 ∧ (∀ x ∈ L, OpOk w x) ∧ RdX ocells 6 w A L := by
  have hb : decide (1 ≤ Tryz.prog.bytesOf 37) = true := by kernel_rfl
  have hC : Tryz.prog.cellsOf 37 = 6 := by kernel_rfl
  refine open_seq (P := Tryz.prog) ocells 6 OpOk Tryz.underlying23 hC (by omega) (of_decide_eq_true hb) (fun n cs x hl ht hz => ?_) hv h hz
  match cs, hl with
  | [c0, c1, c2, c3, c4, c5], _ =>
    obtain ⟨xs, m, _, hx, _, hlen, hg⟩ := DataW.trod_struct Tryz.underlying37 ht
    match xs, hlen with
    | [y0, y1, y2, y3, y4, y5], _ =>
      have k0 : Tryz.prog.cellsOf 3 = 1 := by kernel_rfl
      have k1 : Tryz.prog.cellsOf 9 = 1 := by kernel_rfl
      have k2 : Tryz.prog.cellsOf 22 = 1 := by kernel_rfl
      have t0 : DataW.trod enc Tryz.prog w 0 (fun _ => true) true m 3 [c0] = some y0 := by simpa [k0] using hg 0 _ rfl
      have t1 : DataW.trod enc Tryz.prog w 0 (fun _ => true) true m 3 [c1] = some y1 := by simpa [k0] using hg 1 _ rfl
      have t2 : DataW.trod enc Tryz.prog w 0 (fun _ => true) true m 3 [c2] = some y2 := by simpa [k0] using hg 2 _ rfl
      have t3 : DataW.trod enc Tryz.prog w 0 (fun _ => true) true m 3 [c3] = some y3 := by simpa [k0] using hg 3 _ rfl
      have t4 : DataW.trod enc Tryz.prog w 0 (fun _ => true) true m 9 [c4] = some y4 := by simpa [k1] using hg 4 _ rfl
      have t5 : DataW.trod enc Tryz.prog w 0 (fun _ => true) true m 22 [c5] = some y5 := by simpa [k2] using hg 5 _ rfl
      obtain ⟨a0, ha0, -, wa0⟩ := DataW.trod_int Tryz.underlying3 t0
      obtain ⟨a1, ha1, -, wa1⟩ := DataW.trod_int Tryz.underlying3 t1
      obtain ⟨a2, ha2, -, wa2⟩ := DataW.trod_int Tryz.underlying3 t2
      obtain ⟨a3, ha3, -, wa3⟩ := DataW.trod_int Tryz.underlying3 t3
      obtain ⟨s, ha4, hy4, -⟩ := DataW.trod_string Tryz.underlying9 t4
      simp only [List.cons.injEq, and_true] at ha0 ha1 ha2 ha3 ha4
      subst ha0 ha1 ha2 ha3 ha4 hy4
      rw [hx] at hz
      simp only [DataW.weights, Tryz.underlying37, DataW.weightsEach, List.all_append, Bool.and_eq_true, List.map_cons, List.map_nil, Array.toList] at hz
      obtain ⟨-, -, -, -, z4, z5, -⟩ := hz
      obtain ⟨A, c, l, hb', hc, hm, hr⟩ := open_bytes_in Tryz.underlying22 Tryz.underlying5 (by kernel_rfl) (by kernel_rfl) t5 z5
      have h2 := of_decide_eq_true (List.all_eq_true.1 z4 s.data.toList.length (by simp [DataW.weights]))
      have h3 : reachBytes = 140737488351232 := by decide
      exact ⟨⟨a0, a1, a2, a3, s.data.toList, A, c, l⟩, by rw [hb']; rfl, wf_i64' wa0, wf_i64' wa1, wf_i64' wa2, wf_i64' wa3, by simp only at *; omega, hc, hm, hr⟩
end
end Go.Proofs.YtijcclpnkfmpnaaGreat
/- What comes in: slices of ints. -/
namespace Go.Proofs.YtijcclpnkfmpnaaGreat
open Go.RowKit Go.ChangeShapes Go.WideShapes Go.ChangeAt

def icell (x : Int) : List Value := [.int .i64 x]
section
variable {H : Type} {enc : TypeId × Value → H} {w : World} {v : Value} {d : DataW H} {ps : List MemPlace} {base : Nat} {r : Reach}
set_option maxRecDepth 20000 in
theorem open_ints (hv : Value.okWide Tryz.prog w r base 24 v) (h : DataW.Trod enc Tryz.prog w 0 (fun _ => true) true 24 v d ps) (hz : (d.weights Tryz.prog 24).all (· ≤ reachBytes) = true) :
    ∃ (A : Option Addr) (c : Nat) (L : List Int), v = .slice A L.length c ∧ L.length ≤ c ∧ c ≤ 140737488351232 ∧ (∀ x ∈ L, -9223372036854775808 ≤ x ∧ x ≤ 9223372036854775807) ∧ RdX icell 1 w A L := by
  have hb : decide (1 ≤ Tryz.prog.bytesOf 3) = true := by kernel_rfl
  have hC : Tryz.prog.cellsOf 3 = 1 := by kernel_rfl
  refine open_seq (P := Tryz.prog) icell 1 (fun _ x => -9223372036854775808 ≤ x ∧ x ≤ 9223372036854775807) Tryz.underlying24 hC (by omega) (of_decide_eq_true hb) (fun n cs x hl ht hz => ?_) hv h hz
  match cs, hl with
  | [c0], _ =>
    obtain ⟨a, ha, -, wa⟩ := DataW.trod_int Tryz.underlying3 ht
    obtain ⟨lo, hi⟩ := wf_i64' wa
    exact ⟨a, by simpa [icell] using ha, lo, hi⟩
end
end Go.Proofs.YtijcclpnkfmpnaaGreat
/- UndoBack: the calls. -/
namespace Go.Proofs.YtijcclpnkfmpnaaGreat
open Go.RowKit Go.Maps Go.ChangeMaps Go.Shelf

section
variable {w0 w w' : World} {F F' : Nat → Prop} {h u mb last : Nat} {l : Bytes} {I : Nat → Option Bytes}
theorem uheap_ok (hu : UdH w0 w F u h mb last I) :
    Calls Tryz.prog 11 #[.pointer (some ⟨u, 0, none⟩)] w fun e w' => e = .returned (.pointer (some ⟨h, 0, none⟩)) ∧ w' = w := by
  obtain ⟨c0, c1, c2, -⟩ := hu.cells
  clear hu
  go_enter Tryz.func11, Tryz.ntmps11
  go_wp2_with fail
  go_ret
  exact ⟨rfl, rfl⟩
set_option maxRecDepth 100000 in
theorem uchanges_no (x : Int) (hu : UdH w0 w F u h mb last I) (h0 : -9223372036854775808 ≤ x) (h1 : x ≤ 9223372036854775807) (hI : Ik I x = none) :
    Calls Tryz.prog 18 #[.pointer (some ⟨u, 0, none⟩), .int .i64 x] w fun e w' => e = .returned (.tuple #[.slice none 0 0, .iface 76 (.int .i64 5)]) ∧ Below w.heap.size w w' := by
  have hlk := (hu.look x h0 h1).1 hI
  obtain ⟨c0, c1, c2, -⟩ := hu.cells
  clear hu hI h0 h1
  go_enter Tryz.func18, Tryz.ntmps18
  go_wp2_with fail
  go_ret2
  exact ⟨rfl, Below.refl _ _⟩
end
theorem rows_info : (Tryz.prog.info? 22).map (fun i => (i.zero, i.size, i.bytes)) = some (some (.slice none 0 0), 1, 24) := by kernel_rfl
theorem mk_imgs (n : Nat) (hn : n ≤ 100000) (w : World) :
    (Instr.makeSlice 34 (.int .i64 n) (.int .i64 n)).run Tryz.prog w = .ok (.slice (some ⟨w.heap.size, 0, none⟩) n n) (w.alloc (.cells (Array.replicate n (.slice none 0 0)) 22)) := by
  obtain ⟨i0, hi0, hz0, hz1, hz2⟩ := info_parts rows_info
  have hr := run_make (P := Tryz.prog) w 34 22 i0 _ Tryz.underlying34 hi0 hz0 .i64 .i64 n n (by omega) (by omega) (by rw [hz2]; omega) (by omega)
  simp only [Int.toNat_natCast, hz1, Nat.mul_one] at hr
  have hcells : madeCells (Value.slice none 0 0).cells n = Array.replicate n (.slice none 0 0) := by
    apply Array.ext'
    rw [show (Value.slice none 0 0).cells = #[Value.slice none 0 0] from rfl, toList_madeCells_one]
    simp
  rw [hcells] at hr
  exact hr
theorem UbI.made {w wr : World} {F : Nat → Prop} (hw : w.heap.size ≤ wr.heap.size) (hf : ∀ k, F k → k < wr.heap.size) (img : Nat → Bytes) : UbI w (wr.alloc (.cells (Array.replicate 100 (.slice none 0 0)) 22)) F wr.heap.size 0 img :=
  ⟨⟨_, heap_alloc_new wr _, by simp, fun k h1 h2 => by omega⟩, fun hk => by have := hf _ hk; omega, hw⟩
end Go.Proofs.YtijcclpnkfmpnaaGreat
/- Laid by hand: slices.Compact and slices.Reverse at ints. -/
namespace Go.Proofs.YtijcclpnkfmpnaaGreat
open Go.Shelf
def compactI_ren : Go.Shelf.Ren := ⟨fun | 20 => 168 | n => n, fun | 0 => 0 | 3 => 3 | 4 => 4 | 22 => 24 | n => n, fun | n => n⟩
theorem compactI : Go.Proofs.Lays2.n20 Tryz.prog compactI_ren := {
  mixed := by kernel_rfl
  f20 := Tryz.func168.trans (congrArg some (by kernel_rfl))
  t0 := Tryz.underlying0
  a0 := Tryz.isAgg0
  z0 := Tryz.sizeOf0
  v0 := Tryz.zeroValue0
  t3 := Tryz.underlying3
  a3 := Tryz.isAgg3
  z3 := Tryz.sizeOf3
  v3 := Tryz.zeroValue3
  t4 := Tryz.underlying4
  a4 := Tryz.isAgg4
  z4 := Tryz.sizeOf4
  v4 := Tryz.zeroValue4
  t22 := Tryz.underlying24
  a22 := Tryz.isAgg24
  z22 := Tryz.sizeOf24
  v22 := Tryz.zeroValue24
  i3 := by kernel_rfl }
end Go.Proofs.YtijcclpnkfmpnaaGreat
/- Sorting, compacting and turning own rows of ints. -/
namespace Go.Proofs.YtijcclpnkfmpnaaGreat
open Go.RowKit Go.Sort Go.Shelf Go.Lib

theorem take_putCellsZ (enc : Int → Value) (cur : Array Value) (d : Array Int) (h : d.size ≤ cur.size) : (putCells enc 0 d cur).toList.take d.size = d.toList.map enc := by
  apply List.ext_getElem?
  intro j
  by_cases hj : j < d.size
  · rw [List.getElem?_take_of_lt hj, Array.getElem?_toList]
    simp [putCells, hj, show j < cur.size by omega]
  · rw [List.getElem?_take_eq_none (by omega), List.getElem?_eq_none (by simp; omega)]
theorem holdsZ_own {w : World} {base : Nat} {e : TypeId} {g n cap : Nat} {L : List Int} (h : w.ownsRow base e 1 (.slice (some ⟨g, 0, none⟩) n cap) n (L.map (Value.int .i64))) :
    Holds (Value.int .i64) w g 0 L.toArray ∧ g < w.heap.size := by
  rcases h.2 with ⟨h1, _⟩ | ⟨g', cap', cur, he, _, hh, _⟩
  · cases h1
  · injection he with he _ hcap
    injection he with he
    injection he with he
    subst he hcap
    refine ⟨fun j hj => ?_, (Array.getElem?_eq_some_iff.1 hh).1⟩
    have hj' : j < L.length := by simpa using hj
    have := h.cells (g := g) rfl j (.int .i64 L[j]) (by simp [hj'])
    rw [Addr.add_lit] at this
    rw [getElem!_pos _ j hj]
    exact ⟨by simpa using this, by simp [World.frozen?, hh]⟩
theorem own_putZ {w : World} {base : Nat} {e : TypeId} {g n cap m : Nat} {L : List Int} {d : Array Int} {os : Array Obj} (hd : d.size = n) (h : w.ownsRow base e 1 (.slice (some ⟨g, 0, none⟩) n cap) n (L.map (Value.int .i64))) :
    (grow (putRow (Value.int .i64) (Sort.ahead w m) g 0 d) os).ownsRow base e 1 (.slice (some ⟨g, 0, none⟩) n cap) n (d.toList.map (Value.int .i64)) ∧ w.grownBy (grow (putRow (Value.int .i64) (Sort.ahead w m) g 0 d) os) (some g) := by
  rcases h.2 with ⟨h1, _⟩ | ⟨g', cap', cur, he, hb, hh, hc, hm, hz, ht⟩
  · cases h1
  · injection he with he _ hcap
    injection he with he
    injection he with he
    subst he hcap
    have hg : g < w.heap.size := (Array.getElem?_eq_some_iff.1 hh).1
    have hheap : (grow (putRow (Value.int .i64) (Sort.ahead w m) g 0 d) os).heap[g]? = some (.cells (putCells (Value.int .i64) 0 d cur) e (0, 0)) := by
      rw [heap_grow_old _ _ (by simpa [putRow, mapBlock, Sort.ahead] using hg)]
      simp [putRow, mapBlock, Sort.ahead, Array.getElem?_modify, hh, onCells]
    refine ⟨⟨by simp [hd], .inr ⟨g, cap, _, rfl, hb, hheap, hc, hm, by simp [putCells, hz], ?_⟩⟩, ?_⟩
    · rw [Nat.mul_one, ← hd, take_putCellsZ _ _ _ (by omega)]
    · refine ⟨rfl, rfl, rfl, by simp [putRow, mapBlock, Sort.ahead], fun q hq hne => ?_⟩
      rw [heap_grow_old _ _ (by simpa [putRow, mapBlock, Sort.ahead] using hq)]
      have : g ≠ q := fun e => hne (by rw [e])
      simp [putRow, mapBlock, Sort.ahead, Array.getElem?_modify, this]
def sortZ (L : List Int) : List Int := L.mergeSort fun x y => decide (x ≤ y)
theorem sortZ_any (base g n cap : Nat) (L : List Int) (w : World) (hn : L.length = n) (hl : n ≤ 100000) (h : w.ownsRow base 3 1 (.slice (some ⟨g, 0, none⟩) n cap) n (L.map (Value.int .i64))) :
    Calls Tryz.prog 96 #[.slice (some ⟨g, 0, none⟩) n cap] w fun e w' => e = .returned (.tuple #[]) ∧ w'.ownsRow base 3 1 (.slice (some ⟨g, 0, none⟩) n cap) n ((sortZ L).map (Value.int .i64)) ∧ w.grownBy w' (some g) := by
  subst hn
  obtain ⟨hH, hg⟩ := holdsZ_own h
  have hc := AnyM.slices_Sort_int sortI g 0 cap L w hH hg (by omega)
  change Calls Tryz.prog 96 _ _ _ at hc
  refine hc.mono ?_
  rintro e w' ⟨rfl, m, os, rfl⟩
  have h2 := own_putZ (m := m) (os := os) (d := (sortZ L).toArray) (by simp [sortZ]) h
  refine ⟨rfl, ?_, h2.2⟩
  have h3 := h2.1
  rw [List.toList_toArray] at h3
  exact h3
theorem grow_none (w : World) : grow w #[] = w := by
  unfold grow; simp
theorem own_putZ0 {w : World} {base : Nat} {e : TypeId} {g n cap m : Nat} {L : List Int} {d : Array Int} (hd : d.size = n) (h : w.ownsRow base e 1 (.slice (some ⟨g, 0, none⟩) n cap) n (L.map (Value.int .i64))) :
    (putRow (Value.int .i64) (Sort.ahead w m) g 0 d).ownsRow base e 1 (.slice (some ⟨g, 0, none⟩) n cap) n (d.toList.map (Value.int .i64)) ∧ w.grownBy (putRow (Value.int .i64) (Sort.ahead w m) g 0 d) (some g) := by
  have := own_putZ (m := m) (os := #[]) hd h
  rwa [grow_none] at this
theorem own_shrinkZ {w : World} {base : Nat} {e : TypeId} {g n k cap : Nat} {L M : List Int} (hk : k ≤ n) (hM : M.length = k) (h : w.ownsRow base e 1 (.slice (some ⟨g, 0, none⟩) n cap) n ((M ++ L).map (Value.int .i64))) :
    w.ownsRow base e 1 (.slice (some ⟨g, 0, none⟩) k cap) k (M.map (Value.int .i64)) := by
  rcases h.2 with ⟨h1, _⟩ | ⟨g', cap', cur, he, hb, hh, hc, hm, hz, ht⟩
  · cases h1
  · injection he with he _ hcap
    injection he with he
    injection he with he
    subst he hcap
    refine ⟨by simp [hM], .inr ⟨g, cap, cur, rfl, hb, hh, by omega, hm, hz, ?_⟩⟩
    have h3 := congrArg (List.take k) ht
    have h4 : List.take k (M.map (Value.int .i64)) = M.map (Value.int .i64) := List.take_of_length_le (by simp [hM])
    rw [List.take_take, Nat.mul_one, Nat.min_eq_left hk, List.map_append, List.take_append_of_le_length (by simp [hM]), h4] at h3
    rw [Nat.mul_one]
    exact h3
theorem compact_le (L : List Int) : (Lib.compact L).length ≤ L.length := by
  unfold Lib.compact Lib.compactUpTo
  rw [List.length_map]
  refine Nat.le_trans (List.length_filter_le ..) ?_
  simp
theorem compactZ_any (base g n cap : Nat) (L : List Int) (w : World) (hn : L.length = n) (hl : n ≤ 100000) (hcap : n ≤ cap) (h : w.ownsRow base 3 1 (.slice (some ⟨g, 0, none⟩) n cap) n (L.map (Value.int .i64))) :
    Calls Tryz.prog 168 #[.slice (some ⟨g, 0, none⟩) n cap] w fun e w' => e = .returned (.slice (some ⟨g, 0, none⟩) (Lib.compact L).length cap) ∧ w'.ownsRow base 3 1 (.slice (some ⟨g, 0, none⟩) (Lib.compact L).length cap) (Lib.compact L).length ((Lib.compact L).map (Value.int .i64)) ∧ w.grownBy w' (some g) := by
  subst hn
  obtain ⟨hH, hg⟩ := holdsZ_own h
  have hle := compact_le L
  have hc := Any.slices_Compact_int compactI g 0 cap L w hH (by omega) hcap
  change Calls Tryz.prog 168 _ _ _ at hc
  refine hc.mono ?_
  rintro e w' ⟨rfl, q, rfl⟩
  have h2 := own_putZ0 (m := q) (d := (Lib.compact L ++ List.replicate (L.length - (Lib.compact L).length) 0).toArray) (by simp; omega) h
  refine ⟨rfl, ?_, h2.2⟩
  have h3 := h2.1
  rw [List.toList_toArray] at h3
  exact own_shrinkZ hle rfl h3
end Go.Proofs.YtijcclpnkfmpnaaGreat
/- Package reach: what an object names. -/
namespace Go.Proofs.YtijcclpnkfmpnaaGreat
open Go.RowKit

theorem indexN_any (A : Option Addr) (n c : Nat) (L : List Nat) (x : Nat) (w : World) (hn : L.length = n) (hl : n ≤ 100000) (hr : RdX ncell 1 w A L) :
    Calls Tryz.prog 203 #[.slice A n c, .int .i64 (x : Int)] w fun e w' => ∃ z : Int, e = .returned (.int .i64 z) ∧ decide (0 ≤ z) = decide (x ∈ L) ∧ w = w' := by
  subst hn
  go_enter Tryz.func203, Tryz.ntmps203
  go_wp2_with fail
  go_loopw [8] (fun i wr => w = wr ∧ ∃ k : Nat, k ≤ L.length ∧ i = .int .i64 k ∧ Hidden (x ∉ L.take k)) (fun i _ => L.length - (intOf i).toNat)
  case atStart => exact ⟨rfl, 0, Nat.zero_le _, rfl, ⟨by simp⟩⟩
  case round =>
    obtain ⟨rfl, k, hk, rfl, hnot⟩ := hrel
    by_cases hlt : k < L.length
    · obtain ⟨b, off, rfl, hcx⟩ := hr k hlt
      have c0 : w.cell? ⟨b, off + k, none⟩ = some (.int .i64 (L[k] : Int)) := by simpa using hcx 0 _ rfl
      have i0 : (0 : Int) ≤ k := by omega
      have i1 : (k : Int) < L.length := by omega
      by_cases he : x = L[k]
      · have hi : Hidden (true = decide (x ∈ L)) := ⟨(decide_eq_true (he ▸ List.getElem_mem hlt)).symm⟩
        have d1 : decide ((x : Int) = (L[k] : Int)) = true := decide_eq_true (by omega)
        have d2 : ((x : Int) == (L[k] : Int)) = true := by simp; omega
        have d3 : decide (x = L[k]) = true := decide_eq_true he
        generalize L[k] = y at *
        clear hcx he
        go_wp2_with fail
        go_ret
        exact ⟨_, rfl, by rw [← hi.out]; simp, rfl⟩
      · have hnk : Hidden (x ∉ L.take (k + 1)) := ⟨fun h => by
          rw [List.take_succ_eq_append_getElem hlt] at h
          rcases List.mem_append.1 h with h | h
          · exact hnot.out h
          · simp only [List.mem_singleton] at h; exact he h⟩
        have d1 : decide ((x : Int) = (L[k] : Int)) = false := decide_eq_false (by omega)
        have d2 : ((x : Int) == (L[k] : Int)) = false := by simp; omega
        have d3 : decide (x = L[k]) = false := decide_eq_false he
        generalize L[k] = y at *
        clear hnot hcx he
        go_wp2_with fail
        go_roundw
        case rel => exact ⟨by trivial, k + 1, by omega, by go_num, hnk⟩
        case measure => simp [intOf]; omega
    · have hi : Hidden (false = decide (x ∈ L)) := ⟨by
        have := hnot.out
        rw [List.take_of_length_le (by omega)] at this
        exact (decide_eq_false this).symm⟩
      go_wp2_with fail
      go_ret
      exact ⟨-1, rfl, by rw [← hi.out]; rfl, rfl⟩
theorem containsN_any (A : Option Addr) (n c : Nat) (L : List Nat) (x : Nat) (w : World) (hn : L.length = n) (hl : n ≤ 100000) (hr : RdX ncell 1 w A L) :
    Calls Tryz.prog 195 #[.slice A n c, .int .i64 (x : Int)] w fun e w' => e = .returned (.bool (decide (x ∈ L))) ∧ w = w' := by
  have HC := Hidden.mk (indexN_any A n c L x w hn hl hr)
  go_enter Tryz.func195, Tryz.ntmps195
  go_wp2_with fail
  refine HC.out.mono ?_
  rintro e w1 ⟨z, rfl, hz, rfl⟩
  have HZ := Hidden.mk hz
  clear hz
  go_wp2_with fail
  go_ret
  exact ⟨congrArg (fun b => Ending.returned (.bool b)) HZ.out, rfl⟩
/-- the objects that some bytes name -/
def refB (l : Bytes) (out : List Nat) (c : UInt8) : List Nat := if hE l (c.toNat : Int) = 0 ∧ c.toNat ∉ out then out ++ [c.toNat] else out
def refsB (l b : Bytes) : List Nat := b.foldl (refB l) []
/-- the objects that an object names -/
def refsL (l : Bytes) (x : Int) : List Nat := refsB l (readL l x 0 (min (gL l x) (gT l x)))
theorem refsB_succ (l b : Bytes) (k : Nat) (hk : k < b.length) : refsB l (b.take (k + 1)) = refB l (refsB l (b.take k)) b[k] := by
  unfold refsB; rw [List.take_succ_eq_append_getElem hk, List.foldl_append]; rfl
theorem refsB_len (l b : Bytes) : ∀ k, k ≤ b.length → (refsB l (b.take k)).length ≤ k
  | 0, _ => by simp [refsB]
  | k + 1, hk => by
    rw [refsB_succ l b k hk]
    have := refsB_len l b k (by omega)
    unfold refB
    split
    · simp; omega
    · omega
theorem refsB_mem (l b : Bytes) : ∀ k, k ≤ b.length → ∀ x ∈ refsB l (b.take k), hE l (x : Int) = 0
  | 0, _, x, h => by simp [refsB] at h
  | k + 1, hk, x, h => by
    rw [refsB_succ l b k hk] at h
    unfold refB at h
    split at h
    · rename_i hc
      rcases List.mem_append.1 h with h | h
      · exact refsB_mem l b k (by omega) x h
      · simp only [List.mem_singleton] at h; subst h; exact hc.1
    · exact refsB_mem l b k (by omega) x h
section
variable {w0 w : World} {F : Nat → Prop} {h : Nat} {l : Bytes}
set_option maxRecDepth 100000 in
theorem refs_any (x : Int) (hp : Hp w0 w F h l) (hg : Good l) :
    Calls Tryz.prog 169 #[.pointer (some ⟨h, 0, none⟩), .int .i64 x] w fun e w' => ∃ v, e = .returned v ∧ w'.ownsRow w.heap.size 3 1 v (refsL l x).length ((refsL l x).flatMap ncell) ∧ Below w.heap.size w w' := by
  obtain ⟨i0', hi0, hz0, hz1, hz2⟩ := info_parts int_infoC
  have HI := Hidden.mk (And.intro hi0 (And.intro hz0 (And.intro hz1 hz2)))
  have HP := Hidden.mk hp
  have HSZ := Hidden.mk (hsize_any x hp)
  have HTG : Hidden (∀ (y : Int) (W : World), Below w.heap.size w W → Calls Tryz.prog 53 #[.pointer (some ⟨h, 0, none⟩), .int .i64 y] W fun e w' => e = .returned (.tuple #[.int .i64 (gT l y), errV (hE l y)]) ∧ Below W.heap.size W w') := ⟨fun y W hW => htag_any y (hp.below hW)⟩
  have hgl : gL l x ≤ 65535 := by
    unfold gL; split
    · have := rLen_le (hR l x); omega
    · omega
  have HRD : Hidden (∀ W, Below w.heap.size w W → Calls Tryz.prog 194 #[.pointer (some ⟨h, 0, none⟩), .int .i64 x, .int .i64 0, .int .i64 (min (gL l x) (gT l x))] W fun e w' => ∃ A' c', e = .returned (.tuple #[.slice A' (readL l x 0 (min (gL l x) (gT l x))).length c', errV (someE l x 0 (min (gL l x) (gT l x)))]) ∧ (readL l x 0 (min (gL l x) (gT l x))).length ≤ c' ∧ Rd w' A' (readL l x 0 (min (gL l x) (gT l x))) ∧ (∀ ad, A' = some ad → W.heap.size ≤ ad.block) ∧ Below W.heap.size W w') := ⟨fun W hW => hread_any x 0 _ (hp.below hW) hg (by omega)⟩
  have hbl : (readL l x 0 (min (gL l x) (gT l x))).length ≤ 65535 := by
    unfold readL; split
    · simp; omega
    · simp
  have HRL : Hidden (refsL l x = refsB l (readL l x 0 (min (gL l x) (gT l x)))) := ⟨rfl⟩
  generalize readL l x 0 (min (gL l x) (gT l x)) = b at *
  generalize refsL l x = R at *
  generalize errV (someE l x 0 (min (gL l x) (gT l x))) = er at *
  have HTX := Hidden.mk (HTG.out x)
  generalize errV (hE l x) = ex at *
  generalize gL l x = n0 at *
  generalize gT l x = t0 at *
  clear hi0 hz0 hz1 hz2 hp hg
  go_enter Tryz.func169, Tryz.ntmps169
  go_wp2_with fail
  refine HSZ.out.mono ?_
  rintro e w1 ⟨rfl, hb1⟩
  have HB1 := Hidden.mk hb1
  clear hb1 HSZ
  go_wp2_with fail
  refine (HTX.out w1 HB1.out).mono ?_
  rintro e w2 ⟨rfl, hb2⟩
  have HB2 := Hidden.mk (HB1.out.trans (hb2.mono HB1.out.size))
  clear hb2 HTX HB1
  go_wp2_with fail
  refine (HRD.out w2 HB2.out).mono ?_
  rintro e w3 ⟨A3, c3, rfl, hc3, hr3, -, hb3⟩
  have HB3 := Hidden.mk (HB2.out.trans (hb3.mono HB2.out.size))
  have HR3 := Hidden.mk hr3
  generalize hm : b.length = m at *
  have HM := Hidden.mk hm
  clear hc3 hr3 hb3 HRD HB2 hm
  go_wp2_with fail
  go_loopg [4, 38] m (fun q v i wr => ∃ k : Nat, k ≤ m ∧ q = m - k ∧ i = .int .i64 (k : Int) ∧ Hidden (Below w3.heap.size w3 wr ∧ wr.ownsRow w3.heap.size 3 1 v (refsB l (b.take k)).length ((refsB l (b.take k)).flatMap ncell)))
  case atStart => exact ⟨0, by omega, rfl, rfl, ⟨Below.refl _ _, World.ownsRow_nil _ _ _ _⟩⟩
  case round =>
    obtain ⟨k, hk, rfl, rfl, hst⟩ := hrel
    by_cases hlt : k < m
    · have hkb : k < b.length := by rw [HM.out]; exact hlt
      have HS := Hidden.mk (refsB_succ l b k hkb)
      have hll := refsB_len l b k (by omega)
      obtain ⟨pb, ob, rfl, x0⟩ := (HR3.out.below hst.out.1) k hkb
      obtain ⟨A4, c4, rfl, hc4, hc4m⟩ := own_split hst.out.2
      have hc255 := u8_lt b[k]
      have HO4 := Hidden.mk hst.out
      have HBW : Hidden (Below w.heap.size w wr) := ⟨HB3.out.trans (hst.out.1.mono HB3.out.size)⟩
      generalize b[k] = cb at *
      generalize refsB l (b.take k) = L at *
      generalize hL2 : refsB l (b.take (k + 1)) = L2 at *
      have HL2 := Hidden.mk hL2
      have i0 : (0 : Int) ≤ k := by omega
      have i1 : (k : Int) < m := by omega
      have s1 : IntKind.i64.wrap (cb.toNat : Int) = (cb.toNat : Int) := IntWalk.i64_in _ (by omega)
      have s3 : IntKind.i64.wrap ((k : Int) + 1) = (k : Int) + 1 := IntWalk.i64_in _ (by omega)
      have HT := Hidden.mk (HTG.out (cb.toNat : Int) wr HBW.out)
      generalize gT l (cb.toNat : Int) = tg at *
      clear hst hL2
      by_cases h0 : hE l (cb.toNat : Int) = 0
      · rw [h0, show errV 0 = Value.nilIface from rfl] at HT
        have HS1 : Hidden (L2 = if cb.toNat ∉ L then L ++ [cb.toNat] else L) := ⟨by rw [HS.out]; unfold refB; simp only [h0, true_and]⟩
        clear h0 HS
        go_wp2_with fail
        refine HT.out.mono ?_
        rintro e w5 ⟨rfl, hb5⟩
        have HO5 : Hidden (Below w3.heap.size w3 w5 ∧ w5.ownsRow w3.heap.size 3 1 (.slice A4 L.length c4) L.length (L.flatMap ncell)) := ⟨HO4.out.1.trans (hb5.mono HO4.out.1.size), own_below HO4.out.2 hb5⟩
        have HCN := Hidden.mk (containsN_any A4 L.length c4 L cb.toNat w5 rfl (by omega) (own_rdX3 (f := ncell) (fun _ => rfl) rfl HO5.out.2))
        clear hb5 HT HO4
        by_cases hin : cb.toNat ∈ L
        · rw [decide_eq_true hin] at HCN
          have HLL : Hidden (L2 = L) := ⟨by rw [HS1.out, if_neg (fun h => h hin)]⟩
          clear hin HS1
          go_wp2_with fail
          refine HCN.out.mono ?_
          rintro e w6 ⟨rfl, rfl⟩
          clear HCN
          go_wp2_with fail
          go_roundg (m - (k + 1))
          case measure => omega
          case rel => exact ⟨k + 1, by omega, rfl, by go_num, ⟨by rw [HL2.out, HLL.out]; exact HO5.out⟩⟩
        · rw [decide_eq_false hin] at HCN
          have HLL : Hidden (L2 = L ++ [cb.toNat]) := ⟨by rw [HS1.out, if_pos hin]⟩
          obtain ⟨hi0, hz0, hz1, hz2⟩ := HI.out
          clear hin HS1
          go_wp2_with fail
          refine HCN.out.mono ?_
          rintro e w6 ⟨rfl, rfl⟩
          clear HCN
          go_wp2_with (at_builtin; refine wpList_append_lies _ rfl (.tmp 58) (.tmp 61) _ rfl w3.heap.size 3 i0' _ 1 8 Tryz.underlying24 hi0 hz0 hz1 hz2 rfl (by decide) (.slice A4 L.length c4) L.length (L.flatMap ncell) rfl (own_below HO5.out.2 ((Below.refl _ _).alloc (Nat.le_refl _) _)) ⟨(w5).heap.size, 0, none⟩ 1 1 [.int .i64 (cb.toNat : Int)] rfl rfl (World.news_of_block (cs := #[.int .i64 (cb.toNat : Int)]) (t := 3) (fr := (0, 0)) (heap_alloc_new (w5) _)) (by simp [Value.oneCell']) (by omega) (by simp only [maxLen]; omega) (by omega) (by have hz_ := HO5.out.1.size; rw [World.size_alloc]; omega) ((w5).heap.size + 1) (by simp) ?_; intro g8 cap8 w8 hown8 hg8 hat8 hlt8)
          have hgW := grown_trans' ((Below.refl w5.heap.size w5).alloc (Nat.le_refl _) _) hg8
          have hB8 : Below w3.heap.size w3 w8 := HO5.out.1.grown hgW HO5.out.1.size (fun q hq => (HO5.out.2.lt q hq).1)
          have HF : Hidden (Below w3.heap.size w3 w8 ∧ w8.ownsRow w3.heap.size 3 1 (.slice (some ⟨g8, 0, none⟩) (L.length + 1) cap8) L2.length (L2.flatMap ncell)) := ⟨hB8, by rw [HLL.out]; simpa [ncell] using hown8⟩
          clear hgW hB8 hown8 hg8 hat8 hlt8 hi0 hz0 hz1 hz2
          go_roundg (m - (k + 1))
          case measure => omega
          case rel => exact ⟨k + 1, by omega, rfl, by go_num, ⟨by rw [HL2.out]; exact HF.out⟩⟩
      · obtain ⟨ec, hec⟩ : ∃ ec, hE l (cb.toNat : Int) = ec + 1 := ⟨hE l (cb.toNat : Int) - 1, by omega⟩
        have HLL : Hidden (L2 = L) := ⟨by rw [HS.out]; unfold refB; rw [if_neg (fun h => h0 h.1)]⟩
        rw [hec, show errV (ec + 1) = .iface 76 (.int .i64 ((ec + 1 : Nat) : Int)) from rfl] at HT
        clear h0 hec HS
        go_wp2_with fail
        refine HT.out.mono ?_
        rintro e w5 ⟨rfl, hb5⟩
        have HO5 : Hidden (Below w3.heap.size w3 w5 ∧ w5.ownsRow w3.heap.size 3 1 (.slice A4 L.length c4) L.length (L.flatMap ncell)) := ⟨HO4.out.1.trans (hb5.mono HO4.out.1.size), own_below HO4.out.2 hb5⟩
        clear hb5 HT HO4
        go_wp2_with fail
        go_roundg (m - (k + 1))
        case measure => omega
        case rel => exact ⟨k + 1, by omega, rfl, by go_num, ⟨by rw [HL2.out, HLL.out]; exact HO5.out⟩⟩
    · have hkm : k = m := by omega
      have hT := hst.out
      rw [hkm, List.take_of_length_le (by rw [HM.out]; exact Nat.le_refl _), ← HRL.out] at hT
      have HF : Hidden (wr.ownsRow w.heap.size 3 1 u4 R.length (R.flatMap ncell) ∧ Below w.heap.size w wr) := ⟨own_base hT.2 HB3.out.size, HB3.out.trans (hT.1.mono HB3.out.size)⟩
      have dk : decide ((k : Int) < m) = false := decide_eq_false (by omega)
      have dk' : decide (k < m) = false := decide_eq_false (by omega)
      clear hT hst hkm
      go_wp2_with fail
      go_ret
      exact ⟨_, rfl, HF.out.1, HF.out.2⟩
end
end Go.Proofs.YtijcclpnkfmpnaaGreat
/- Package reach, plain: who is led to, level by level, and by which way. -/
namespace Go.Proofs.YtijcclpnkfmpnaaGreat
open Go.RowKit

def sortNat (L : List Nat) : List Nat := L.mergeSort (fun x y => decide (x ≤ y))
theorem sortNat_mem {L : List Nat} {x : Nat} : x ∈ sortNat L ↔ x ∈ L := by unfold sortNat; exact List.mem_mergeSort
theorem sortNat_len (L : List Nat) : (sortNat L).length = L.length := by unfold sortNat; exact List.length_mergeSort _
theorem sortNat_up (L : List Nat) : (sortNat L).Pairwise (· ≤ ·) := by
  have := List.pairwise_mergeSort (le := fun x y : Nat => decide (x ≤ y)) (fun a b c h1 h2 => by simp only [decide_eq_true_eq] at *; omega) (fun a b => by simp only [Bool.or_eq_true, decide_eq_true_eq]; omega) L
  exact this.imp fun h => of_decide_eq_true h
/-- what compacting leaves, plain -/
def dedup : List Nat → List Nat
  | [] => []
  | [x] => [x]
  | x :: y :: r => if x = y then dedup (y :: r) else x :: dedup (y :: r)
theorem dedup_mem (x : Nat) : ∀ L, x ∈ dedup L ↔ x ∈ L
  | [] => Iff.rfl
  | [y] => Iff.rfl
  | y :: z :: r => by
    unfold dedup
    split
    · rename_i h
      rw [dedup_mem x (z :: r), h]; simp
    · rw [List.mem_cons, dedup_mem x (z :: r), List.mem_cons (b := y)]
theorem dedup_up : ∀ L : List Nat, L.Pairwise (· ≤ ·) → (dedup L).Pairwise (· < ·)
  | [], _ => List.Pairwise.nil
  | [y], _ => List.pairwise_singleton ..
  | y :: z :: r, h => by
    have h1 := (List.pairwise_cons.1 h)
    unfold dedup
    split
    · exact dedup_up _ h1.2
    · rename_i hn
      refine List.pairwise_cons.2 ⟨fun a ha => ?_, dedup_up _ h1.2⟩
      have ha' := (dedup_mem a _).1 ha
      have h2 := List.pairwise_cons.1 h1.2
      have hyz := h1.1 z (List.mem_cons_self ..)
      rcases List.mem_cons.1 ha' with rfl | hr
      · omega
      · have := h2.1 a hr; omega
theorem mem_compact {L : List Int} {x : Int} : x ∈ Lib.compact L ↔ x ∈ L := by
  unfold Lib.compact Lib.compactUpTo
  rw [List.mem_map]
  constructor
  · rintro ⟨j, hj, rfl⟩
    have hj' := List.mem_range.1 (List.mem_filter.1 hj).1
    rw [getElem!_pos _ j (by simpa using hj')]
    simp
  · intro hx
    have hex : ∃ j : Nat, ∃ h : j < L.length, L[j] = x := by
      obtain ⟨j, hj, he⟩ := List.getElem_of_mem hx
      exact ⟨j, hj, he⟩
    -- the first place where it stands
    have hmin : ∃ j : Nat, (∃ h : j < L.length, L[j] = x) ∧ ∀ i, i < j → ¬ ∃ h : i < L.length, L[i] = x := by
      obtain ⟨j, hj⟩ := hex
      induction j using Nat.strongRecOn with
      | ind j ih =>
        by_cases hb : ∃ i, i < j ∧ ∃ h : i < L.length, L[i] = x
        · obtain ⟨i, hi, hx'⟩ := hb; exact ih i hi hx'
        · exact ⟨j, hj, fun i hi hx' => hb ⟨i, hi, hx'⟩⟩
    obtain ⟨j, ⟨hj, he⟩, hno⟩ := hmin
    refine ⟨j, List.mem_filter.2 ⟨List.mem_range.2 hj, ?_⟩, ?_⟩
    · unfold Lib.keeps
      refine decide_eq_true ?_
      by_cases h0 : j = 0
      · exact .inl h0
      · refine .inr fun h => hno (j - 1) (by omega) ⟨by omega, ?_⟩
        rw [getElem!_pos _ j (by simpa using hj), getElem!_pos _ (j - 1) (by simp; omega)] at h
        simpa [he] using h.symm
    · rw [getElem!_pos _ j (by simpa using hj)]; simpa using he
theorem compact_up (L : List Int) (h : L.Pairwise (· ≤ ·)) : (Lib.compact L).Pairwise (· < ·) := by
  unfold Lib.compact Lib.compactUpTo
  refine List.pairwise_map.2 ?_
  refine List.Pairwise.imp_of_mem ?_ ((List.pairwise_lt_range (n := L.length)).filter _)
  intro i j hi hj hij
  have hi' := List.mem_range.1 (List.mem_filter.1 hi).1
  have hj' := List.mem_range.1 (List.mem_filter.1 hj).1
  have hk := of_decide_eq_true (List.mem_filter.1 hj).2
  have hp := List.pairwise_iff_getElem.1 h
  rw [getElem!_pos _ i (by simpa using hi'), getElem!_pos _ j (by simpa using hj')]
  rcases hk with h0 | hk
  · omega
  · rw [getElem!_pos _ j (by simpa using hj'), getElem!_pos _ (j - 1) (by simp; omega)] at hk
    have h1 : L[j - 1] ≤ L[j] := hp (j - 1) j (by omega) hj' (by omega)
    have h2 : L[i] ≤ L[j - 1] := by
      by_cases e : i = j - 1
      · subst e; exact Int.le_refl _
      · exact hp i (j - 1) hi' (by omega) (by omega)
    simp only [List.getElem_toArray] at hk ⊢
    omega
/-- two lists that rise and have the same members are one -/
theorem up_ext : ∀ {A B : List Nat}, A.Pairwise (· < ·) → B.Pairwise (· < ·) → (∀ x, x ∈ A ↔ x ∈ B) → A = B
  | [], [], _, _, _ => rfl
  | [], b :: B, _, _, h => absurd ((h b).2 (List.mem_cons_self ..)) (by simp)
  | a :: A, [], _, _, h => absurd ((h a).1 (List.mem_cons_self ..)) (by simp)
  | a :: A, b :: B, hA, hB, h => by
    have ha := List.pairwise_cons.1 hA
    have hb := List.pairwise_cons.1 hB
    have e : a = b := by
      have h1 := (h a).1 (List.mem_cons_self ..)
      have h2 := (h b).2 (List.mem_cons_self ..)
      rcases List.mem_cons.1 h1 with h1 | h1
      · exact h1
      · rcases List.mem_cons.1 h2 with h2 | h2
        · exact h2.symm
        · have := hb.1 _ h1; have := ha.1 _ h2; omega
    subst e
    congr 1
    refine up_ext ha.2 hb.2 fun x => ?_
    constructor
    · intro hx
      rcases List.mem_cons.1 ((h x).1 (List.mem_cons_of_mem _ hx)) with e | hx'
      · subst e; have := ha.1 _ hx; omega
      · exact hx'
    · intro hx
      rcases List.mem_cons.1 ((h x).2 (List.mem_cons_of_mem _ hx)) with e | hx'
      · subst e; have := hb.1 _ hx; omega
      · exact hx'
theorem compact_cast (L : List Nat) : Lib.compact ((sortNat L).map fun i : Nat => (i : Int)) = (dedup (sortNat L)).map fun i : Nat => (i : Int) := by
  have hs : ((sortNat L).map fun i : Nat => (i : Int)).Pairwise (· ≤ ·) := List.pairwise_map.2 ((sortNat_up L).imp fun h => by omega)
  have h1 := compact_up _ hs
  have hc : Lib.compact ((sortNat L).map fun i : Nat => (i : Int)) = ((Lib.compact ((sortNat L).map fun i : Nat => (i : Int))).map Int.toNat).map fun i : Nat => (i : Int) := by
    rw [List.map_map]
    conv => lhs; rw [← List.map_id (Lib.compact _)]
    refine List.map_congr_left fun x hx => ?_
    obtain ⟨k, -, rfl⟩ := List.mem_map.1 (mem_compact.1 hx)
    simp
  rw [hc]
  congr 1
  refine up_ext ?_ (dedup_up _ (sortNat_up L)) fun x => ?_
  · refine List.pairwise_map.2 (h1.imp_of_mem fun {a b} ha hb hab => ?_)
    obtain ⟨k, -, rfl⟩ := List.mem_map.1 (mem_compact.1 ha)
    obtain ⟨m, -, rfl⟩ := List.mem_map.1 (mem_compact.1 hb)
    simp only [Int.toNat_natCast]; omega
  · rw [dedup_mem, List.mem_map]
    constructor
    · rintro ⟨y, hy, rfl⟩
      obtain ⟨k, hk, rfl⟩ := List.mem_map.1 (mem_compact.1 hy)
      simpa using hk
    · intro hx
      exact ⟨(x : Int), mem_compact.2 (List.mem_map.2 ⟨x, hx, rfl⟩), by simp⟩

/-- ways: to each object that is led to, the way there -/
abbrev Ways := Nat → Option (List Nat)
/-- who is ahead of the last one; the last one, if nobody is -/
def par (p : List Nat) : Nat := p.dropLast.getLast?.getD (p.getLast?.getD 0)
theorem par_one (y : Nat) : par [y] = y := rfl
theorem par_two (q : List Nat) (x y : Nat) : par (q ++ [x, y]) = x := by
  unfold par
  rw [show q ++ [x, y] = (q ++ [x]) ++ [y] by simp, List.dropLast_concat, List.getLast?_concat]; rfl
def wset (W : Ways) (y : Nat) (p : List Nat) : Ways := fun q => if q = y then some p else W q
def wayOf (W : Ways) (x : Nat) : List Nat := (W x).getD []
def stepY (x : Nat) (s : Ways × List Nat) (y : Nat) : Ways × List Nat := if (s.1 y).isSome then s else (wset s.1 y (wayOf s.1 x ++ [y]), s.2 ++ [y])
def stepX (l : Bytes) (s : Ways × List Nat) (x : Nat) : Ways × List Nat := (sortNat (refsL l (x : Int))).foldl (stepY x) s
def lvl (l : Bytes) (s : Ways × List Nat) : Ways × List Nat := s.2.foldl (stepX l) (s.1, [])
def rootsH (l : Bytes) : List Nat := (rootsL l).map (·.2)
def startW (l : Bytes) : Ways := fun q => if q ∈ rootsH l then some [q] else none
def lvlN (l : Bytes) : Nat → Ways × List Nat
  | 0 => (startW l, dedup (sortNat (rootsH l)))
  | k + 1 => lvl l (lvlN l k)
def fromW (l : Bytes) : Ways := (lvlN l 41).1

/-- what holds of ways while they are found: D is who has one -/
structure WOk (l : Bytes) (W : Ways) (D : List Nat) : Prop where
  dn : D.Nodup
  dk : ∀ k, (W k).isSome = true ↔ k ∈ D
  dh : ∀ k ∈ D, hE l (k : Int) = 0
  ways : ∀ y p, W y = some p → ∃ q, p = q ++ [y] ∧ ((q = [] ∧ y ∈ rootsH l) ∨ ∃ x, W x = some q ∧ y ∈ refsL l (x : Int))
  roots : ∀ r ∈ rootsH l, W r = some [r]
theorem hE_nat {l : Bytes} {k : Nat} (h : hE l (k : Int) = 0) : 1 ≤ k ∧ k ≤ 40 := by
  obtain ⟨j, hj, e, -⟩ := hE_zero h
  omega
theorem nodup_le1 {D : List Nat} (hn : D.Nodup) {m : Nat} (h : ∀ k ∈ D, 1 ≤ k ∧ k ≤ m) : D.length ≤ m := by
  have hs : D ⊆ (List.range m).map (· + 1) := fun k hk => by
    have := h k hk
    exact List.mem_map.2 ⟨k - 1, List.mem_range.2 (by omega), by omega⟩
  have := hn.length_le_of_subset hs
  simpa using this
theorem WOk.le {l : Bytes} {W : Ways} {D : List Nat} (h : WOk l W D) : D.length ≤ 40 := nodup_le1 h.dn fun k hk => hE_nat (h.dh k hk)
theorem refsL_mem {l : Bytes} {x y : Int} {z : Nat} (h : z ∈ refsL l x) : hE l (z : Int) = 0 := by
  unfold refsL at h
  have := refsB_mem l (readL l x 0 (min (gL l x) (gT l x))) _ (Nat.le_refl _) z
  rw [List.take_length] at this
  exact this h
theorem rootsH_mem {l : Bytes} (hg : Good l) {r : Nat} (h : r ∈ rootsH l) : hE l (r : Int) = 0 := by
  unfold rootsH at h
  obtain ⟨x, hx, rfl⟩ := List.mem_map.1 h
  exact (good_roots hg hx).2.2
theorem startW_ok {l : Bytes} (hg : Good l) : WOk l (startW l) (dedup (sortNat (rootsH l))) where
  dn := (dedup_up _ (sortNat_up _)).imp fun h => by omega
  dk k := by
    rw [dedup_mem, sortNat_mem]; unfold startW; split <;> simp_all
  dh k hk := rootsH_mem hg (sortNat_mem.1 ((dedup_mem _ _).1 hk))
  ways y p h := by
    unfold startW at h; split at h
    · rename_i hy; cases h; exact ⟨[], rfl, .inl ⟨rfl, hy⟩⟩
    · cases h
  roots r hr := by unfold startW; rw [if_pos hr]
theorem WOk.set {l : Bytes} {W : Ways} {D : List Nat} (h : WOk l W D) {x y : Nat} (hx : x ∈ D) (hy : y ∉ D) (hr : y ∈ refsL l (x : Int)) : WOk l (wset W y (wayOf W x ++ [y])) (D ++ [y]) := by
  obtain ⟨q, hq⟩ := Option.isSome_iff_exists.1 ((h.dk x).2 hx)
  have hne : ∀ k, k ∈ D → k ≠ y := fun k hk e => hy (e ▸ hk)
  have hold : ∀ k, k ∈ D → wset W y (wayOf W x ++ [y]) k = W k := fun k hk => by unfold wset; rw [if_neg (hne k hk)]
  have hin : ∀ k p, W k = some p → k ∈ D := fun k p hk => (h.dk k).1 (by rw [hk]; rfl)
  refine ⟨?_, fun k => ?_, fun k hk => ?_, fun k p hk => ?_, fun r hr => ?_⟩
  · exact List.nodup_append.2 ⟨h.dn, by simp, fun a ha b hb => by simp only [List.mem_singleton] at hb; subst hb; exact hne a ha⟩
  · by_cases e : k = y
    · subst e; unfold wset; simp
    · unfold wset; rw [if_neg e, h.dk k]; simp [e]
  · rcases List.mem_append.1 hk with hk | hk
    · exact h.dh k hk
    · simp only [List.mem_singleton] at hk; subst hk; exact refsL_mem (y := 0) hr
  · by_cases e : k = y
    · subst e
      unfold wset at hk; rw [if_pos rfl] at hk
      cases hk
      refine ⟨_, rfl, .inr ⟨x, ?_, hr⟩⟩
      rw [hold x hx, hq]; unfold wayOf; rw [hq]; rfl
    · unfold wset at hk; rw [if_neg e] at hk
      obtain ⟨q', e1, h1⟩ := h.ways k p hk
      refine ⟨q', e1, h1.imp id fun ⟨x', e2, e3⟩ => ⟨x', ?_, e3⟩⟩
      rw [hold x' (hin _ _ e2)]; exact e2
  · rw [hold r ((h.dk r).1 (by rw [h.roots r hr]; rfl))]; exact h.roots r hr
/-- a level that is under way: ways W of D, of which N are new -/
structure LOk (l : Bytes) (s : Ways × List Nat) (D : List Nat) (W0 : Ways) (D0 : List Nat) : Prop where
  ok : WOk l s.1 D
  spl : D = D0 ++ s.2
  old : ∀ k, k ∈ D0 → s.1 k = W0 k
theorem LOk.stepY {l : Bytes} {s : Ways × List Nat} {D D0 : List Nat} {W0 : Ways} (h : LOk l s D W0 D0) {x y : Nat} (hx : x ∈ D0) (hr : y ∈ refsL l (x : Int)) :
    ∃ D', LOk l (stepY x s y) D' W0 D0 ∧ y ∈ D' ∧ (∀ k ∈ D, k ∈ D') ∧ D'.length = (if (s.1 y).isSome then D.length else D.length + 1) := by
  unfold Go.Proofs.YtijcclpnkfmpnaaGreat.stepY
  by_cases hy : (s.1 y).isSome
  · rw [if_pos hy, if_pos hy]
    exact ⟨D, h, (h.ok.dk y).1 hy, fun _ hk => hk, rfl⟩
  · rw [if_neg hy, if_neg hy]
    have hyD : y ∉ D := fun hk => hy ((h.ok.dk y).2 hk)
    have hxD : x ∈ D := by rw [h.spl]; exact List.mem_append_left _ hx
    refine ⟨D ++ [y], ⟨h.ok.set hxD hyD hr, by rw [h.spl, List.append_assoc], fun k hk => ?_⟩, by simp, fun k hk => List.mem_append_left _ hk, by simp⟩
    have hk' : k ≠ y := fun e => hyD (by rw [h.spl, ← e]; exact List.mem_append_left _ hk)
    show wset s.1 y _ k = _
    unfold wset; rw [if_neg hk']; exact h.old k hk
theorem LOk.foldY {l : Bytes} {D0 : List Nat} {W0 : Ways} {x : Nat} (hx : x ∈ D0) : ∀ (L : List Nat) (s : Ways × List Nat) (D : List Nat), LOk l s D W0 D0 → (∀ y ∈ L, y ∈ refsL l (x : Int)) →
    ∃ D', LOk l (L.foldl (Go.Proofs.YtijcclpnkfmpnaaGreat.stepY x) s) D' W0 D0 ∧ (∀ y ∈ L, y ∈ D') ∧ (∀ k ∈ D, k ∈ D')
  | [], s, D, h, _ => ⟨D, h, fun _ hy => by simp at hy, fun _ hk => hk⟩
  | y :: L, s, D, h, hL => by
    obtain ⟨D1, h1, hy1, hd1, -⟩ := h.stepY hx (hL y (List.mem_cons_self ..))
    obtain ⟨D2, h2, hy2, hd2⟩ := LOk.foldY hx L _ D1 h1 (fun z hz => hL z (List.mem_cons_of_mem _ hz))
    refine ⟨D2, h2, fun z hz => ?_, fun k hk => hd2 k (hd1 k hk)⟩
    rcases List.mem_cons.1 hz with rfl | hz
    · exact hd2 _ hy1
    · exact hy2 z hz
theorem LOk.stepX {l : Bytes} {s : Ways × List Nat} {D D0 : List Nat} {W0 : Ways} (h : LOk l s D W0 D0) {x : Nat} (hx : x ∈ D0) :
    ∃ D', LOk l (stepX l s x) D' W0 D0 ∧ (∀ y ∈ refsL l (x : Int), y ∈ D') ∧ (∀ k ∈ D, k ∈ D') := by
  obtain ⟨D', h1, h2, h3⟩ := LOk.foldY hx (sortNat (refsL l (x : Int))) s D h (fun y hy => sortNat_mem.1 hy)
  exact ⟨D', h1, fun y hy => h2 y (sortNat_mem.2 hy), h3⟩
theorem LOk.foldX {l : Bytes} {D0 : List Nat} {W0 : Ways} : ∀ (L : List Nat) (s : Ways × List Nat) (D : List Nat), LOk l s D W0 D0 → (∀ x ∈ L, x ∈ D0) →
    ∃ D', LOk l (L.foldl (Go.Proofs.YtijcclpnkfmpnaaGreat.stepX l) s) D' W0 D0 ∧ (∀ x ∈ L, ∀ y ∈ refsL l (x : Int), y ∈ D') ∧ (∀ k ∈ D, k ∈ D')
  | [], s, D, h, _ => ⟨D, h, fun _ hy => by simp at hy, fun _ hk => hk⟩
  | x :: L, s, D, h, hL => by
    obtain ⟨D1, h1, hy1, hd1⟩ := h.stepX (hL x (List.mem_cons_self ..))
    obtain ⟨D2, h2, hy2, hd2⟩ := LOk.foldX L _ D1 h1 (fun z hz => hL z (List.mem_cons_of_mem _ hz))
    refine ⟨D2, h2, fun z hz => ?_, fun k hk => hd2 k (hd1 k hk)⟩
    rcases List.mem_cons.1 hz with rfl | hz
    · exact fun y hy => hd2 _ (hy1 y hy)
    · exact hy2 z hz
/-- between two levels: D has ways, row are those that have not been asked yet -/
structure LvOk (l : Bytes) (s : Ways × List Nat) (D : List Nat) : Prop where
  ok : WOk l s.1 D
  row : ∀ x ∈ s.2, x ∈ D
  closed : ∀ x ∈ D, x ∉ s.2 → ∀ y ∈ refsL l (x : Int), y ∈ D
theorem LvOk.start {l : Bytes} (hg : Good l) : LvOk l (lvlN l 0) (dedup (sortNat (rootsH l))) := ⟨startW_ok hg, fun _ h => h, fun x h hn => absurd h hn⟩
theorem LvOk.next {l : Bytes} {s : Ways × List Nat} {D : List Nat} (h : LvOk l s D) : ∃ D', LvOk l (lvl l s) D' ∧ D'.length = D.length + (lvl l s).2.length ∧ (∀ k ∈ D, k ∈ D') := by
  obtain ⟨D', h1, h2, h3⟩ := LOk.foldX (l := l) (D0 := D) (W0 := s.1) s.2 (s.1, []) D ⟨h.ok, by simp, fun _ _ => rfl⟩ h.row
  refine ⟨D', ⟨h1.ok, fun x hx => by rw [h1.spl]; exact List.mem_append_right _ hx, fun x hx hn y hy => ?_⟩, by rw [h1.spl, List.length_append]; rfl, h3⟩
  have hxD : x ∈ D := by
    rw [h1.spl] at hx
    rcases List.mem_append.1 hx with hx | hx
    · exact hx
    · exact absurd hx hn
  by_cases hr : x ∈ s.2
  · exact h2 x hr y hy
  · exact h3 y (h.closed x hxD hr y hy)
theorem lvl_nil (l : Bytes) (W : Ways) : lvl l (W, []) = (W, []) := rfl
theorem LvOk.at_ {l : Bytes} (hg : Good l) : ∀ k, ∃ D, LvOk l (lvlN l k) D ∧ ((lvlN l k).2 = [] ∨ k < D.length)
  | 0 => by
    refine ⟨_, LvOk.start hg, ?_⟩
    by_cases h : (lvlN l 0).2 = []
    · exact .inl h
    · exact .inr (List.length_pos_iff.2 h)
  | k + 1 => by
    obtain ⟨D, h, hd⟩ := LvOk.at_ hg k
    obtain ⟨D', h', hl, -⟩ := h.next
    refine ⟨D', h', ?_⟩
    by_cases hn : (lvlN l (k + 1)).2 = []
    · exact .inl hn
    · right
      have hp : 0 < (lvl l (lvlN l k)).2.length := List.length_pos_iff.2 hn
      rcases hd with hd | hd
      · refine absurd ?_ hn
        show (lvl l (lvlN l k)).2 = []
        have e : lvlN l k = ((lvlN l k).1, []) := by rw [← hd]
        rw [e]; rfl
      · omega
theorem lvlN_end {l : Bytes} (hg : Good l) : (lvlN l 41).2 = [] := by
  obtain ⟨D, h, hd⟩ := LvOk.at_ hg 41
  rcases hd with hd | hd
  · exact hd
  · have := h.ok.le; omega
/-- once a row is empty nothing more comes -/
theorem lvlN_stop {l : Bytes} {k : Nat} (h : (lvlN l k).2 = []) : ∀ m, lvlN l (k + m) = lvlN l k
  | 0 => rfl
  | m + 1 => by
    show lvl l (lvlN l (k + m)) = _
    rw [lvlN_stop h m]
    have e : lvlN l k = ((lvlN l k).1, []) := by rw [← h]
    rw [e]; rfl
theorem fromW_of {l : Bytes} {k : Nat} (hk : k ≤ 41) (h : (lvlN l k).2 = []) : (lvlN l k).1 = fromW l := by
  unfold fromW
  rw [show 41 = k + (41 - k) by omega, lvlN_stop h]
/-- what the whole of it comes to -/
theorem fromW_ok {l : Bytes} (hg : Good l) : ∃ D, WOk l (fromW l) D ∧ ∀ x ∈ D, ∀ y ∈ refsL l (x : Int), y ∈ D := by
  obtain ⟨D, h, -⟩ := LvOk.at_ hg 41
  exact ⟨D, h.ok, fun x hx => h.closed x hx (by rw [lvlN_end hg]; simp)⟩
end Go.Proofs.YtijcclpnkfmpnaaGreat
/- Sorting, compacting and turning own rows of numbers. -/
namespace Go.Proofs.YtijcclpnkfmpnaaGreat
open Go.RowKit Go.Sort Go.Shelf Go.Lib

theorem ncell_map (L : List Nat) : L.flatMap ncell = (L.map fun i : Nat => (i : Int)).map (Value.int .i64) := by
  rw [List.map_map, List.map_eq_flatMap]; rfl
theorem sortZ_cast (L : List Nat) : sortZ (L.map fun i : Nat => (i : Int)) = (sortNat L).map fun i : Nat => (i : Int) := by
  unfold sortZ sortNat
  rw [List.map_mergeSort]
  intro a _ b _
  simp
theorem sortNat_any (base n : Nat) (v : Value) (L : List Nat) (w : World) (hn : L.length = n) (hl : n ≤ 100000) (h : w.ownsRow base 3 1 v n (L.flatMap ncell)) :
    Calls Tryz.prog 96 #[v] w fun e w' => e = .returned (.tuple #[]) ∧ w'.ownsRow base 3 1 v n ((sortNat L).flatMap ncell) ∧ w.grownBy w' v.ownBlock := by
  rcases h.2 with ⟨rfl, h0⟩ | ⟨g, cap, cur, rfl, -⟩
  · have hL : L = [] := List.eq_nil_of_length_eq_zero (by omega)
    subst hL h0
    have hc := AnyM.slices_Sort_int_none sortI none 0 w
    change Calls Tryz.prog 96 _ _ _ at hc
    refine hc.mono ?_
    rintro e w' ⟨rfl, rfl⟩
    exact ⟨rfl, by rw [show sortNat [] = [] by simp [sortNat]]; exact h, World.grownBy.refl _ _⟩
  · have h' := h
    rw [ncell_map] at h'
    have hc := sortZ_any base g n cap _ w (by simpa using hn) hl h'
    refine hc.mono ?_
    rintro e w' ⟨rfl, h1, h2⟩
    rw [sortZ_cast, ← ncell_map] at h1
    exact ⟨rfl, h1, h2⟩
theorem compact_none (w : World) : Calls Tryz.prog 168 #[.slice none 0 0] w fun e w' => e = .returned (.slice none 0 0) ∧ w = w' := by
  go_enter Tryz.func168, Tryz.ntmps168
  go_wp2_with fail
  go_ret
  exact ⟨rfl, rfl⟩
theorem compactNat_any (base n : Nat) (v : Value) (L : List Nat) (w : World) (hn : L.length = n) (hl : n ≤ 100000) (h : w.ownsRow base 3 1 v n ((sortNat L).flatMap ncell)) :
    Calls Tryz.prog 168 #[v] w fun e w' => ∃ v', e = .returned v' ∧ w'.ownsRow base 3 1 v' (dedup (sortNat L)).length ((dedup (sortNat L)).flatMap ncell) ∧ w.grownBy w' v.ownBlock ∧ v'.ownBlock = v.ownBlock := by
  rcases h.2 with ⟨rfl, h0⟩ | ⟨g, cap, cur, rfl, -, -, hcap, -⟩
  · have hL : L = [] := List.eq_nil_of_length_eq_zero (by omega)
    subst hL h0
    have hs : sortNat [] = [] := by unfold sortNat; simp
    rw [hs] at h ⊢
    refine (compact_none w).mono ?_
    rintro e w' ⟨rfl, rfl⟩
    exact ⟨_, rfl, h, World.grownBy.refl _ _, rfl⟩
  · have h' := h
    rw [ncell_map] at h'
    have hc := compactZ_any base g n cap _ w (by rw [List.length_map, sortNat_len]; exact hn) hl hcap h'
    refine hc.mono ?_
    rintro e w' ⟨rfl, h1, h2⟩
    rw [compact_cast] at h1 ⊢
    rw [List.length_map, ← ncell_map] at h1
    rw [List.length_map]
    exact ⟨_, rfl, h1, h2, rfl⟩
end Go.Proofs.YtijcclpnkfmpnaaGreat
/- Plain facts on applying changes, and turning them. No program in sight. -/
namespace Go.Proofs.YtijcclpnkfmpnaaGreat

/-- one change applied: a number of an error, or the bytes -/
def apply1 (b : Bytes) (c : Chg) : Except Int Bytes :=
  if c.at_ < 0 ∨ (b.length : Int) < c.at_ ∨ (b.length : Int) - c.at_ < c.old.length then .error 1
  else if c.old.length ≠ c.new.length then .error 3
  else if (b.drop c.at_.toNat).take c.old.length ≠ c.old then .error 6
  else .ok (splice b c.at_.toNat c.new)
/-- changes applied, one after the other -/
def applyL : Bytes → List Chg → Except Int Bytes
  | b, [] => .ok b
  | b, c :: L => match apply1 b c with
    | .error e => .error e
    | .ok b' => applyL b' L
/-- changes turned -/
def turnC (c : Chg) : Chg := ⟨c.at_, c.new, c.old⟩
def turnL (L : List Chg) : List Chg := L.reverse.map turnC

theorem apply1_len {b b' : Bytes} {c : Chg} (h : apply1 b c = .ok b') : b'.length = b.length := by
  unfold apply1 at h
  split at h
  · cases h
  · split at h
    · cases h
    · split at h
      · cases h
      · rename_i h1 h2 h3
        injection h with h
        subst h
        exact length_splice _ _ _ (by omega)
theorem apply1_ok (b old new : Bytes) (j : Nat) (hn : old.length = new.length) (hj : j + old.length ≤ b.length) (ho : (b.drop j).take old.length = old) : apply1 b ⟨j, old, new⟩ = .ok (splice b j new) := by
  unfold apply1
  simp only [Int.toNat_natCast]
  rw [if_neg (by omega), if_neg (by omega), if_neg (by simpa using ho)]
theorem applyL_append (b : Bytes) (L M : List Chg) : applyL b (L ++ M) = match applyL b L with
    | .error e => .error e
    | .ok b' => applyL b' M := by
  induction L generalizing b with
  | nil => rfl
  | cons c L ih =>
    simp only [List.cons_append, applyL]
    cases apply1 b c with
    | error e => rfl
    | ok b' => exact ih b'
theorem applyL_one (b : Bytes) (c : Chg) : applyL b [c] = apply1 b c := by
  simp only [applyL]
  cases apply1 b c <;> rfl
theorem turnL_append (L M : List Chg) : turnL (L ++ M) = turnL M ++ turnL L := by simp [turnL]
theorem turnL_length (L : List Chg) : (turnL L).length = L.length := by simp [turnL]
theorem take_drop_ext (x y : Bytes) (i r : Nat) (h : ∀ p, i ≤ p → p < i + r → x[p]? = y[p]?) : (x.drop i).take r = (y.drop i).take r := by
  apply List.ext_getElem?
  intro p
  rw [List.getElem?_take, List.getElem?_take]
  split
  · rw [List.getElem?_drop, List.getElem?_drop]; exact h _ (by omega) (by omega)
  · rfl
theorem splice_read (l x : Bytes) (o p : Nat) (h : o + x.length ≤ l.length) : (splice l o x)[p]? = if o ≤ p ∧ p < o + x.length then x[p - o]? else l[p]? := by
  split
  · rename_i hp
    have := splice_get l x o (p - o) h (by omega)
    rwa [show o + (p - o) = p from by omega] at this
  · rename_i hp
    exact (splice_same l x o p h (by omega)).symm
theorem cut_read (x : Bytes) (i r p : Nat) (h1 : i ≤ p) (h2 : p < i + r) : ((x.drop i).take r)[p - i]? = x[p]? := by
  rw [List.getElem?_take, if_pos (by omega), List.getElem?_drop]
  congr 1; omega
/-- what has changed makes of the old the new -/
theorem apply_diffF (a b : Bytes) (hl : a.length = b.length) (f : Nat) : ∀ i cur, a.length - i ≤ f → cur.length = a.length → (∀ p, cur[p]? = if p < i then b[p]? else a[p]?) → applyL cur (diffF a b f i) = .ok b := by
  have hend : ∀ i (cur : Bytes), a.length ≤ i → cur.length = a.length → (∀ p, cur[p]? = if p < i then b[p]? else a[p]?) → cur = b := by
    intro i cur hi hc hp
    apply List.ext_getElem?
    intro p
    rw [hp p]
    split
    · rfl
    · rw [List.getElem?_eq_none (by omega), List.getElem?_eq_none (by omega)]
  induction f with
  | zero =>
    intro i cur hf hc hp
    simp only [diffF, applyL]
    rw [hend i cur (by omega) hc hp]
  | succ f ih =>
    intro i cur hf hc hp
    simp only [diffF]
    by_cases hi : i < a.length
    · rw [if_pos hi]
      have hr := runAt_le a b i hl (by omega)
      have hstop : i + runAt a b i < a.length → a[i + runAt a b i]? = b[i + runAt a b i]? := runAt_stop a b i hl
      generalize runAt a b i = r at *
      by_cases h0 : 0 < r
      · rw [if_pos h0, applyL_append, applyL_one]
        have ho : ((a.drop i).take r).length = r := by simp; omega
        have hn : ((b.drop i).take r).length = r := by simp; omega
        have hm : (cur.drop i).take ((a.drop i).take r).length = (a.drop i).take r := by
          rw [ho]
          exact take_drop_ext _ _ _ _ fun p h1 h2 => by rw [hp p, if_neg (by omega)]
        rw [apply1_ok cur _ _ i (by omega) (by omega) hm]
        dsimp only
        refine ih _ _ (by omega) (by rw [length_splice _ _ _ (by omega), hc]) fun p => ?_
        rw [splice_read _ _ _ _ (by omega), hn]
        by_cases h1 : i ≤ p ∧ p < i + r
        · rw [if_pos h1, if_pos (by omega), cut_read _ _ _ _ h1.1 h1.2]
        · rw [if_neg h1, hp p]
          by_cases h2 : p < i
          · rw [if_pos h2, if_pos (by omega)]
          · rw [if_neg h2]
            by_cases h3 : p < i + r + 1
            · rw [if_pos h3]
              obtain rfl : p = i + r := by omega
              by_cases h4 : i + r < a.length
              · exact hstop h4
              · rw [List.getElem?_eq_none (by omega), List.getElem?_eq_none (by omega)]
            · rw [if_neg h3]
      · obtain rfl : r = 0 := by omega
        rw [if_neg h0, List.nil_append]
        refine ih _ _ (by omega) hc fun p => ?_
        rw [hp p]
        by_cases h2 : p < i
        · rw [if_pos h2, if_pos (by omega)]
        · rw [if_neg h2]
          by_cases h3 : p < i + 0 + 1
          · rw [if_pos h3]
            obtain rfl : p = i := by omega
            exact hstop (by omega)
          · rw [if_neg h3]
    · rw [if_neg hi]
      simp only [applyL]
      rw [hend i cur (by omega) hc hp]
theorem apply_diffL (a b : Bytes) (hl : a.length = b.length) : applyL a (diffL a b) = .ok b :=
  apply_diffF a b hl _ 0 a (by omega) rfl fun p => by rw [if_neg (by omega)]
/-- .. and turned, of the new the old -/
theorem apply_turnF (a b : Bytes) (hl : a.length = b.length) (f : Nat) : ∀ i cur, a.length - i ≤ f → cur.length = a.length → (∀ p, i ≤ p → cur[p]? = b[p]?) →
    ∃ c', applyL cur (turnL (diffF a b f i)) = .ok c' ∧ c'.length = a.length ∧ ∀ p, c'[p]? = if p < i then cur[p]? else a[p]? := by
  have hend : ∀ i (cur : Bytes), a.length ≤ i → cur.length = a.length → ∀ p, cur[p]? = if p < i then cur[p]? else a[p]? := by
    intro i cur hi hc p
    split
    · rfl
    · rw [List.getElem?_eq_none (by omega), List.getElem?_eq_none (by omega)]
  induction f with
  | zero =>
    intro i cur hf hc hp
    exact ⟨cur, rfl, hc, hend i cur (by omega) hc⟩
  | succ f ih =>
    intro i cur hf hc hp
    simp only [diffF]
    by_cases hi : i < a.length
    · rw [if_pos hi]
      have hr := runAt_le a b i hl (by omega)
      have hstop : i + runAt a b i < a.length → a[i + runAt a b i]? = b[i + runAt a b i]? := runAt_stop a b i hl
      generalize runAt a b i = r at *
      obtain ⟨c1, h1, hl1, hp1⟩ := ih (i + r + 1) cur (by omega) hc (fun p h => hp p (by omega))
      rw [turnL_append, applyL_append, h1]
      dsimp only
      by_cases h0 : 0 < r
      · rw [if_pos h0]
        have ho : ((a.drop i).take r).length = r := by simp; omega
        have hn : ((b.drop i).take r).length = r := by simp; omega
        have hm : (c1.drop i).take ((b.drop i).take r).length = (b.drop i).take r := by
          rw [hn]
          exact take_drop_ext _ _ _ _ fun p h1 h2 => by rw [hp1 p, if_pos (by omega), hp p (by omega)]
        refine ⟨splice c1 i ((a.drop i).take r), ?_, by rw [length_splice _ _ _ (by omega), hl1], fun p => ?_⟩
        · simp only [turnL, List.reverse_cons, List.reverse_nil, List.nil_append, List.map_cons, List.map_nil, turnC]
          rw [applyL_one]
          exact apply1_ok c1 _ _ i (by omega) (by omega) hm
        · rw [splice_read _ _ _ _ (by omega), ho]
          by_cases h2 : i ≤ p ∧ p < i + r
          · rw [if_pos h2, if_neg (by omega), cut_read _ _ _ _ h2.1 h2.2]
          · rw [if_neg h2, hp1 p]
            by_cases h3 : p < i
            · rw [if_pos (by omega), if_pos h3]
            · rw [if_neg h3]
              by_cases h4 : p < i + r + 1
              · rw [if_pos h4, hp p (by omega)]
                obtain rfl : p = i + r := by omega
                by_cases h5 : i + r < a.length
                · exact (hstop h5).symm
                · rw [List.getElem?_eq_none (by omega), List.getElem?_eq_none (by omega)]
              · rw [if_neg h4]
      · obtain rfl : r = 0 := by omega
        rw [if_neg h0]
        refine ⟨c1, rfl, hl1, fun p => ?_⟩
        rw [hp1 p]
        by_cases h3 : p < i
        · rw [if_pos (by omega), if_pos h3]
        · rw [if_neg h3]
          by_cases h4 : p < i + 0 + 1
          · rw [if_pos h4, hp p (by omega)]
            obtain rfl : p = i := by omega
            exact (hstop (by omega)).symm
          · rw [if_neg h4]
    · rw [if_neg hi]
      exact ⟨cur, rfl, hc, hend i cur (by omega) hc⟩
theorem apply_turnL (a b : Bytes) (hl : a.length = b.length) : applyL b (turnL (diffL a b)) = .ok a := by
  obtain ⟨c, h, hc, hp⟩ := apply_turnF a b hl a.length 0 b (by omega) hl.symm (fun _ _ => rfl)
  have : c = a := List.ext_getElem? fun p => by rw [hp p, if_neg (by omega)]
  rw [this] at h; exact h
/-- where a change begins, and that two do not touch -/
theorem diffF_apart (a b : Bytes) (hl : a.length = b.length) (f : Nat) : ∀ i, ∀ k c d, (diffF a b f i)[k]? = some c → (diffF a b f i)[k + 1]? = some d → c.at_ + (c.old.length : Int) < d.at_ := by
  induction f with
  | zero => intro i k c d h; simp [diffF] at h
  | succ f ih =>
    intro i k c d h1 h2
    simp only [diffF] at h1 h2
    split at h1
    · rename_i hi
      rw [if_pos hi] at h2
      split at h1
      · rename_i h0
        rw [if_pos h0] at h2
        cases k with
        | zero =>
          simp only [List.singleton_append, List.getElem?_cons_zero, Option.some.injEq, List.getElem?_cons_succ] at h1 h2
          obtain ⟨j, r, hj⟩ := diffF_mem a b hl f _ d (List.mem_of_getElem? h2)
          have hle := runAt_le a b i hl (by omega)
          have ho : ((a.drop i).take (runAt a b i)).length = runAt a b i := by simp; omega
          subst h1
          rw [hj.at_]
          have := hj.lo
          dsimp only
          rw [ho]
          omega
        | succ k =>
          simp only [List.singleton_append, List.getElem?_cons_succ] at h1 h2
          exact ih _ k c d h1 h2
      · rename_i h0
        rw [if_neg h0] at h2
        exact ih _ k c d h1 h2
    · simp at h1
end Go.Proofs.YtijcclpnkfmpnaaGreat
/- The contract of diff.Apply. -/
namespace Go.Proofs.YtijcclpnkfmpnaaGreat
open Go.RowKit

/-- the cells of one change, wherever its bytes lie -/
structure ChAny (w : World) (g off i : Nat) (c : Chg) (Ao An : Option Addr) (co cn : Nat) : Prop where
  at_ : w.cell? ⟨g, off + i * 3, none⟩ = some (.int .i64 c.at_)
  old : w.cell? ⟨g, off + i * 3 + 1, none⟩ = some (.slice Ao c.old.length co)
  new : w.cell? ⟨g, off + i * 3 + 2, none⟩ = some (.slice An c.new.length cn)
  rdO : Rd w Ao c.old
  rdN : Rd w An c.new
  leO : c.old.length ≤ co
  leN : c.new.length ≤ cn
/-- the slice at A has the changes L, wherever their bytes lie -/
def RdG (w : World) (A : Option Addr) (L : List Chg) : Prop := ∀ i (h : i < L.length), ∃ g off Ao An co cn, A = some ⟨g, off, none⟩ ∧ ChAny w g off i L[i] Ao An co cn
theorem RdC.rdg {w : World} {A : Option Addr} {L : List Chg} (h : RdC w A L) : RdG w A L := fun i hi => by
  obtain ⟨g, off, go, co, gn, cn, hA, hc⟩ := h i hi
  exact ⟨g, off, _, _, co, cn, hA, hc.at_, hc.old, hc.new, hc.rowO.rd, hc.rowN.rd, hc.rowO.le.1, hc.rowN.le.1⟩
theorem ChAny.below {w w' : World} {g off i : Nat} {c : Chg} {Ao An : Option Addr} {co cn : Nat} (h : ChAny w g off i c Ao An co cn) (hb : Below w.heap.size w w') : ChAny w' g off i c Ao An co cn :=
  ⟨(hb.cell (block_lt_of_cell h.at_)).trans h.at_, (hb.cell (block_lt_of_cell h.old)).trans h.old, (hb.cell (block_lt_of_cell h.new)).trans h.new, h.rdO.below hb, h.rdN.below hb, h.leO, h.leN⟩
theorem RdG.below {w w' : World} {A : Option Addr} {L : List Chg} (h : RdG w A L) (hb : Below w.heap.size w w') : RdG w' A L := fun i hi => by
  obtain ⟨g, off, Ao, An, co, cn, hA, hc⟩ := h i hi
  exact ⟨g, off, Ao, An, co, cn, hA, hc.below hb⟩

/-- b[i:k] of bytes, wherever i stands -/
theorem run_cut_any (A : Option Addr) (n c i k : Nat) (hik : i ≤ k) (hkc : k ≤ c) (W : World) :
    (Instr.sliceAt 22 (.slice A n c) (some (.int .i64 i)) (some (.int .i64 k)) none).run Tryz.prog W = .ok (.slice (if c = i then A else A.map (·.add i)) (k - i) (c - i)) W := by
  obtain ⟨i0, hi0, hz0, hz1, hz2⟩ := info_parts byte_info
  simp [Instr.sliceAt, Instr.slice, Instr.sliceBounds, Instr.sliceBound, run_underlying Tryz.underlying22, asIntOf, sizeOf, typeInfo, hi0, hz1, hik, hkc]
/-- b[i:] of bytes -/
theorem run_tail_any (A : Option Addr) (n c i : Nat) (hin : i ≤ n) (W : World) :
    (Instr.sliceAt 22 (.slice A n c) (some (.int .i64 i)) none none).run Tryz.prog W = .ok (.slice (if c = i then A else A.map (·.add i)) (n - i) (c - i)) W := by
  obtain ⟨i0, hi0, hz0, hz1, hz2⟩ := info_parts byte_info
  simp [Instr.sliceAt, Instr.slice, Instr.sliceBounds, Instr.sliceBound, run_underlying Tryz.underlying22, asIntOf, sizeOf, typeInfo, hi0, hz1, hin]

end Go.Proofs.YtijcclpnkfmpnaaGreat
/- The contract of Write. -/
namespace Go.Proofs.YtijcclpnkfmpnaaGreat
open Go.RowKit Go.Maps Go.ChangeMaps

section
variable {P : Program} {T K E : TypeId} {κ : Type} [DecidableEq κ] {kl : κ → Lit} {b cnt : Nat} {f : κ → Option Value}
theorem step_store_im (w : World) {ops : Array Oper} {o : Oper} {a : Act} {KK : Act → World → Prop} {Q : Exit → Act → World → Prop} {Z : Prop} (hgd : o.guard = none) (m x v : Operand) (hop : o.op = Op.mapUpdate T m x v)
    (KL : Keyed P K) (hinj : ∀ x y, kl x = kl y → x = y) (ht : P.underlying T = some (.map K E)) (hm : a.eval m = .map (some b)) (h : IM P K kl w b f cnt) (hn : cnt < maxLen) (key val : Value) (k : κ) (hx : a.eval x = key) (hv : a.eval v = val) (hkey : keyOf P K key = some (kl k))
    (hK : ∀ w', IM P K kl w' b (upd f k val) (if (f k).isSome then cnt else cnt + 1) → w.grownBy w' (some b) → w'.heap.size = w.heap.size → KK (a.put o.dst undef) w') :
    if Region.wanted o (yielded ops a.tmps) = true then Oper.wp P o a w KK Q else Z := by
  have hw : Region.wanted o (yielded ops a.tmps) = true := by simp [Region.wanted, hgd]
  rw [if_pos hw]
  obtain ⟨w', hrun, r1, r2, r3⟩ := h.store KL hinj ht hn hkey val
  unfold Oper.wp
  simp [execOp, hop, hm, hx, hv, hrun, Result.andThen]
  exact hK w' r1 r2 r3
end
theorem dwrite_e1 (i : Int) (A : Option Addr) (n c : Nat) (w : World) (F : Nat → Prop) (d : Nat) (D : Dv) (Y : Lay) (live : Nat → Prop) (h : DevIs w F d D Y live) (hi : i < 0 ∨ (D.S.length : Int) ≤ i) :
    Calls Tryz.prog 64 #[.pointer (some ⟨d, 0, none⟩), .int .i64 i, .slice A n c] w fun e w' => e = .returned (.iface 76 (.int .i64 1)) ∧ w = w' := by
  obtain ⟨⟨c0, c1, c2, c3, c4⟩, -⟩ := five h.hd
  rcases hi with hi | hi
  · clear h
    go_enter Tryz.func64, Tryz.ntmps64
    go_wp2_with fail
    go_ret
    exact ⟨rfl, rfl⟩
  · have h0 := h.n0
    have t1 : decide (i < 0) = false := by simp; omega
    have t2 : decide ((D.S.length : Int) ≤ i) = true := by simpa using hi
    clear h
    go_enter Tryz.func64, Tryz.ntmps64
    go_wp2_with fail
    go_ret
    exact ⟨rfl, rfl⟩
theorem dwrite_e3 (i : Nat) (A : Option Addr) (n c : Nat) (w : World) (F : Nat → Prop) (d : Nat) (D : Dv) (Y : Lay) (live : Nat → Prop) (h : DevIs w F d D Y live) (hi : i < D.S.length) (hn : n ≠ 32) :
    Calls Tryz.prog 64 #[.pointer (some ⟨d, 0, none⟩), .int .i64 (i : Int), .slice A n c] w fun e w' => e = .returned (.iface 76 (.int .i64 3)) ∧ w = w' := by
  obtain ⟨⟨c0, c1, c2, c3, c4⟩, -⟩ := five h.hd
  have t2 : decide ((D.S.length : Int) ≤ i) = false := by simp; omega
  have t3 : decide (D.S.length ≤ i) = false := by simp; omega
  have t4 : ((n : Int) != 32) = true := by simp; omega
  clear h hn
  go_enter Tryz.func64, Tryz.ntmps64
  go_wp2_with fail
  go_ret
  exact ⟨rfl, rfl⟩
theorem dwrite_e9 (i : Nat) (A : Option Addr) (c : Nat) (w : World) (F : Nat → Prop) (d : Nat) (D : Dv) (Y : Lay) (live : Nat → Prop) (h : DevIs w F d D Y live) (hi : i < D.S.length) (hd : D.down = true) :
    Calls Tryz.prog 64 #[.pointer (some ⟨d, 0, none⟩), .int .i64 (i : Int), .slice A 32 c] w fun e w' => e = .returned (.iface 76 (.int .i64 9)) ∧ w = w' := by
  obtain ⟨⟨c0, c1, c2, c3, c4⟩, -⟩ := five h.hd
  have t2 : decide ((D.S.length : Int) ≤ i) = false := by simp; omega
  have t3 : decide (D.S.length ≤ i) = false := by simp; omega
  rw [hd] at c4
  clear h hd
  go_enter Tryz.func64, Tryz.ntmps64
  go_wp2_with fail
  go_ret
  exact ⟨rfl, rfl⟩
/-- how Write's error reads -/
def powV (left : Int) : Value := if left = 0 then .iface 76 (.int .i64 9) else .nilIface
/-- a world ahead of Write's last steps -/
structure Mid (w w' : World) (F : Nat → Prop) (d : Nat) (D : Dv) (Y : Lay) (i : Nat) (b : Bytes) (vo' : Value) : Prop where
  hh : w'.heap[d]? = some (.cells #[.slice (some ⟨Y.gs, 0, none⟩) D.S.length Y.cs, .map (some Y.gm), vo', .int .i64 D.left, .bool D.down] 115 (0, 0))
  ho : w'.ownsRow 0 3 1 vo' (putD D i b).O.length ((putD D i b).O.map fun i : Nat => .int .i64 (i : Int))
  hvo : ∀ q, vo'.ownBlock = some q → F q ∨ w.heap.size ≤ q
  him : IM Tryz.prog 3 natL w' Y.gm (memF D.O Y) D.O.length
  hb : ∀ k, F k → k ≠ d → k ≠ Y.gm → Y.vo.ownBlock ≠ some k → w'.heap[k]? = w.heap[k]?
  kp : Keep F w w'
theorem memF_some (O : List Nat) (Y : Lay) (i : Nat) : (if (memF O Y i).isSome = true then O.length else O.length + 1) = (if i ∈ O then O else O ++ [i]).length := by
  unfold memF
  by_cases h : i ∈ O
  · simp [h]
  · simp [h]
theorem Mid.done {w w8 w9 w10 : World} {F : Nat → Prop} {d : Nat} {D : Dv} {Y : Lay} {i : Nat} {b : Bytes} {vo' : Value} (m : Mid w w8 F d D Y i b vo') (h : DevIs w F d D Y (InO D)) (hi : i < D.S.length) (hbl : b.length = 32) {g c : Nat}
    (hg : w8.heap.size ≤ g) (hrow : Row w9 5 g c b) (hb9 : Below w8.heap.size w8 w9)
    (him : IM Tryz.prog 3 natL w10 Y.gm (upd (memF D.O Y) i (rowV g c)) (if (memF D.O Y i).isSome = true then D.O.length else D.O.length + 1)) (hg10 : w9.grownBy w10 (some Y.gm)) :
    (∃ Y', DevIs w10 (growF F w w10) d (putD D i b) Y' (InO (putD D i b))) ∧ Keep F w w10 := by
  have hs8 := m.kp.size
  have hs9 := hb9.size
  have hs10 := hg10.size
  have hgm := h.flt _ h.fm
  have hgne : ∀ k, k ≠ Y.gm → k < w9.heap.size → w10.heap[k]? = w9.heap[k]? := fun k hk hl => hg10.block k hl (fun e => hk (Option.some.inj e))
  have hdl := h.flt _ h.fd
  have hdm := DevIs.ne_map h.hd h.mem
  refine ⟨⟨_, h.wrote i hi b hbl vo' g c _ ((hgne d hdm (by omega)).trans ((hb9.block d (by omega)).trans m.hh)) ?_ ?_ him (by rw [memF_some]; rfl) ?_ (by omega) ?_ (by omega)⟩, ?_⟩
  · refine ownsRow_block m.ho fun q hq => ?_
    have hql := (m.ho.lt q hq).2
    have hqm : q ≠ Y.gm := by
      rcases m.ho.2 with ⟨e, _⟩ | ⟨g', cap', cur', e, _, hh', _⟩
      · rw [e] at hq; simp [Value.ownBlock] at hq
      · rw [e] at hq
        obtain rfl : g' = q := by simpa [Value.ownBlock] using hq
        exact DevIs.ne_map hh' m.him
    exact (hgne q hqm (by omega)).trans (hb9.block q hql)
  · intro q hq
    have hql := (m.ho.lt q hq).2
    exact ⟨m.hvo q hq, by omega⟩
  · have hgl := hrow.lt
    exact hrow.block (hgne g (by omega) hgl)
  · intro k hf hkd hkm hkv
    have hkl := h.flt k hf
    exact (hgne k hkm (by omega)).trans ((hb9.block k (by omega)).trans (m.hb k hf hkd hkm hkv))
  · refine (m.kp.trans (Keep.of_below (F := F) hb9) (fun x hx => .inl hx)).trans (F' := fun k => k = Y.gm) ⟨hg10.os, hg10.tape, hg10.output, hg10.size, fun k hk hn => hgne k hn hk⟩ (fun x hx => .inl (hx ▸ h.fm))
theorem nodup_le : ∀ (n : Nat) (l : List Nat), l.Nodup → (∀ x ∈ l, x < n) → l.length ≤ n
  | 0, l, _, h => by
    cases l with
    | nil => simp
    | cons x r => have := h x (by simp); omega
  | n + 1, l, hd, h => by
    by_cases hm : n ∈ l
    · have h1 := nodup_le n (l.erase n) (hd.erase n) (fun x hx => by
        have h2 := (hd.mem_erase_iff).1 hx
        have := h x h2.2
        omega)
      rw [List.length_erase_of_mem hm] at h1
      omega
    · have h1 := nodup_le n l hd (fun x hx => by
        have := h x hx
        have : x ≠ n := fun e => hm (e ▸ hx)
        omega)
      omega
theorem DevIs.ord_le {w : World} {F : Nat → Prop} {d : Nat} {D : Dv} {Y : Lay} {live : Nat → Prop} (h : DevIs w F d D Y live) : D.O.length ≤ 300 :=
  Nat.le_trans (nodup_le D.S.length D.O h.nd (fun x hx => (h.mlen x hx).1)) h.n1
set_option maxRecDepth 100000 in
theorem dwrite_ok (i : Nat) (A : Option Addr) (c : Nat) (b : Bytes) (w : World) (F : Nat → Prop) (d : Nat) (D : Dv) (Y : Lay) (h : DevIs w F d D Y (InO D)) (hi : i < D.S.length) (hd : D.down = false) (hbl : b.length = 32) (hrd : Rd w A b) (hAF : ∀ ad, A = some ad → ¬ F ad.block) :
    Calls Tryz.prog 64 #[.pointer (some ⟨d, 0, none⟩), .int .i64 (i : Int), .slice A 32 c] w fun e w' => e = .returned (powV D.left) ∧ (∃ Y', DevIs w' (growF F w w') d (stepD (putD D i b)) Y' (InO (putD D i b))) ∧ Keep F w w' := by
  obtain ⟨⟨c0, c1, c2, c3, c4⟩, ff⟩ := five h.hd
  have f2 := ff 2
  have t2 : decide ((D.S.length : Int) ≤ i) = false := by simp; omega
  have t3 : decide (D.S.length ≤ i) = false := by simp; omega
  have n1 := h.n1
  obtain ⟨ad, hA⟩ : ∃ ad, A = some ad := by
    obtain ⟨p, off, hA, _⟩ := hrd.lt (by omega)
    exact ⟨_, hA⟩
  subst hA
  have hAF := hAF ad rfl
  have HH := Hidden.mk h
  have hmem := h.mem
  have hole := h.ord_le
  have hdl := h.flt d h.fd
  have KNE := Hidden.mk (DevIs.ne_map h.hd h.mem)
  rw [hd] at c4
  by_cases hO : i ∈ D.O
  · have hf : memF D.O Y i = some (rowV (Y.mb i) (Y.mc i)) := by unfold memF; rw [if_pos hO]
    have hl := (h.mem.look_some int_keyed (T := 72) Tryz.underlying72 (zero_bytes w) (int_key (n := i) (by omega)) hf).1
    unfold rowV at hl
    have HM : Hidden (Mid w w F d D Y i b Y.vo) := ⟨⟨h.hd, by unfold putD; rw [if_pos hO]; exact h.ord, fun q hq => .inl (h.fo q hq), h.mem, fun _ _ _ _ _ => rfl, Keep.refl _ _⟩⟩
    have HRD : Hidden (∀ W, Mid w W F d D Y i b Y.vo → Rd w (some ad) b) := ⟨fun _ _ => hrd⟩
    have HBL := Hidden.mk hbl
    clear h ff hf hd hO hrd hbl
    go_enter Tryz.func64, Tryz.ntmps64
    go_wp2_with fail
    have KC := Hidden.mk c1
    have KDL := Hidden.mk hdl
    have hdr : w.drew.heap = w.heap := rfl
    clear hdr c0 c1 c2 c3 c4 f2 hl hmem
    have HIM : Hidden (∀ W, Below w.heap.size w W → IM Tryz.prog 3 natL W Y.gm (memF D.O Y) D.O.length) := ⟨fun W hW => HM.out.him.block (hW.block Y.gm HM.out.him.lt)⟩
    have HRDW : Hidden (∀ W, Below w.heap.size w W → Rd W (some ad) b) := ⟨fun W hW => (HRD.out w HM.out).below hW⟩
    have kc1 := KC.out
    have kdl := KDL.out
    go_region_held3 (fun W => W.cell? ⟨d, 1, none⟩ = some (.map (some Y.gm))) (first | exact kc1 | exact (hb9.cell (p := ⟨d, 1, none⟩) kdl).trans kc1 | exact (World.cell?_of_block (a := ⟨d, 1, none⟩) (hg10.block d (Nat.lt_of_lt_of_le kdl hb9.size) (fun e => KNE.out (Option.some.inj e)))).trans ((hb9.cell (p := ⟨d, 1, none⟩) kdl).trans kc1))
      (first
        | (go_at_call 39; refine (clone_some ad 32 c b _ HBL.out (by omega) (HRDW.out _ (by exact (Below.refl _ _).drew))).mono ?_; rintro e w9 ⟨g, cap, rfl, hg9, hrow9, hb9⟩)
        | (obtain ⟨w10, hrun10, him10, hg10, hs10⟩ := (HIM.out w9 (((Below.refl _ _).drew).trans hb9)).store int_keyed natL_inj (T := 72) Tryz.underlying72 (by simp only [maxLen]; omega) (int_key (n := i) (by omega)) (.slice (some ⟨g, 0, none⟩) 32 cap); go_simp))
    have hdone := HM.out.done HH.out hi HBL.out hg9 hrow9 (((Below.refl _ _).drew).trans hb9) him10 hg10
    obtain ⟨⟨Y', hdev⟩, hkp⟩ := hdone
    have HDV := Hidden.mk hdev
    have HKP := Hidden.mk hkp
    clear hdev hkp hg9 hrow9 hb9 him10 hg10 hs10 kc1 kdl
    go_wp2_with fail
    refine (dstep_any _ _ d (putD D i b) Y' _ HDV.out).mono ?_
    rintro e w11 ⟨rfl, hdev, hkp, hsz⟩
    have hG : growF F w w11 = growF F w w10 := by unfold growF; rw [hsz]
    have HFIN : Hidden ((∃ Y', DevIs w11 (growF F w w11) d (stepD (putD D i b)) Y' (InO (putD D i b))) ∧ Keep F w w11) := ⟨⟨Y', by rw [hG]; exact hdev⟩, HKP.out.trans hkp (fun x hx => hx.1)⟩
    have hlf : (putD D i b).left = D.left := rfl
    rw [hlf]
    clear hdev hkp hsz hG hlf
    cases h0 : (D.left == 0) with
    | true =>
      have hp : Hidden (powV D.left = .iface 76 (.int .i64 9)) := ⟨by unfold powV; rw [if_pos (by simpa using h0)]⟩
      clear h0
      go_wp2_with fail
      go_ret
      exact ⟨by rw [hp.out]; rfl, HFIN.out⟩
    | false =>
      have hp : Hidden (powV D.left = .nilIface) := ⟨by unfold powV; rw [if_neg (by simpa using h0)]⟩
      clear h0
      go_wp2_with fail
      go_ret
      exact ⟨by rw [hp.out]; rfl, HFIN.out⟩
  · have hf : memF D.O Y i = none := by unfold memF; rw [if_neg hO]
    have hl := (h.mem.look_none int_keyed (T := 72) Tryz.underlying72 (zero_bytes w) (int_key (n := i) (by omega)) hf).1
    obtain ⟨i2, hi2, hx0, hx1, hx2⟩ := info_parts int_info
    have HOR := Hidden.mk h.ord
    have HBL := Hidden.mk hbl
    have KRD : Hidden (∀ W, Keep F w W → Rd W (some ad) b) := ⟨fun W hW => hW.rd hrd (fun ad' e => by injection e with e; subst e; exact hAF)⟩
    have HO' : Hidden ((putD D i b).O = D.O ++ [i]) := ⟨by unfold putD; rw [if_neg hO]⟩
    have HOWN : Hidden (∀ cur, Y.vo.ownBlock = some cur → cur ≠ d) := ⟨fun cur hc e => DevIs.ne_own h.hd h.ord (by decide) (by rw [hc, e])⟩
    clear h ff hf hO hbl
    go_enter Tryz.func64, Tryz.ntmps64
    go_wp2_with (at_builtin; refine wpList_append_lies _ rfl (.tmp 48) (.tmp 50) _ rfl 0 3 i2 _ 1 8 Tryz.underlying24 hi2 hx0 hx1 hx2 rfl (by decide) Y.vo D.O.length (D.O.map fun i : Nat => .int .i64 (i : Int)) rfl (own_below HOR.out ((Below.refl _ _).alloc (Nat.le_refl _) _)) ⟨w.heap.size, 0, none⟩ 1 1 [.int .i64 (i : Int)] rfl rfl (World.news_of_block (cs := #[.int .i64 (i : Int)]) (t := 3) (fr := (0, 0)) (heap_alloc_new w _)) (by simp [Value.oneCell']) (by omega) (by simp only [maxLen]; omega) (by omega) (by simp) (w.heap.size + 1) (by simp) ?_; intro g7 cap7 w7 hown7 hg7 hat7 hlt7; have hgG := grown_trans' ((Below.refl _ _).alloc (Nat.le_refl _) _) hg7; have hh7 := (hgG.block d hdl (fun e => HOWN.out _ e.symm rfl)).trans HH.out.hd; obtain ⟨⟨e0, e1, e2, e3, e4⟩, fe⟩ := five hh7; have fe2 := fe 2)
    have hh8 := heap_set5 (k := 2) hh7 (.slice (some ⟨g7, 0, none⟩) (D.O.length + 1) cap7)
    have HM8 : Hidden (Mid w (w7.setCell ⟨d, 2, none⟩ (.slice (some ⟨g7, 0, none⟩) (D.O.length + 1) cap7)) F d D Y i b (.slice (some ⟨g7, 0, none⟩) (D.O.length + 1) cap7)) := by
      have hgd : g7 ≠ d := by
        rcases hat7 with h' | h'
        · exact HOWN.out g7 h'
        · omega
      refine ⟨⟨hh8, ?_, ?_, ?_, ?_, ?_⟩⟩
      · rw [HO'.out]
        have := ownsRow_block (w' := w7.setCell ⟨d, 2, none⟩ (.slice (some ⟨g7, 0, none⟩) (D.O.length + 1) cap7)) hown7 (fun q hq => Below.heap_setCell _ _ _ _ (by
          have : g7 = q := by simpa [Value.ownBlock] using hq
          rw [← this]; exact hgd))
        simpa using this
      · intro q hq
        have hq' : g7 = q := by simpa [Value.ownBlock] using hq
        rcases hat7 with h' | h'
        · exact .inl (HH.out.fo q (by rw [h', hq']))
        · exact .inr (by omega)
      · refine HH.out.mem.block ((Below.heap_setCell _ _ _ _ KNE.out.symm).trans (hgG.block Y.gm HH.out.mem.lt (fun e => ?_)))
        rcases HH.out.ord.2 with ⟨e', _⟩ | ⟨g', cap', cur', e', _, hh', _⟩
        · rw [e'] at e; simp [Value.ownBlock] at e
        · rw [e'] at e
          obtain rfl : Y.gm = g' := by simpa [Value.ownBlock] using e
          exact DevIs.ne_map hh' HH.out.mem rfl
      · intro k hf hkd hkm hkv
        exact (Below.heap_setCell _ _ _ _ hkd).trans (hgG.block k (HH.out.flt k hf) (fun e => hkv e.symm))
      · refine Keep.setCell ⟨hgG.os, hgG.tape, hgG.output, hgG.size, fun k hk hn => hgG.block k hk (fun e => hn (HH.out.fo k e.symm))⟩ (.inl HH.out.fd) _
    have HRD : Hidden (∀ W, Mid w W F d D Y i b (.slice (some ⟨g7, 0, none⟩) (D.O.length + 1) cap7) → Rd W (some ad) b) := ⟨fun W hW => KRD.out W hW.kp⟩
    obtain ⟨⟨k0, k1, k2, k3, k4⟩, -⟩ := five hh8
    go_wp2_with fail
    generalize w7.setCell ⟨d, 2, none⟩ (.slice (some ⟨g7, 0, none⟩) (D.O.length + 1) cap7) = w8 at *
    have HM := HM8
    have KC := Hidden.mk k1
    have KDL : Hidden (d < w8.heap.size) := ⟨by have := HM8.out.kp.size; omega⟩
    clear hown7 hg7 hat7 hlt7 hgG hh7 e0 e1 e2 e3 e4 fe fe2 hh8 k0 k1 k2 k3 k4 c0 c1 c2 c3 c4 f2 hl hmem HM8 hrd
    have HIM : Hidden (∀ W, Below w8.heap.size w8 W → IM Tryz.prog 3 natL W Y.gm (memF D.O Y) D.O.length) := ⟨fun W hW => HM.out.him.block (hW.block Y.gm HM.out.him.lt)⟩
    have HRDW : Hidden (∀ W, Below w8.heap.size w8 W → Rd W (some ad) b) := ⟨fun W hW => (HRD.out w8 HM.out).below hW⟩
    have kc1 := KC.out
    have kdl := KDL.out
    go_region_held3 (fun W => W.cell? ⟨d, 1, none⟩ = some (.map (some Y.gm))) (first | exact kc1 | exact (hb9.cell (p := ⟨d, 1, none⟩) kdl).trans kc1 | exact (World.cell?_of_block (a := ⟨d, 1, none⟩) (hg10.block d (Nat.lt_of_lt_of_le kdl hb9.size) (fun e => KNE.out (Option.some.inj e)))).trans ((hb9.cell (p := ⟨d, 1, none⟩) kdl).trans kc1))
      (first
        | (go_at_call 39; refine (clone_some ad 32 c b _ HBL.out (by omega) (HRDW.out _ (by exact (Below.refl _ _).drew))).mono ?_; rintro e w9 ⟨g, cap, rfl, hg9, hrow9, hb9⟩)
        | (obtain ⟨w10, hrun10, him10, hg10, hs10⟩ := (HIM.out w9 (((Below.refl _ _).drew).trans hb9)).store int_keyed natL_inj (T := 72) Tryz.underlying72 (by simp only [maxLen]; omega) (int_key (n := i) (by omega)) (.slice (some ⟨g, 0, none⟩) 32 cap); go_simp))
    have hdone := HM.out.done HH.out hi HBL.out hg9 hrow9 (((Below.refl _ _).drew).trans hb9) him10 hg10
    obtain ⟨⟨Y', hdev⟩, hkp⟩ := hdone
    have HDV := Hidden.mk hdev
    have HKP := Hidden.mk hkp
    clear hdev hkp hg9 hrow9 hb9 him10 hg10 hs10 kc1 kdl
    go_wp2_with fail
    refine (dstep_any _ _ d (putD D i b) Y' _ HDV.out).mono ?_
    rintro e w11 ⟨rfl, hdev, hkp, hsz⟩
    have hG : growF F w w11 = growF F w w10 := by unfold growF; rw [hsz]
    have HFIN : Hidden ((∃ Y', DevIs w11 (growF F w w11) d (stepD (putD D i b)) Y' (InO (putD D i b))) ∧ Keep F w w11) := ⟨⟨Y', by rw [hG]; exact hdev⟩, HKP.out.trans hkp (fun x hx => hx.1)⟩
    have hlf : (putD D i b).left = D.left := rfl
    rw [hlf]
    clear hdev hkp hsz hG hlf
    cases h0 : (D.left == 0) with
    | true =>
      have hp : Hidden (powV D.left = .iface 76 (.int .i64 9)) := ⟨by unfold powV; rw [if_pos (by simpa using h0)]⟩
      clear h0
      go_wp2_with fail
      go_ret
      exact ⟨by rw [hp.out]; rfl, HFIN.out⟩
    | false =>
      have hp : Hidden (powV D.left = .nilIface) := ⟨by unfold powV; rw [if_neg (by simpa using h0)]⟩
      clear h0
      go_wp2_with fail
      go_ret
      exact ⟨by rw [hp.out]; rfl, HFIN.out⟩
end Go.Proofs.YtijcclpnkfmpnaaGreat
/- The contract of diff.Pages. -/
namespace Go.Proofs.YtijcclpnkfmpnaaGreat
open Go.RowKit Go.Maps Go.ChangeMaps

/-- a set of numbers, as a map has it -/
def setF (S : Nat → Bool) (q : Nat) : Option Value := if S q = true then some (.bool true) else none
theorem setF_upd (S : Nat → Bool) (k : Nat) : upd (setF S) k (.bool true) = setF (fun q => S q || (k == q)) := by
  funext x
  unfold upd setF
  by_cases hx : x = k
  · subst hx; simp
  · rw [if_neg hx]
    have : (k == x) = false := by simpa using fun e => hx e.symm
    simp [this]
theorem IM.size_le {P : Program} {K : TypeId} {w : World} {b cnt : Nat} {f : Nat → Option Value} (h : IM P K natL w b f cnt) (hK : P.underlying K = some (.int .i64)) (n : Nat) (hn : ∀ k, (f k).isSome = true → k < n) : cnt ≤ n := by
  obtain ⟨D, hown, hs, hnd, h1, _⟩ := h.keys hK
  have hl : (intKeys D).length = cnt := by
    obtain ⟨L, hD, _⟩ := hown.entries (Go.Maps.int_keyed hK)
    subst hD
    rw [← hs]; simp [intKeys, Maps.size]
  have hm : ((intKeys D).map Int.toNat).Nodup := by
    refine List.pairwise_map.2 (hnd.imp_of_mem fun {a b} ha hb hne e => hne ?_)
    obtain ⟨x, rfl, _⟩ := h1 a ha
    obtain ⟨y, rfl, _⟩ := h1 b hb
    simp only [Int.toNat_natCast] at e
    rw [e]
  have := nodup_le n ((intKeys D).map Int.toNat) hm (fun x hx => by
    obtain ⟨y, hy, rfl⟩ := List.mem_map.1 hx
    obtain ⟨z, rfl, hz⟩ := h1 y hy
    exact hn z hz)
  rw [List.length_map, hl] at this
  exact this
/-- the pages that a change touches, of its first j bytes; that changes touch -/
def tchC (a : Nat) (j q : Nat) : Bool := (List.range j).any fun i => (a + i) / 32 == q
theorem tchC_succ (a j q : Nat) : tchC a (j + 1) q = (tchC a j q || ((a + j) / 32 == q)) := by
  unfold tchC
  rw [List.range_succ, List.any_append]; simp
def tchL (L : List Chg) (q : Nat) : Bool := L.any fun c => tchC c.at_.toNat c.new.length q
theorem tchL_succ (L : List Chg) (k q : Nat) (hk : k < L.length) : tchL (L.take (k + 1)) q = (tchL (L.take k) q || tchC L[k].at_.toNat L[k].new.length q) := by
  unfold tchL
  rw [List.take_succ_eq_append_getElem hk, List.any_append]; simp
/-- a change that lies within an image -/
def InC (c : Chg) : Prop := 0 ≤ c.at_ ∧ c.at_ < 6400 ∧ c.at_ + c.new.length ≤ 6400
theorem tchC_lt {a j q : Nat} (h : tchC a j q = true) (hj : a + j ≤ 6400) : q < 200 := by
  obtain ⟨i, hi, e⟩ := List.any_eq_true.1 h
  have := List.mem_range.1 hi
  have := beq_iff_eq.1 e
  omega
theorem tchL_lt {L : List Chg} (hL : ∀ c ∈ L, InC c) {q : Nat} (h : tchL L q = true) : q < 200 := by
  obtain ⟨c, hc, e⟩ := List.any_eq_true.1 h
  obtain ⟨a, b, d⟩ := hL c hc
  exact tchC_lt e (by omega)
structure DpSt (w wr : World) (mb : Nat) (S : Nat → Bool) : Prop where
  im : ∃ cnt, IM Tryz.prog 3 natL wr mb (setF S) cnt ∧ cnt ≤ 200
  bel : Below w.heap.size w wr
  new : w.heap.size ≤ mb
/-- what diff.Pages says -/
def DpAns (w : World) (L : List Chg) (e : Ending) (w' : World) : Prop := ∃ (v : Value) (S : List Nat), e = .returned (.tuple #[v, .nilIface]) ∧ S.Pairwise (· < ·) ∧ (∀ k, k ∈ S ↔ tchL L k = true) ∧ w'.ownsRow w.heap.size 3 1 v S.length (S.map fun i : Nat => .int .i64 (i : Int)) ∧ Below w.heap.size w w'
theorem dpAns_mk {w w' : World} {L : List Chg} {e : Ending} {v : Value} {S : List Nat} (h : e = .returned (.tuple #[v, .nilIface])) (hh : S.Pairwise (· < ·) ∧ (∀ k, k ∈ S ↔ tchL L k = true) ∧ w'.ownsRow w.heap.size 3 1 v S.length (S.map fun i : Nat => .int .i64 (i : Int)) ∧ Below w.heap.size w w') : DpAns w L e w' := ⟨v, S, h, hh⟩
theorem own_base' {w : World} {b b' : Nat} {e : TypeId} {size n : Nat} {v : Value} {xs : List Value} (h : w.ownsRow b e size v n xs) (hb : b' ≤ b) : w.ownsRow b' e size v n xs := by
  refine ⟨h.1, ?_⟩
  rcases h.2 with h1 | ⟨g, cap, cur, a1, a2, a3⟩
  · exact .inl h1
  · exact .inr ⟨g, cap, cur, a1, Nat.le_trans hb a2, a3⟩
end Go.Proofs.YtijcclpnkfmpnaaGreat
/- Package reach: from: who is led to, by the least way: what its walk holds. -/
namespace Go.Proofs.YtijcclpnkfmpnaaGreat
open Go.RowKit Go.Maps Go.ChangeMaps

def pv (W : Ways) : Nat → Option Value := fun k => (W k).map fun p => .int .i64 (par p : Int)
theorem pv_upd (W : Ways) (y : Nat) (p : List Nat) : upd (pv W) y (.int .i64 (par p : Int)) = pv (wset W y p) := by
  funext q; unfold upd pv wset
  by_cases e : q = y
  · rw [if_pos e, if_pos e]; rfl
  · rw [if_neg e, if_neg e]
theorem zero_int (w : World) : (zeroValue 3).run Tryz.prog w = .ok (.int .i64 0) w := by kernel_rfl
/-- a row of one's own beside a map -/
theorem own_map {w w' : World} {base n mb : Nat} {v : Value} {xs : List Value} (h : w.ownsRow base 3 1 v n xs) (hm : ∃ es clock, w.heap[mb]? = some (.map es clock)) (hk : Keep (fun q => q = mb) w w') : w'.ownsRow base 3 1 v n xs :=
  ownsRow_block h fun q hq => by
    refine hk.block q (h.lt q hq).2 fun e => ?_
    obtain ⟨es, clock, hm⟩ := hm
    rcases h.2 with ⟨he, -⟩ | ⟨g, cap, cur, he, -, hh, -⟩
    · rw [he] at hq; cases hq
    · rw [he] at hq
      have : g = q := by simpa [Value.ownBlock] using hq
      rw [this, e, hm] at hh; cases hh
theorem own_ne {w : World} {base n mb : Nat} {v : Value} {xs : List Value} (h : w.ownsRow base 3 1 v n xs) (hm : ∃ es clock, w.heap[mb]? = some (.map es clock)) : ∀ q, v.ownBlock = some q → q ≠ mb := fun q hq e => by
  obtain ⟨es, clock, hm⟩ := hm
  rcases h.2 with ⟨he, -⟩ | ⟨g, cap, cur, he, -, hh, -⟩
  · rw [he] at hq; cases hq
  · rw [he] at hq
    have : g = q := by simpa [Value.ownBlock] using hq
    rw [this, e, hm] at hh; cases hh
theorem own_other {w w' : World} {base n : Nat} {v : Value} {xs : List Value} {b : Option Nat} (h : w.ownsRow base 3 1 v n xs) (hg : w.grownBy w' b) (hn : ∀ q, v.ownBlock = some q → b ≠ some q) : w'.ownsRow base 3 1 v n xs :=
  ownsRow_block h fun q hq => hg.block q (h.lt q hq).2 fun e => hn q hq e.symm
section
variable {w0 w wr w' : World} {F : Nat → Prop} {h mb : Nat} {l : Bytes} {W : Ways}
/-- the map of the ways so far, beside the heap -/
structure FrSt (w0 w wr : World) (F : Nat → Prop) (h mb : Nat) (l : Bytes) (W : Ways) : Prop where
  hp : Hp w0 wr F h l
  bel : Below w.heap.size w wr
  new : w.heap.size ≤ mb
  nf : ¬ F mb
  w0w : w0.heap.size ≤ w.heap.size
  im : ∃ cnt, IM Tryz.prog 3 natL wr mb (pv W) cnt ∧ cnt ≤ 41
theorem FrSt.isMap (hs : FrSt w0 w wr F h mb l W) : ∃ es clock, wr.heap[mb]? = some (.map es clock) := by
  obtain ⟨cnt, him, -⟩ := hs.im
  exact him.isMap
theorem FrSt.below (hs : FrSt w0 w wr F h mb l W) (hb : Below wr.heap.size wr w') : FrSt w0 w w' F h mb l W := by
  obtain ⟨cnt, him, hc⟩ := hs.im
  exact ⟨hs.hp.below hb, hs.bel.trans (hb.mono hs.bel.size), hs.new, hs.nf, hs.w0w, cnt, him.block (hb.block _ him.lt), hc⟩
theorem Hp.grown (hp : Hp w0 wr F h l) {b : Option Nat} (hg : wr.grownBy w' b) (hb : ∀ q, b = some q → w0.heap.size ≤ q ∧ ¬ F q) : Hp w0 w' F h l := by
  have hk : Keep (fun q => b = some q) wr w' := ⟨hg.os, hg.tape, hg.output, hg.size, fun k hk hn => hg.block k hk (fun e => hn e.symm)⟩
  exact hp.keep hk (fun k hf e => (hb k e).2 hf) (fun k e => (hb k e).1)
theorem FrSt.grown (hs : FrSt w0 w wr F h mb l W) {b : Option Nat} (hg : wr.grownBy w' b) (hb : ∀ q, b = some q → w.heap.size ≤ q ∧ ¬ F q ∧ q ≠ mb) : FrSt w0 w w' F h mb l W := by
  obtain ⟨cnt, him, hc⟩ := hs.im
  exact ⟨hs.hp.grown hg fun q hq => ⟨Nat.le_trans hs.w0w (hb q hq).1, (hb q hq).2.1⟩, hs.bel.grown hg hs.bel.size (fun q hq => (hb q hq).1), hs.new, hs.nf, hs.w0w, cnt, him.block (hg.block _ him.lt (fun e => (hb _ e.symm).2.2 rfl)), hc⟩
theorem FrSt.store (hs : FrSt w0 w wr F h mb l W) {y x : Nat} {p : List Nat} (hy : y < 41) (hx : par p = x) (hW : ∀ k, (wset W y p k).isSome = true → k < 41) :
    ∃ w', (Instr.mapUpdate 192 (.map (some mb)) (.int .i64 (y : Int)) (.int .i64 (x : Int))).run Tryz.prog wr = .ok () w' ∧ FrSt w0 w w' F h mb l (wset W y p) ∧ Keep (fun q => q = mb) wr w' ∧ w'.heap.size = wr.heap.size := by
  obtain ⟨cnt, him, hc⟩ := hs.im
  obtain ⟨w', hrun, him', hg, hsz⟩ := him.store int_keyed natL_inj (T := 192) Tryz.underlying192 (by simp only [maxLen]; omega) (int_key (n := y) (by omega)) (.int .i64 (par p : Int))
  rw [pv_upd] at him'
  rw [hx] at hrun
  have hk : Keep (fun q => q = mb) wr w' := ⟨hg.os, hg.tape, hg.output, hg.size, fun k hk hn => hg.block k hk (fun e => hn (Option.some.inj e))⟩
  refine ⟨w', hrun, ⟨hs.hp.keep hk (fun k hf e => hs.nf (e ▸ hf)) (fun k e => e ▸ Nat.le_trans hs.w0w hs.new), hs.bel.grown hg hs.bel.size (fun q hq => by rw [← Option.some.inj hq]; exact hs.new), hs.new, hs.nf, hs.w0w, _, him', ?_⟩, hk, hsz⟩
  exact him'.size_le Tryz.underlying3 41 fun k hk' => by
    refine hW k ?_
    unfold pv at hk'
    cases e : wset W y p k with
    | none => rw [e] at hk'; cases hk'
    | some q => rfl
theorem FrSt.look (hs : FrSt w0 w wr F h mb l W) {y : Nat} (hy : y < 41) :
    (W y = none → (Instr.lookup 192 (.map (some mb)) (.int .i64 (y : Int)) true).run Tryz.prog wr = .ok (.tuple #[.int .i64 0, .bool false]) wr) ∧
    (∀ p, W y = some p → (Instr.lookup 192 (.map (some mb)) (.int .i64 (y : Int)) true).run Tryz.prog wr = .ok (.tuple #[.int .i64 (par p : Int), .bool true]) wr ∧ (Instr.lookup 192 (.map (some mb)) (.int .i64 (y : Int)) false).run Tryz.prog wr = .ok (.int .i64 (par p : Int)) wr) := by
  obtain ⟨cnt, him, -⟩ := hs.im
  constructor
  · intro hn
    exact (him.look_none int_keyed (T := 192) Tryz.underlying192 (zero_int wr) (int_key (n := y) (by omega)) (by unfold pv; rw [hn]; rfl)).1
  · intro p hp
    exact him.look_some int_keyed (T := 192) Tryz.underlying192 (zero_int wr) (int_key (n := y) (by omega)) (by unfold pv; rw [hp]; rfl)
/-- the roots laid so far -/
def partW (S : List Nat) : Ways := fun q => if q ∈ S then some [q] else none
theorem partW_succ (S : List Nat) (k : Nat) (hk : k < S.length) : wset (partW (S.take k)) S[k] [S[k]] = partW (S.take (k + 1)) := by
  funext q
  unfold wset partW
  rw [List.take_succ_eq_append_getElem hk]
  simp only [List.mem_append, List.mem_singleton]
  by_cases e : q = S[k]
  · subst e; rw [if_pos rfl, if_pos (.inr rfl)]
  · rw [if_neg e]
    by_cases hm : q ∈ S.take k
    · rw [if_pos hm, if_pos (.inl hm)]
    · rw [if_neg hm, if_neg (fun h => h.elim hm e)]
theorem partW_all (l : Bytes) : partW (sortNat (rootsH l)) = startW l := by
  funext q; unfold partW startW; simp only [sortNat_mem]
/-- within a level: the refs of one -/
theorem mid_ok {l : Bytes} {s : Ways × List Nat} {D : List Nat} (h : LvOk l s D) (i : Nat) (_hi : i ≤ s.2.length) : ∃ D', LOk l ((s.2.take i).foldl (stepX l) (s.1, [])) D' s.1 D := by
  obtain ⟨D', h1, -⟩ := LOk.foldX (l := l) (D0 := D) (W0 := s.1) (s.2.take i) (s.1, []) D ⟨h.ok, by simp, fun _ _ => rfl⟩ (fun x hx => h.row x (List.mem_of_mem_take hx))
  exact ⟨D', h1⟩
theorem mid_succ (l : Bytes) (s : Ways × List Nat) (i : Nat) (hi : i < s.2.length) : (s.2.take (i + 1)).foldl (stepX l) (s.1, []) = stepX l ((s.2.take i).foldl (stepX l) (s.1, [])) s.2[i] := by
  rw [List.take_succ_eq_append_getElem hi, List.foldl_append]; rfl
theorem in_ok {l : Bytes} {s : Ways × List Nat} {D D0 : List Nat} {W0 : Ways} (h : LOk l s D W0 D0) {x : Nat} (hx : x ∈ D0) (j : Nat) : ∃ D', LOk l (((sortNat (refsL l (x : Int))).take j).foldl (stepY x) s) D' W0 D0 := by
  obtain ⟨D', h1, -⟩ := LOk.foldY hx ((sortNat (refsL l (x : Int))).take j) s D h (fun y hy => sortNat_mem.1 (List.mem_of_mem_take hy))
  exact ⟨D', h1⟩
theorem in_succ (x : Nat) (L : List Nat) (s : Ways × List Nat) (j : Nat) (hj : j < L.length) : (L.take (j + 1)).foldl (stepY x) s = stepY x ((L.take j).foldl (stepY x) s) L[j] := by
  rw [List.take_succ_eq_append_getElem hj, List.foldl_append]; rfl
theorem LOk.next_le {l : Bytes} {s : Ways × List Nat} {D D0 : List Nat} {W0 : Ways} (h : LOk l s D W0 D0) : s.2.length ≤ 40 := by
  have := h.ok.le; rw [h.spl, List.length_append] at this; omega
theorem lvl_len {l : Bytes} (hg : Good l) : ∀ k, (lvlN l k).2.length ≤ 40
  | 0 => (startW_ok hg).le
  | k + 1 => by
    obtain ⟨D, h, -⟩ := LvOk.at_ hg k
    obtain ⟨D', h'⟩ := mid_ok h (lvlN l k).2.length (Nat.le_refl _)
    rw [List.take_length] at h'
    exact h'.next_le
/-- what a new one is led to by -/
theorem LOk.par_new {l : Bytes} {s : Ways × List Nat} {D D0 : List Nat} {W0 : Ways} (h : LOk l s D W0 D0) {x : Nat} (hx : x ∈ D0) (y : Nat) : par (wayOf s.1 x ++ [y]) = x := by
  have hxD : x ∈ D := by rw [h.spl]; exact List.mem_append_left _ hx
  obtain ⟨p, hp⟩ := Option.isSome_iff_exists.1 ((h.ok.dk x).2 hxD)
  obtain ⟨q, e, -⟩ := h.ok.ways x p hp
  unfold wayOf; rw [hp, e]
  show par (q ++ [x] ++ [y]) = x
  rw [List.append_assoc]; exact par_two q x y
theorem WOk.lt41 {l : Bytes} {W : Ways} {D : List Nat} (h : WOk l W D) {k : Nat} (hk : (W k).isSome = true) : k < 41 := by
  have := hE_nat (h.dh k ((h.dk k).1 hk)); omega
end
end Go.Proofs.YtijcclpnkfmpnaaGreat
