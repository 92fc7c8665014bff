/- Contracts and plain laws, put together: RefI5, Root1, Ext4, ExtP, Heap6, Heap7, SameN, HeapP, KeepP, MoveP, LayE, Move1, Move2, Move3, Reach1, ReachP, ReachQ. -/
import Derived.Test.YtcahgmnkphmnhaaGreatDoorReachTellsFrameM2
import Derived.Test.YtcahgmnkphmnhaaGreatDoorReachTellsFrameM3
import Derived.Deep.RegionHeld3
import Derived.Deep.LoopGhost
import Derived.Shelf.SlGeneric
import Derived.Shelf.SlSortCmp.WholeK
import Derived.Ground.SlsfProg
import Derived.Test.YtcahgmnkphmnhaaGreatDoorReachTellsFrameM1
import Derived.Deep.DeepCutAuto
import Derived.Deep.CutBlock
import Derived.Lib.SlicesCompact
/- The reference on images: PutRoot. -/
namespace Go.Proofs.YtcahgmnkphmnhaaGreatDoor
open Go.RowKit

/-- the fault of a root that is put -/
def rootE (i : Int) (s : Bytes) (h : Int) : Nat := if i < 0 ∨ 8 ≤ i then 1 else if s = [] ∧ h = 0 then 0 else if handleB h = false then 1 else if isName s = false then 2 else 0
def rootF (l : Bytes) (i : Int) (s : Bytes) (h : Int) : Bytes := if rootE i s h = 0 then splice l (rootO i) (if s = [] ∧ h = 0 then List.replicate 11 0 else rootB s h) else []
theorem rootB_get (s : Bytes) (h : Int) (h8 : s.length ≤ 8) (q : Nat) : (rootB s h)[q]? = if q < s.length then s[q]? else if q < 10 then some 0 else if q = 10 then some (UInt8.ofNat h.toNat) else none := by
  unfold rootB nameB
  by_cases h1 : q < s.length
  · rw [if_pos h1, List.append_assoc, List.getElem?_append_left h1]
  · rw [if_neg h1, List.append_assoc, List.getElem?_append_right (by omega)]
    have he : ∀ r, r < 10 - s.length → ((List.replicate (8 - s.length) (0 : UInt8)) ++ [0, 0, UInt8.ofNat h.toNat])[r]? = some 0 := fun r hr => by
      by_cases h2 : r < 8 - s.length
      · rw [List.getElem?_append_left (by simpa using h2)]; simp [h2]
      · rw [List.getElem?_append_right (by simpa using h2), List.length_replicate]
        have : r - (8 - s.length) = 0 ∨ r - (8 - s.length) = 1 := by omega
        rcases this with h | h <;> rw [h] <;> rfl
    by_cases h2 : q < 10
    · rw [if_pos h2, he _ (by omega)]
    · rw [if_neg h2]
      by_cases h3 : q = 10
      · rw [if_pos h3, List.getElem?_append_right (by simp; omega), List.length_replicate, show q - s.length - (8 - s.length) = 2 by omega]; rfl
      · rw [if_neg h3, List.getElem?_append_right (by simp; omega), List.length_replicate]
        apply List.getElem?_eq_none
        simp; omega
theorem rootB_set (l s : Bytes) (o : Nat) (h : Int) (h8 : s.length ≤ 8) (ho : o + 11 ≤ l.length) : (splice (splice l o (List.replicate 11 0)) o s).set (o + 10) (UInt8.ofNat h.toNat) = splice l o (rootB s h) := by
  have hrl : (rootB s h).length = 11 := by unfold rootB nameB; simp; omega
  have hl1 : (splice l o (List.replicate 11 (0 : UInt8))).length = l.length := splice_len _ _ _ (by simpa using ho)
  have hl2 : (splice (splice l o (List.replicate 11 (0 : UInt8))) o s).length = l.length := by rw [splice_len _ _ _ (by rw [hl1]; omega)]; exact hl1
  apply List.ext_getElem?
  intro p
  rw [List.getElem?_set, hl2, splice_at _ _ _ _ (by rw [hl1]; omega), splice_at _ _ _ _ (by simpa using ho), splice_at _ _ _ _ (by rw [hrl]; exact ho), rootB_get s h h8, hrl, List.length_replicate]
  by_cases h1 : o ≤ p ∧ p < o + 11
  · simp only [if_pos h1]
    by_cases h2 : p - o < s.length
    · rw [if_pos h2, if_neg (by omega), if_pos (by omega)]
    · rw [if_neg h2]
      by_cases h3 : p - o < 10
      · rw [if_pos h3, if_neg (by omega), if_neg (by omega), List.getElem?_replicate, if_pos (by omega)]
      · rw [if_neg h3, if_pos (by omega), if_pos (by omega), if_pos (by omega)]
  · simp only [if_neg h1]
    rw [if_neg (by omega), if_neg (by omega)]
theorem refPutRoot_e1 (A : Option Addr) (n c : Nat) (i : Int) (s : Bytes) (h : Int) (w : World) (hi : i < 0 ∨ 8 ≤ i) :
    Calls Tryz.prog 52 #[.slice A n c, .int .i64 i, rootV s h] w fun e w' => e = .returned (.tuple #[.slice none 0 0, .int .i64 1]) ∧ Below w.heap.size w w' := by
  have hB : Below w.heap.size w (w.alloc (.cells #[sv s, .int .i64 h] 76)) := (Below.refl _ _).alloc (Nat.le_refl _) _
  unfold rootV
  by_cases h0 : i < 0
  · clear hi
    go_enter Tryz.func52, Tryz.ntmps52
    go_wp2_with fail
    go_ret2
    exact ⟨rfl, hB⟩
  · have h7 : 7 < i := by omega
    clear hi
    go_enter Tryz.func52, Tryz.ntmps52
    go_wp2_with fail
    go_ret2
    exact ⟨rfl, hB⟩
theorem two_cells {w w' : World} {a b : Value} {t : TypeId} (hb : Below (w.alloc (.cells #[a, b] t)).heap.size (w.alloc (.cells #[a, b] t)) w') : w'.cell? ⟨w.heap.size, 0, none⟩ = some a ∧ w'.cell? ⟨w.heap.size, 1, none⟩ = some b := by
  have h := (hb.block w.heap.size (by simp)).trans (heap_alloc_new w (.cells #[a, b] t))
  refine ⟨?_, ?_⟩ <;> simp [World.cell?, h]
set_option maxRecDepth 100000 in
theorem refPutRoot_in (pb ob n c : Nat) (l : Bytes) (k : Nat) (s : Bytes) (h : Int) (w : World) (hs : s.length ≤ 140737488351232) (hln : l.length = n) (hr : rightB n = true) (hrd : Rd w (some ⟨pb, ob, none⟩) l) (hk : k < 8) :
    Calls Tryz.prog 52 #[.slice (some ⟨pb, ob, none⟩) n c, .int .i64 (k : Int), rootV s h] w fun e w' => RowAns w w' e (rootF l (k : Int) s h) (.int .i64 (rootE (k : Int) s h)) := by
  have hnb := rightB_true.1 hr
  have hB : Below w.heap.size w (w.alloc (.cells #[sv s, .int .i64 h] 76)) := (Below.refl _ _).alloc (Nat.le_refl _) _
  have s1 : IntKind.i64.wrap (11 * (k : Int)) = 11 * (k : Int) := IntWalk.i64_in _ (by omega)
  obtain ⟨o, ho⟩ : ∃ o : Nat, o = 200 + 11 * k := ⟨_, rfl⟩
  have s2 : IntKind.i64.wrap (200 + 11 * (k : Int)) = (o : Int) := by rw [IntWalk.i64_in _ (by omega)]; omega
  have s3 : IntKind.i64.wrap (210 + 11 * (k : Int)) = ((o + 10 : Nat) : Int) := by rw [IntWalk.i64_in _ (by omega)]; omega
  have ho11 : o + 11 ≤ n := by omega
  have hn64 : n ≤ 6400 := by omega
  have hRO : rootO (k : Int) = o := by rw [rootO_k, ho]
  have k7 : decide (7 < (k : Int)) = false := by simp; omega
  have k7' : decide (7 < k) = false := by simp; omega
  have kneg : decide ((k : Int) < 0) = false := by simp
  have HW := Hidden.mk (refWipe_ok pb ob n c l o 11 _ hln (by omega) (by omega) ho11 (hrd.below hB))
  have hz0 : ¬ ((k : Int) < 0 ∨ 8 ≤ (k : Int)) := by omega
  have HLN := Hidden.mk hln
  have hwl : (splice l o (List.replicate 11 (0 : UInt8))).length = n := by rw [splice_len _ _ _ (by rw [List.length_replicate]; omega)]; exact hln
  have HWL := Hidden.mk hwl
  have HE : Hidden (rootE (k : Int) s h = if s = [] ∧ h = 0 then 0 else if handleB h = false then 1 else if isName s = false then 2 else 0) := ⟨by unfold rootE; rw [if_neg hz0]⟩
  have HF : Hidden (rootF l (k : Int) s h = if rootE (k : Int) s h = 0 then splice l o (if s = [] ∧ h = 0 then List.replicate 11 0 else rootB s h) else []) := ⟨by unfold rootF; rw [hRO]⟩
  generalize rootF l (k : Int) s h = FF at *
  generalize rootE (k : Int) s h = EE at *
  have HB0 : Hidden (FF = if EE = 0 then splice l o (if s = [] ∧ h = 0 then List.replicate 11 0 else rootB s h) else []) := ⟨HF.out⟩
  have HNO : Hidden (EE ≠ 0 → FF = []) := ⟨fun hx => by rw [HF.out, if_neg hx]⟩
  clear hnb ho hRO hz0 hln hrd hr hwl HF
  unfold rootV
  by_cases h0 : s = [] ∧ h = 0
  · obtain ⟨rfl, rfl⟩ := h0
    have hE0 : EE = 0 := by rw [HE.out]; simp
    have hF0 : FF = splice l o (List.replicate 11 0) := by rw [HB0.out, if_pos hE0, if_pos ⟨rfl, rfl⟩]
    subst hE0 hF0
    clear HE HB0 HNO
    go_enter Tryz.func52, Tryz.ntmps52
    go_wp2_with fail
    refine HW.out.mono ?_
    rintro e w1 ⟨g, cap, rfl, hg, hcap, hrow, hb1⟩
    obtain ⟨x0, x1⟩ := two_cells hb1
    have hB1 := hB.trans (hb1.mono hB.size)
    clear hb1 hg
    go_wp2_with fail
    go_ret2
    refine ⟨some ⟨g, 0, none⟩, cap, ?_, hrow.rd, hB1⟩
    rw [HWL.out]
    rfl
  · have hcase : s.isEmpty = false ∨ (s = [] ∧ (h == 0) = false) := by
      cases s with
      | nil => right; simpa using h0
      | cons x r => left; rfl
    have HE2 : Hidden (EE = if handleB h = false then 1 else if isName s = false then 2 else 0) := ⟨by rw [HE.out, if_neg h0]⟩
    have HFY : Hidden (EE = 0 → FF = splice l o (rootB s h)) := ⟨fun hx => by rw [HB0.out, if_pos hx, if_neg h0]⟩
    clear h0 HE HB0
    go_enter Tryz.func52, Tryz.ntmps52
    go_wp2_with fail
    refine HW.out.mono ?_
    rintro e w1 ⟨g, cap, rfl, hg, hcap, hrow, hb1⟩
    obtain ⟨x0, x1⟩ := two_cells hb1
    have HB1 := Hidden.mk (hB.trans (hb1.mono hB.size))
    have HG : Hidden (w.heap.size ≤ g) := ⟨by have := hg; simp at this; omega⟩
    have HC : Hidden (∀ W, Below (w.heap.size + 1) w1 W → W.cell? ⟨w.heap.size, 0, none⟩ = some (sv s) ∧ W.cell? ⟨w.heap.size, 1, none⟩ = some (.int .i64 h)) := ⟨fun W hW => two_cells (hb1.trans (by simpa using hW))⟩
    have HG1 : Hidden (w.heap.size + 1 ≤ g) := ⟨by have := hg; simp at this; omega⟩
    have HROW := Hidden.mk hrow
    clear hb1 hg hB hrow
    generalize w.alloc (.cells #[sv s, .int .i64 h] 76) = w0 at *
    rcases hcase with hse | ⟨rfl, hz⟩
    · go_wp2_with fail
      refine (ref_handle_any h _).mono ?_
      rintro e w2 ⟨rfl, rfl⟩
      cases hh : handleB h with
      | false =>
        have hE1 : EE = 1 := by rw [HE2.out, if_pos hh]
        have hF1 := HNO.out (by omega)
        subst hE1 hF1
        clear hh HE2 HFY HNO
        go_wp2_with fail
        go_ret2
        exact ⟨none, 0, rfl, Rd.nil_, HB1.out⟩
      | true =>
        have HHB := Hidden.mk (handleB_true.1 hh)
        have HE3 : Hidden (EE = if isName s = false then 2 else 0) := ⟨by rw [HE2.out, hh]; simp⟩
        clear hh HE2
        go_wp2_with fail
        refine (refName_any s _ hs).mono ?_
        rintro e w2 ⟨rfl, rfl⟩
        cases hnm : isName s with
        | false =>
          have hE1 : EE = 2 := by rw [HE3.out, if_pos hnm]
          have hF1 := HNO.out (by omega)
          subst hE1 hF1
          clear hnm HE3 HFY HNO
          go_wp2_with fail
          go_ret2
          exact ⟨none, 0, rfl, Rd.nil_, HB1.out⟩
        | true =>
          have hE0 : EE = 0 := by rw [HE3.out, hnm]; simp
          have hF0 := HFY.out hE0
          subst hE0
          have HFF := Hidden.mk hF0
          have h8' := nameB_len s hnm
          have h8 : s.length ≤ 8 := by unfold nameB at h8'; simp at h8'; omega
          clear hnm h8' hF0 HE3 HFY HNO
          have HD : Hidden ((splice (splice l o (List.replicate 11 0)) o s).set (o + 10) (UInt8.ofNat h.toNat) = splice l o (rootB s h)) := ⟨rootB_set l s o h h8 (by rw [HLN.out]; exact ho11)⟩
          have HDL : Hidden ((splice l o (rootB s h)).length = n) := ⟨by rw [← HD.out, List.length_set, splice_len _ _ _ (by rw [HWL.out]; omega)]; exact HWL.out⟩
          generalize splice l o (rootB s h) = LF at *
          generalize splice l o (List.replicate 11 0) = z0 at *
          have hst0 : Row w1 5 g cap (splice z0 o (s.take 0)) := by simpa [splice] using HROW.out
          have HB00 := Below.refl w1.heap.size w1
          go_wp2_with fail
          go_loopg [11] s.length (fun m i wr => ∃ q : Nat, q ≤ s.length ∧ m = s.length - q ∧ i = .int .i64 (q : Int) ∧ Below (w.heap.size + 1) w1 wr ∧ Row wr 5 g cap (splice z0 o (s.take q)))
          case atStart => exact ⟨0, by omega, rfl, rfl, Below.refl _ _, hst0⟩
          case round =>
            obtain ⟨q, hq, rfl, rfl, hbel, hrw⟩ := hrel
            obtain ⟨y0, y1⟩ := HC.out wr hbel
            have hsl : (splice z0 o (s.take q)).length = n := by rw [splice_len _ _ _ (by rw [List.length_take, HWL.out]; omega)]; exact HWL.out
            by_cases hlt : q < s.length
            · have hcell := hrw.cell (o + q) (by omega)
              have hfr := hrw.frozen (o + q)
              have hst := hrw.store (o + q) (by omega) s[q]
              rw [splice_take_succ z0 s o q hlt (by have := HWL.out; omega)] at hst
              have hbn := hbel.setCell (p := ⟨g, o + q, none⟩) HG1.out (bv s[q])
              have s4 : IntKind.i64.wrap ((o : Int) + q) = (o : Int) + q := IntWalk.i64_in _ (by omega)
              have k0 : (0 : Int) ≤ (o : Int) + q := by omega
              have k1 : (o : Int) + q < n := by omega
              have k2 : (0 : Int) ≤ q := by omega
              have k3 : (q : Int) < s.length := by omega
              have hix : ((⟨s.toArray⟩ : ByteArray)[q]'(by simpa [ByteArray.size] using hlt)) = s[q] := rfl
              generalize (splice z0 o (s.take q))[o + q] = u at hcell
              clear hrw hsl
              go_wp2_with fail
              go_roundg (s.length - (q + 1))
              case measure => omega
              case rel => exact ⟨q + 1, by omega, rfl, by go_num, hbn, hst⟩
            · obtain rfl : q = s.length := by omega
              rw [List.take_length] at hrw hsl
              have hhb := HHB.out
              have hcell := hrw.cell (o + 10) (by omega)
              have hfr := hrw.frozen (o + 10)
              have hst := hrw.store (o + 10) (by omega) (UInt8.ofNat h.toNat)
              rw [HD.out] at hst
              have hbn := hbel.setCell (p := ⟨g, o + 10, none⟩) HG1.out (bv (UInt8.ofNat h.toNat))
              have hbv : bv (UInt8.ofNat h.toNat) = .int .u8 h := by
                simp only [bv, UInt8.toNat_ofNat']
                congr 1
                omega
              rw [hbv] at hst hbn
              have w8 : IntKind.u8.wrap h = h := IntWalk.u8_in _ (by omega)
              have k0 : (0 : Int) ≤ (o : Int) + 10 := by omega
              have k1 : (o : Int) + 10 < n := by omega
              generalize (splice z0 o s)[o + 10] = u at hcell
              clear hrw hsl hhb hbv
              go_wp2_with fail
              go_ret2
              refine ⟨some ⟨g, 0, none⟩, cap, ?_, by rw [HFF.out]; exact hst.rd, HB1.out.trans (hbn.mono (Nat.le_succ _))⟩
              rw [HFF.out, HDL.out]
              rfl
    · go_wp2_with fail
      refine (ref_handle_any h _).mono ?_
      rintro e w2 ⟨rfl, rfl⟩
      cases hh : handleB h with
      | false =>
        have hE1 : EE = 1 := by rw [HE2.out, if_pos hh]
        have hF1 := HNO.out (by omega)
        subst hE1 hF1
        clear hh HE2 HFY HNO
        go_wp2_with fail
        go_ret2
        exact ⟨none, 0, rfl, Rd.nil_, HB1.out⟩
      | true =>
        have HE3 : Hidden (EE = if isName [] = false then 2 else 0) := ⟨by rw [HE2.out, hh]; simp⟩
        clear hh HE2
        go_wp2_with fail
        refine (refName_any [] _ hs).mono ?_
        rintro e w2 ⟨rfl, rfl⟩
        have hnm : isName [] = false := rfl
        have hE1 : EE = 2 := by rw [HE3.out, if_pos hnm]
        have hF1 := HNO.out (by omega)
        subst hE1 hF1
        rw [hnm]
        clear hnm HE3 HFY HNO
        go_wp2_with fail
        go_ret2
        exact ⟨none, 0, rfl, Rd.nil_, HB1.out⟩
theorem refPutRoot_any (A : Option Addr) (n c : Nat) (l : Bytes) (i : Int) (s : Bytes) (h : Int) (w : World) (hs : s.length ≤ 140737488351232) (hln : l.length = n) (hr : rightB n = true) (hrd : Rd w A l) :
    Calls Tryz.prog 52 #[.slice A n c, .int .i64 i, rootV s h] w fun e w' => RowAns w w' e (rootF l i s h) (.int .i64 (rootE i s h)) := by
  by_cases hi : i < 0 ∨ 8 ≤ i
  · have hE : rootE i s h = 1 := by unfold rootE; rw [if_pos hi]
    unfold rootF
    rw [hE]
    exact (refPutRoot_e1 A n c i s h w hi).mono fun e w' ⟨he, hb⟩ => ⟨none, 0, he, Rd.nil_, hb⟩
  · obtain ⟨k, rfl⟩ := Int.eq_ofNat_of_zero_le (show 0 ≤ i by omega)
    obtain ⟨p, off, rfl, _⟩ := hrd.lt (by have := rightB_true.1 hr; omega)
    exact refPutRoot_in p off n c l k s h w hs hln hr hrd (by omega)
/-- the program's PutRoot, told likewise -/
theorem iroot_ans (A : Option Addr) (n c : Nat) (l : Bytes) (i : Int) (s : Bytes) (h : Int) (w : World) (hs : s.length ≤ 140737488351232) (hln : l.length = n) (hnc : n ≤ c) (hr : rightB n = true) (hrd : Rd w A l) :
    Calls Tryz.prog 108 #[.slice A n c, .int .i64 i, rootV s h] w fun e w' => RowAns w w' e (rootF l i s h) (errV (rootE i s h)) := by
  have hnb := rightB_true.1 hr
  have hlen : ∀ X : Bytes, X.length = 11 → 0 ≤ i → i < 8 → (splice l (rootO i) X).length = n := fun X hX h1 h2 => by
    rw [splice_len _ _ _ (by unfold rootO; omega)]; exact hln
  unfold rootF
  by_cases hi : i < 0 ∨ 8 ≤ i
  · have hE : rootE i s h = 1 := by unfold rootE; rw [if_pos hi]
    rw [hE]
    exact (root_e1 A n c i s h w hr hi).mono fun e w' ⟨he, hb⟩ => ⟨none, 0, he, Rd.nil_, hb⟩
  by_cases h0 : s = [] ∧ h = 0
  · have hE : rootE i s h = 0 := by unfold rootE; rw [if_neg hi, if_pos h0]
    rw [hE, if_pos rfl, if_pos h0]
    obtain ⟨rfl, rfl⟩ := h0
    refine (root_zero A n c l i w hln hnc hrd hr (by omega) (by omega)).mono ?_
    rintro e w' ⟨g, cap, rfl, hg, hrow, hb⟩
    exact ⟨some ⟨g, 0, none⟩, cap, by rw [hlen _ (by simp) (by omega) (by omega)]; rfl, hrow.rd, hb⟩
  cases hh : handleB h with
  | false =>
    have hE : rootE i s h = 1 := by unfold rootE; rw [if_neg hi, if_neg h0, if_pos hh]
    rw [hE]
    exact (root_e1h A n c i s h w hr (by omega) (by omega) h0 hh).mono fun e w' ⟨he, hb⟩ => ⟨none, 0, he, Rd.nil_, hb⟩
  | true =>
    cases hnm : isName s with
    | false =>
      have hE : rootE i s h = 2 := by unfold rootE; rw [if_neg hi, if_neg h0, if_neg (by simp [hh]), if_pos hnm]
      rw [hE]
      exact (root_e2 A n c i s h w hs hr (by omega) (by omega) hh hnm).mono fun e w' ⟨he, hb⟩ => ⟨none, 0, he, Rd.nil_, hb⟩
    | true =>
      have hE : rootE i s h = 0 := by unfold rootE; rw [if_neg hi, if_neg h0, if_neg (by simp [hh]), if_neg (by simp [hnm])]
      rw [hE, if_pos rfl, if_neg h0]
      refine (root_ok A n c l i s h w hln hrd hr (by omega) (by omega) hh hnm).mono ?_
      rintro e w' ⟨g, cap, rfl, hg, hrow, hb⟩
      have hl11 : (rootB s h).length = 11 := by have := nameB_len s hnm; unfold rootB; simp; omega
      exact ⟨some ⟨g, 0, none⟩, cap, by rw [hlen _ hl11 (by omega) (by omega)]; rfl, hrow.rd, hb⟩
end Go.Proofs.YtcahgmnkphmnhaaGreatDoor
/- Names that lead: root.Get; the reference's Lead and Object. -/
namespace Go.Proofs.YtcahgmnkphmnhaaGreatDoor
open Go.RowKit

/-- where a name leads first; 0: nowhere -/
def leadR (L : List (Bytes × Nat)) (s : Bytes) : Nat := match L.find? (fun r => r.1 == s) with
  | none => 0
  | some r => r.2
theorem leadR_none {L : List (Bytes × Nat)} {s : Bytes} (h : ∀ x ∈ L, (x.1 == s) = false) : leadR L s = 0 := by
  unfold leadR
  rw [List.find?_eq_none.2 (fun x hx => by rw [h x hx]; decide)]
theorem leadR_at {L : List (Bytes × Nat)} {s : Bytes} (k : Nat) (hk : k < L.length) (h : (L[k].1 == s) = true) (hn : ∀ j (hj : j < k), (L[j].1 == s) = false) : leadR L s = L[k].2 := by
  unfold leadR
  rw [(List.find?_eq_some_iff_getElem (p := fun r : Bytes × Nat => r.1 == s)).2 ⟨h, k, hk, rfl, fun j hj => by rw [hn j hj]; rfl⟩]
theorem good_roots {l : Bytes} (hg : Good l) {r : Bytes × Nat} (h : r ∈ rootsL l) : 1 ≤ r.2 ∧ r.2 ≤ 40 ∧ hE l r.2 = 0 := by
  unfold rootsL rootsF at h
  simp only [List.mem_map, List.mem_filter, List.mem_range, Bool.not_eq_true'] at h
  obtain ⟨i, ⟨hi, hz⟩, rfl⟩ := h
  have hb := badR_lead (hg.s.root i hi hz)
  obtain ⟨k, hk, hh, hx⟩ := leadsS_iff.1 hb
  have he := (hE_has hk hh).1
  simp only [rootP]
  rw [hx]
  exact ⟨by omega, by omega, by simpa using he⟩
def getRE (l s : Bytes) (tag : Int) : Nat := if isName s = false then 2 else if tag < -1 ∨ 15 < tag then 1 else if leadR (rootsL l) s = 0 then 5 else if 0 ≤ tag ∧ gT l (leadR (rootsL l) s) ≠ tag then 8 else 0
def getRH (l s : Bytes) (tag : Int) : Nat := if getRE l s tag = 0 then leadR (rootsL l) s else 0
section
variable {w0 w : World} {F : Nat → Prop} {h : Nat} {l : Bytes}
end
set_option maxRecDepth 100000 in
theorem refLead_ok (p off n c : Nat) (l s : Bytes) (w : World) (hn : l.length = n) (hr : rightB n = true) (hnc : n ≤ c) (hrd : Rd w (some ⟨p, off, none⟩) l) :
    Calls Tryz.prog 51 #[.slice (some ⟨p, off, none⟩) n c, sv s] w fun e w' => e = .returned (.int .i64 (leadR (rootsL l) s : Int)) ∧ Below w.heap.size w w' := by
  have HC := Hidden.mk (refRoots_ok p off n c l w hn hr hnc hrd)
  have hle : (rootsL l).length ≤ 8 := rootsF_len _ _
  generalize rootsL l = L at *
  clear hn hrd
  go_enter Tryz.func51, Tryz.ntmps51
  go_wp2_with fail
  refine HC.out.mono ?_
  rintro e w1 ⟨v, rfl, hown, hb1⟩
  obtain ⟨A3, c3, rfl, hc3, -⟩ := own_split hown
  have HRX := Hidden.mk (own_rdX3 (f := rcells) (fun _ => rfl) rfl hown)
  have HB := Hidden.mk hb1
  clear hown hb1 HC
  go_wp2_with fail
  go_loopg [6] L.length (fun q i wr => ∃ j : Nat, j ≤ L.length ∧ q = L.length - j ∧ i = .int .i64 (j : Int) ∧ w1 = wr ∧ Hidden (∀ x ∈ L.take j, (x.1 == s) = false))
  case atStart => exact ⟨0, by omega, rfl, rfl, rfl, ⟨by simp⟩⟩
  case round =>
    obtain ⟨j, hj, rfl, rfl, rfl, hno⟩ := hrel
    by_cases hlt : j < L.length
    · obtain ⟨pp, oo, rfl, hcx⟩ := HRX.out j hlt
      have x0 := hcx 0 _ rfl
      have x1 := hcx 1 _ rfl
      rw [Nat.add_zero] at x0
      have k0 : (0 : Int) ≤ j := by omega
      have k1 : (j : Int) < L.length := by omega
      have s1 : IntKind.i64.wrap ((j : Int) + 1) = (j : Int) + 1 := IntWalk.i64_in _ (by omega)
      have HAT : Hidden ((L[j].1 == s) = true → leadR L s = L[j].2) := ⟨fun h => leadR_at j hlt h (fun i hi => hno.out L[i] (List.mem_take_iff_getElem.2 ⟨i, by omega, rfl⟩))⟩
      have HNX : Hidden ((L[j].1 == s) = false → ∀ x ∈ L.take (j + 1), (x.1 == s) = false) := ⟨fun h => forall_take_succ' (p := fun x => x.1 == s) hlt hno.out h⟩
      generalize L[j] = x at *
      obtain ⟨xs, xh⟩ := x
      dsimp only at *
      clear hcx hno
      cases he : (xs == s) with
      | true =>
        have HV := Hidden.mk (HAT.out he)
        clear HAT HNX
        go_wp2_with fail
        go_ret
        exact ⟨by rw [HV.out]; rfl, HB.out⟩
      | false =>
        have HV := Hidden.mk (HNX.out he)
        clear HAT HNX
        go_wp2_with fail
        go_roundg (L.length - (j + 1))
        case measure => omega
        case rel => exact ⟨j + 1, by omega, rfl, by go_num, rfl, HV⟩
    · obtain rfl : j = L.length := by omega
      have hv := leadR_none (L := L) (s := s) (by have := hno.out; rwa [List.take_of_length_le (Nat.le_refl _)] at this)
      have HV := Hidden.mk hv
      clear hv hno
      go_wp2_with fail
      go_ret
      exact ⟨by rw [HV.out]; rfl, HB.out⟩
/-- an object's tag, and its bytes, as the reference tells them -/
def objT (l : Bytes) (k : Nat) : Int := if hasE (rawE l k) = true then rTag (rawE l k) else -1
def objS (l : Bytes) (k : Nat) : Bytes := if hasE (rawE l k) = true then (l.drop (rAt (rawE l k))).take (rLen (rawE l k)) else []
set_option maxRecDepth 100000 in
theorem refObj_ok (p off n c : Nat) (l : Bytes) (k : Nat) (w : World) (hn : l.length = n) (hg : Good l) (hnc : n ≤ c) (hrd : Rd w (some ⟨p, off, none⟩) l) (hk : k < 40) :
    Calls Tryz.prog 37 #[.slice (some ⟨p, off, none⟩) n c, .int .i64 ((k : Int) + 1)] w fun e w' => e = .returned (.tuple #[.int .i64 (objT l k), sv (objS l k)]) ∧ Below w.heap.size w w' := by
  have hb := hg.bd
  have HC := Hidden.mk (refEntry_ok (some ⟨p, off, none⟩) n c l k w hn (by omega) hnc hrd hk)
  unfold entR entV at HC
  unfold objT objS
  cases hh : hasE (rawE l k) with
  | false =>
    rw [hh] at HC
    simp only [Bool.false_eq_true, if_false]
    generalize (rAt (rawE l k) : Int) = a1 at *
    generalize (rLen (rawE l k) : Int) = a2 at *
    generalize rTag (rawE l k) = a3 at *
    clear hn hg hrd hh
    go_enter Tryz.func37, Tryz.ntmps37
    go_wp2_with fail
    refine HC.out.mono ?_
    rintro e w1 ⟨rfl, hb1⟩
    have HB := Hidden.mk (hb1.alloc hb1.size (.cells #[.int .i64 ((k : Int) + 1), .int .i64 a1, .int .i64 a2, .int .i64 a3] 68))
    clear hb1 HC
    go_wp2_with fail
    go_ret2
    exact ⟨rfl, HB.out⟩
  | true =>
    rw [hh] at HC
    simp only [if_true]
    have hin := strayE_false (hg.s.fit k hk hh)
    have hcut := hrd.cut (rAt (rawE l k)) (rLen (rawE l k)) (by omega)
    rw [Option.map_some, Addr.add_lit] at hcut
    have hcl : ((l.drop (rAt (rawE l k))).take (rLen (rawE l k))).length = rLen (rawE l k) := by simp; omega
    generalize (l.drop (rAt (rawE l k))).take (rLen (rawE l k)) = body at *
    generalize rAt (rawE l k) = a1 at *
    generalize rLen (rawE l k) = a2 at *
    generalize rTag (rawE l k) = a3 at *
    have s1 : IntKind.i64.wrap ((a1 : Int) + a2) = (a1 : Int) + a2 := IntWalk.i64_in _ (by omega)
    have hsl := run_cut p off n c a1 (a1 + a2) (by omega) (by omega) (by omega)
    rw [Nat.add_sub_cancel_left] at hsl
    simp only [Int.natCast_add] at hsl
    have HCV : Hidden (∀ W, Below w.heap.size w W → (convert 22 9 (.slice (some ⟨p, off + a1, none⟩) a2 (c - a1))).run Tryz.prog W = .ok (sv body) W) := ⟨fun W hW => conv_text W _ a2 _ body hcl (hcut.below hW)⟩
    clear hn hg hrd hh hin hcut hcl
    go_enter Tryz.func37, Tryz.ntmps37
    go_wp2_with fail
    refine HC.out.mono ?_
    rintro e w1 ⟨rfl, hb1⟩
    have HB := Hidden.mk (hb1.alloc hb1.size (.cells #[.int .i64 ((k : Int) + 1), .int .i64 a1, .int .i64 a2, .int .i64 a3] 68))
    have hf := fourAt_one w1 ((k : Int) + 1) (a1 : Int) (a2 : Int) a3 68
    go_upto_region 2 with (fail)
    generalize w1.alloc (.cells #[.int .i64 ((k : Int) + 1), .int .i64 (a1 : Int), .int .i64 (a2 : Int), .int .i64 a3] 68) = w2 at *
    generalize w1.heap.size = bx at *
    obtain ⟨f0, f1, f2, f3⟩ := hf
    have hcv := HCV.out w2.drew HB.out.drew
    have KF := Hidden.mk (And.intro f1 (And.intro f2 (And.intro f3 hcv)))
    clear hb1 HC hcv
    go_wp2_with fail
    go_region_held3 (fun W => W.cell? ⟨bx, 1, none⟩ = some (.int .i64 (a1 : Int)) ∧ W.cell? ⟨bx, 2, none⟩ = some (.int .i64 (a2 : Int)) ∧ W.cell? ⟨bx, 3, none⟩ = some (.int .i64 a3) ∧ (convert 22 9 (.slice (some ⟨p, off + a1, none⟩) a2 (c - a1))).run Tryz.prog W = .ok (sv body) W) (first | exact KF.out) (fail)
    all_goals
      go_wp2_with fail
      go_ret2
      exact ⟨rfl, HB.out.drew⟩
end Go.Proofs.YtcahgmnkphmnhaaGreatDoor
/- The contract of extent.Stat. -/
namespace Go.Proofs.YtcahgmnkphmnhaaGreatDoor
open Go.RowKit

def statV (o u f m r : Int) : Value := .agg #[.int .i64 o, .int .i64 u, .int .i64 f, .int .i64 m, .int .i64 r]
def sumX (l : List Ext) : Int := l.foldl (fun s e => s + e.2) 0
def mostX (H : List Ext) : Int := H.foldl (fun s e => max s e.2) 0
theorem sumX_succ (l : List Ext) (k : Nat) (hk : k < l.length) : sumX (l.take (k + 1)) = sumX (l.take k) + l[k].2 := by
  unfold sumX; rw [List.take_succ_eq_append_getElem hk, List.foldl_append]; rfl
theorem mostX_succ (l : List Ext) (k : Nat) (hk : k < l.length) : mostX (l.take (k + 1)) = max (mostX (l.take k)) l[k].2 := by
  unfold mostX; rw [List.take_succ_eq_append_getElem hk, List.foldl_append]; rfl
theorem sumX_bd (l : List Ext) (h : OkX l) : ∀ k, k ≤ l.length → 0 ≤ sumX (l.take k) ∧ sumX (l.take k) ≤ 6400 * k
  | 0, _ => by simp [sumX]
  | k + 1, hk => by
    have ih := sumX_bd l h k (by omega)
    have := h l[k] (List.getElem_mem (by omega))
    rw [sumX_succ l k (by omega)]
    omega
/-- what Stat says -/
def statX (n : Int) (l : List Ext) : Value := if chkX n l = 0 then statV l.length (sumX l) (n - sumX l) (mostX (holesX n l)) (holesX n l).length else statV 0 0 0 0 0
end Go.Proofs.YtcahgmnkphmnhaaGreatDoor
/- Extents, the plain law: what is free between extents that are right. No walk here. -/
namespace Go.Proofs.YtcahgmnkphmnhaaGreatDoor
open Go.RowKit

/-- behind each other, from a to n -/
def Tidy : Int → List Ext → Int → Prop
  | a, [], n => a ≤ n
  | a, e :: r, n => a ≤ e.1 ∧ 1 ≤ e.2 ∧ Tidy (e.1 + e.2) r n
theorem hitX_symm (e o : Ext) : hitX e o = hitX o e := by unfold hitX; rw [Bool.and_comm]
theorem chkX_pair {n : Int} {l : List Ext} (h : chkX n l = 0) : l.Pairwise (fun a b => hitX a b = false) := by
  obtain ⟨_, _, _, _, h5⟩ := chkX_ok h
  rw [List.pairwise_iff_getElem]
  intro i j hi hj hij
  have h2 := (h5 j hj).2
  rw [List.any_eq_false] at h2
  have hm : l[i] ∈ l.take j := by
    rw [List.mem_take_iff_getElem]
    exact ⟨i, by omega, rfl⟩
  have := h2 _ hm
  rw [hitX_symm]
  simpa using this
theorem loopX_of (n : Int) (l : List Ext) : ∀ k, k ≤ l.length → (∀ j (hj : j < l.length), j < k → badX n l[j] = false ∧ (l.take j).any (hitX l[j]) = false) → loopX n l k = 0
  | 0, _, _ => rfl
  | k + 1, hk, h => by
    have h0 := loopX_of n l k (by omega) (fun j hj hjk => h j hj (by omega))
    obtain ⟨h1, h2⟩ := h k (by omega) (by omega)
    rw [loopX, if_pos h0]
    have hg : l.getD k (0, 0) = l[k] := by simp [show k < l.length by omega]
    rw [hg]
    unfold faultX
    rw [h1, h2]; rfl
theorem chkX_of {n : Int} {l : List Ext} (h0 : 0 ≤ n) (h1 : n ≤ 6400) (h2 : l.length ≤ 200) (hb : ∀ e ∈ l, badX n e = false) (hp : l.Pairwise (fun a b => hitX a b = false)) : chkX n l = 0 := by
  unfold chkX
  rw [if_neg (by omega), if_neg (by omega)]
  refine loopX_of n l _ (Nat.le_refl _) fun j hj _ => ⟨hb _ (List.getElem_mem hj), ?_⟩
  rw [List.any_eq_false]
  intro x hx
  rw [List.mem_take_iff_getElem] at hx
  obtain ⟨i, hi, rfl⟩ := hx
  rw [List.pairwise_iff_getElem] at hp
  have := hp i j (by omega) hj (by omega)
  rw [hitX_symm]
  simpa using this
theorem badX_of {n : Int} {e : Ext} (h : 1 ≤ e.2 ∧ 0 ≤ e.1 ∧ e.1 + e.2 ≤ n) : badX n e = false := by
  unfold badX
  simp only [Bool.or_eq_false_iff, decide_eq_false_iff_not]
  omega
theorem hitX_false {e o : Ext} : hitX e o = false ↔ (o.1 + o.2 ≤ e.1 ∨ e.1 + e.2 ≤ o.1) := by
  unfold hitX
  simp only [Bool.and_eq_false_iff, decide_eq_false_iff_not]
  omega
theorem tidy_mk (n : Int) : ∀ (S : List Ext) (a : Int), (∀ e ∈ S, a ≤ e.1 ∧ 1 ≤ e.2 ∧ e.1 + e.2 ≤ n) → S.Pairwise (fun x y => x.1 + x.2 ≤ y.1) → a ≤ n → Tidy a S n
  | [], _, _, _, h => h
  | e :: r, a, hb, hp, _ => by
    obtain ⟨h1, h2, h3⟩ := hb e (List.mem_cons_self ..)
    rw [List.pairwise_cons] at hp
    exact ⟨h1, h2, tidy_mk n r _ (fun x hx => by have := hb x (List.mem_cons_of_mem _ hx); have := hp.1 x hx; omega) hp.2 (by omega)⟩
theorem tidy_of {n : Int} {l : List Ext} (h : chkX n l = 0) : Tidy 0 (sortE l) n := by
  obtain ⟨h0, h1, h2, _, h5⟩ := chkX_ok h
  have hbad : ∀ e ∈ sortE l, badX n e = false := fun e he => by
    obtain ⟨j, hj, rfl⟩ := List.getElem_of_mem ((sortE_perm l).mem_iff.1 he)
    exact (h5 j hj).1
  refine tidy_mk n _ 0 (fun e he => by have := badX_false (hbad e he); omega) ?_ h0
  have hp : (sortE l).Pairwise (fun a b => hitX a b = false) := ((sortE_perm l).pairwise_iff (fun {x y} h => by rw [hitX_symm]; exact h)).2 (chkX_pair h)
  rw [List.pairwise_iff_getElem] at hp ⊢
  have hs := sortE_sorted l
  rw [List.pairwise_iff_getElem] at hs
  intro i j hi hj hij
  have a1 := hitX_false.1 (hp i j hi hj hij)
  have a2 := hs i j hi hj hij
  have a3 := badX_false (hbad _ (List.getElem_mem hi))
  have a4 := badX_false (hbad _ (List.getElem_mem hj))
  omega
theorem tidy_le : ∀ {S : List Ext} {a n : Int}, Tidy a S n → a ≤ n
  | [], _, _, h => h
  | e :: r, a, n, ⟨h1, h2, h3⟩ => by have := tidy_le h3; omega
theorem tidy_mem : ∀ {S : List Ext} {a n : Int}, Tidy a S n → ∀ e ∈ S, a ≤ e.1 ∧ 1 ≤ e.2 ∧ e.1 + e.2 ≤ n
  | e :: r, a, n, ⟨h1, h2, h3⟩, x, hx => by
    rcases List.mem_cons.1 hx with rfl | hx
    · exact ⟨h1, h2, tidy_le h3⟩
    · have := tidy_mem h3 x hx; omega
theorem tidy_strict : ∀ {S : List Ext} {a n : Int}, Tidy a S n → S.Pairwise (fun x y => x.1 < y.1)
  | [], _, _, _ => List.Pairwise.nil
  | e :: r, a, n, ⟨h1, h2, h3⟩ => List.Pairwise.cons (fun x hx => by have := tidy_mem h3 x hx; omega) (tidy_strict h3)
/-- holes of a tidy list, with its end -/
def runsX (a : Int) (S : List Ext) (n : Int) : List Ext := holesGo a (S ++ [(n, 0)])
theorem runsX_nil (a n : Int) : runsX a [] n = if a < n then [(a, n - a)] else [] := by
  unfold runsX
  simp [holesGo]
theorem runsX_cons (a : Int) (e : Ext) (r : List Ext) (n : Int) : runsX a (e :: r) n = (if a < e.1 then [(a, e.1 - a)] else []) ++ runsX (e.1 + e.2) r n := rfl
theorem runs_mem : ∀ {S : List Ext} {a n : Int}, Tidy a S n → ∀ h ∈ runsX a S n, a ≤ h.1 ∧ 1 ≤ h.2 ∧ h.1 + h.2 ≤ n ∧ ∀ e ∈ S, h.1 + h.2 ≤ e.1 ∨ e.1 + e.2 ≤ h.1
  | [], a, n, ht, h, hh => by
    rw [runsX_nil] at hh
    split at hh
    · rw [List.mem_singleton.1 hh]
      dsimp only
      exact ⟨by omega, by omega, by omega, fun e he => by cases he⟩
    · cases hh
  | e :: r, a, n, ⟨h1, h2, h3⟩, h, hh => by
    rw [runsX_cons] at hh
    rcases List.mem_append.1 hh with hh | hh
    · split at hh
      · rw [List.mem_singleton.1 hh]
        have := tidy_le h3
        dsimp only
        refine ⟨by omega, by omega, by omega, fun x hx => .inl ?_⟩
        rcases List.mem_cons.1 hx with rfl | hx
        · omega
        · have := tidy_mem h3 x hx; omega
      · cases hh
    · obtain ⟨i1, i2, i3, i4⟩ := runs_mem h3 h hh
      refine ⟨by omega, i2, i3, fun x hx => ?_⟩
      rcases List.mem_cons.1 hx with rfl | hx
      · right; omega
      · exact i4 x hx
theorem runs_pair : ∀ {S : List Ext} {a n : Int}, Tidy a S n → (runsX a S n).Pairwise (fun x y => x.1 + x.2 ≤ y.1)
  | [], a, n, _ => by
    rw [runsX_nil]; split <;> simp
  | e :: r, a, n, ⟨h1, h2, h3⟩ => by
    rw [runsX_cons]
    have ih := runs_pair h3
    split
    · refine List.Pairwise.cons (fun x hx => ?_) ih
      have := runs_mem h3 x hx
      dsimp only
      omega
    · exact ih
theorem foldl_sum (l : List Ext) : ∀ s : Int, l.foldl (fun s e => s + e.2) s = s + l.foldl (fun s e => s + e.2) 0 := by
  induction l with
  | nil => intro s; simp
  | cons x l ih => intro s; rw [List.foldl_cons, ih, List.foldl_cons, ih (0 + x.2)]; omega
theorem sumX_cons (e : Ext) (l : List Ext) : sumX (e :: l) = e.2 + sumX l := by
  unfold sumX; rw [List.foldl_cons, foldl_sum]; omega
theorem sumX_append (l m : List Ext) : sumX (l ++ m) = sumX l + sumX m := by
  induction l with
  | nil => simp [sumX]
  | cons x l ih => rw [List.cons_append, sumX_cons, sumX_cons, ih]; omega
theorem sumX_perm {l m : List Ext} (h : l.Perm m) : sumX l = sumX m := by
  induction h with
  | nil => rfl
  | cons x _ ih => rw [sumX_cons, sumX_cons, ih]
  | swap x y l => rw [sumX_cons, sumX_cons, sumX_cons, sumX_cons]; omega
  | trans _ _ h1 h2 => rw [h1, h2]
theorem runs_sum : ∀ {S : List Ext} {a n : Int}, Tidy a S n → sumX S + sumX (runsX a S n) = n - a
  | [], a, n, h => by
    have : a ≤ n := h
    rw [runsX_nil]; split
    · rw [sumX_cons]; simp [sumX]
    · simp [sumX]; omega
  | e :: r, a, n, ⟨h1, h2, h3⟩ => by
    rw [runsX_cons, sumX_cons, sumX_append]
    have ih := runs_sum h3
    split
    · rw [sumX_cons]
      have : sumX [] = 0 := rfl
      dsimp only
      omega
    · have : sumX [] = 0 := rfl
      omega
/-- one more, where it fits -/
theorem runs_insert : ∀ {S : List Ext} {a n at_ L size : Int}, Tidy a S n → (at_, L) ∈ runsX a S n → 1 ≤ size → size ≤ L →
    ∃ S', S'.Perm ((at_, size) :: S) ∧ Tidy a S' n ∧ (runsX a S' n).length ≤ (runsX a S n).length ∧ ∀ h ∈ runsX a S' n, ∃ h' ∈ runsX a S n, h.2 ≤ h'.2
  | [], a, n, at_, L, size, ht, hm, h1, h2 => by
    rw [runsX_nil] at hm
    split at hm
    · rename_i hlt
      have he := List.mem_singleton.1 hm
      injection he with e1 e2
      subst e1 e2
      refine ⟨[(at_, size)], List.Perm.refl _, ⟨Int.le_refl _, h1, (by omega : at_ + size ≤ n)⟩, ?_, ?_⟩
      · rw [runsX_cons, runsX_nil, runsX_nil, if_neg (by dsimp only; omega), if_pos hlt]
        dsimp only
        split <;> simp
      · intro h hh
        rw [runsX_cons, runsX_nil, if_neg (by dsimp only; omega)] at hh
        dsimp only at hh
        split at hh
        · have hm' : h = (at_ + size, n - (at_ + size)) := by simpa using hh
          rw [hm', runsX_nil, if_pos hlt]
          exact ⟨_, List.mem_singleton.2 rfl, by dsimp only; omega⟩
        · simp at hh
    · cases hm
  | e :: r, a, n, at_, L, size, ⟨t1, t2, t3⟩, hm, h1, h2 => by
    rw [runsX_cons] at hm
    rcases List.mem_append.1 hm with hm | hm
    · split at hm
      · rename_i hlt
        have he := List.mem_singleton.1 hm
        injection he with e1 e2
        subst e1 e2
        refine ⟨(at_, size) :: e :: r, List.Perm.refl _, ⟨Int.le_refl _, h1, (by dsimp only; omega), t2, t3⟩, ?_, ?_⟩
        · rw [runsX_cons, runsX_cons, runsX_cons, if_neg (by dsimp only; omega), if_pos hlt]
          dsimp only
          split <;> simp
        · intro h hh
          rw [runsX_cons, runsX_cons, if_neg (by dsimp only; omega)] at hh
          dsimp only at hh
          rw [runsX_cons, if_pos hlt]
          rw [List.nil_append] at hh
          rcases List.mem_append.1 hh with hh | hh
          · split at hh
            · rw [List.mem_singleton.1 hh]
              exact ⟨_, List.mem_cons_self .., by dsimp only; omega⟩
            · cases hh
          · exact ⟨h, List.mem_cons_of_mem _ hh, Int.le_refl _⟩
      · cases hm
    · obtain ⟨S', p1, p2, p3, p4⟩ := runs_insert t3 hm h1 h2
      refine ⟨e :: S', (List.Perm.cons e p1).trans (List.Perm.swap _ _ _), ⟨t1, t2, p2⟩, ?_, ?_⟩
      · rw [runsX_cons, runsX_cons, List.length_append, List.length_append]; omega
      · intro h hh
        rw [runsX_cons] at hh ⊢
        rcases List.mem_append.1 hh with hh | hh
        · exact ⟨h, List.mem_append_left _ hh, Int.le_refl _⟩
        · obtain ⟨h', m1, m2⟩ := p4 h hh
          exact ⟨h', List.mem_append_right _ m1, m2⟩
theorem sortE_unique {l S : List Ext} {a n : Int} (hp : S.Perm l) (ht : Tidy a S n) : sortE l = S := by
  have h1 : (sortE l).Perm S := (sortE_perm l).trans hp.symm
  have hs := tidy_strict ht
  refine List.Perm.eq_of_pairwise (le := fun x y : Ext => x.1 ≤ y.1) (fun x y hx hy h h' => ?_) (sortE_sorted l) (hs.imp fun h => Int.le_of_lt h) h1
  have hx' : x ∈ S := h1.mem_iff.1 hx
  obtain ⟨i, hi, rfl⟩ := List.getElem_of_mem hx'
  obtain ⟨j, hj, rfl⟩ := List.getElem_of_mem hy
  rw [List.pairwise_iff_getElem] at hs
  rcases Nat.lt_trichotomy i j with hij | rfl | hij
  · have := hs i j hi hj hij; omega
  · rfl
  · have := hs j i hj hi hij; omega
theorem bestX_snoc (size : Int) (H : List Ext) (x : Ext) : bestX size (H ++ [x]) = if size ≤ x.2 ∧ ((bestX size H).2 = 0 ∨ x.2 < (bestX size H).2) then x else bestX size H := by
  unfold bestX; rw [List.foldl_append]; rfl
theorem snocE {p : List Ext → Prop} (h0 : p []) (h1 : ∀ L x, p L → p (L ++ [x])) (L : List Ext) : p L := by
  rw [← List.reverse_reverse L]
  induction L.reverse with
  | nil => exact h0
  | cons x L ih => rw [List.reverse_cons]; exact h1 _ _ ih
theorem best_inv (size : Int) (h1 : 1 ≤ size) (H : List Ext) : (bestX size H = (0, 0) ∧ ∀ h ∈ H, h.2 < size) ∨ (bestX size H ∈ H ∧ size ≤ (bestX size H).2 ∧ ∀ h ∈ H, size ≤ h.2 → (bestX size H).2 ≤ h.2) := by
  induction H using snocE with
  | h0 => exact .inl ⟨rfl, fun h hh => by cases hh⟩
  | h1 L x ih =>
    rw [bestX_snoc]
    rcases ih with ⟨e, hall⟩ | ⟨hm, hs, hall⟩
    · rw [e]
      by_cases hx : size ≤ x.2
      · rw [if_pos ⟨hx, .inl rfl⟩]
        refine .inr ⟨by simp, hx, fun h hh hsz => ?_⟩
        rcases List.mem_append.1 hh with hh | hh
        · have := hall h hh; omega
        · rw [List.mem_singleton.1 hh]; exact Int.le_refl _
      · rw [if_neg (fun h => hx h.1)]
        refine .inl ⟨rfl, fun h hh => ?_⟩
        rcases List.mem_append.1 hh with hh | hh
        · exact hall h hh
        · rw [List.mem_singleton.1 hh]; omega
    · by_cases hx : size ≤ x.2 ∧ ((bestX size L).2 = 0 ∨ x.2 < (bestX size L).2)
      · rw [if_pos hx]
        refine .inr ⟨by simp, hx.1, fun h hh hsz => ?_⟩
        rcases List.mem_append.1 hh with hh | hh
        · have := hall h hh hsz; omega
        · rw [List.mem_singleton.1 hh]; exact Int.le_refl _
      · rw [if_neg hx]
        refine .inr ⟨List.mem_append_left _ hm, hs, fun h hh hsz => ?_⟩
        rcases List.mem_append.1 hh with hh | hh
        · exact hall h hh hsz
        · rw [List.mem_singleton.1 hh] at hsz ⊢; omega
section
variable {n : Int} {l : List Ext}
theorem holes_runs (n : Int) (l : List Ext) : holesX n l = runsX 0 (sortE l) n := rfl
theorem holes_mem (h : chkX n l = 0) : ∀ x ∈ holesX n l, 0 ≤ x.1 ∧ 1 ≤ x.2 ∧ x.1 + x.2 ≤ n ∧ ∀ e ∈ l, x.1 + x.2 ≤ e.1 ∨ e.1 + e.2 ≤ x.1 := fun x hx => by
  obtain ⟨i1, i2, i3, i4⟩ := runs_mem (tidy_of h) x hx
  exact ⟨i1, i2, i3, fun e he => i4 e ((sortE_perm l).mem_iff.2 he)⟩
theorem holds_sum (h : chkX n l = 0) : sumX l + sumX (holesX n l) = n := by
  have h1 := runs_sum (tidy_of h)
  rw [sumX_perm (sortE_perm l)] at h1
  rw [holes_runs]; omega
theorem holds_bad (h : chkX n l = 0) : ∀ e ∈ l, badX n e = false := fun e he => by
  obtain ⟨_, _, _, _, h5⟩ := chkX_ok h
  obtain ⟨j, hj, rfl⟩ := List.getElem_of_mem he
  exact (h5 j hj).1
theorem holds_chk (h : chkX n l = 0) (hl : (l ++ holesX n l).length ≤ 200) : chkX n (l ++ holesX n l) = 0 := by
  obtain ⟨h0, h1, _, _, _⟩ := chkX_ok h
  have hm := holes_mem h
  refine chkX_of h0 h1 hl (fun e he => ?_) ?_
  · rcases List.mem_append.1 he with he | he
    · exact holds_bad h e he
    · have := hm e he; exact badX_of (by omega)
  · rw [List.pairwise_append]
    refine ⟨chkX_pair h, (runs_pair (tidy_of h)).imp fun hxy => hitX_false.2 (.inr hxy), fun e he x hx => ?_⟩
    have := (hm x hx).2.2.2 e he
    exact hitX_false.2 (by omega)
theorem more_chk (h : chkX n l = 0) {at_ L size : Int} (hm : (at_, L) ∈ holesX n l) (h1 : 1 ≤ size) (h2 : size ≤ L) (hl : l.length + 1 ≤ 200) : chkX n (l ++ [(at_, size)]) = 0 ∧ chkX n ((at_, size) :: l) = 0 := by
  obtain ⟨o0, o1, _, _, _⟩ := chkX_ok h
  obtain ⟨m1, m2, m3, m4⟩ := holes_mem h _ hm
  dsimp only at m1 m2 m3 m4
  have hb : ∀ e ∈ (at_, size) :: l, badX n e = false := fun e he => by
    rcases List.mem_cons.1 he with rfl | he
    · exact badX_of (by dsimp only; omega)
    · exact holds_bad h e he
  have hx : ∀ e ∈ l, hitX (at_, size) e = false := fun e he => hitX_false.2 (by have := m4 e he; dsimp only; omega)
  constructor
  · refine chkX_of o0 o1 (by simp; omega) (fun e he => hb e (by simp at he ⊢; rcases he with h | h; exact .inr h; exact .inl h)) ?_
    rw [List.pairwise_append]
    refine ⟨chkX_pair h, by simp, fun e he x hx' => ?_⟩
    rw [List.mem_singleton.1 hx', hitX_symm]
    exact hx e he
  · refine chkX_of o0 o1 (by simp; omega) hb ?_
    exact List.Pairwise.cons hx (chkX_pair h)
theorem fit_none (h : chkX n l = 0) {size : Int} (hf : fitE n l size ≠ 0) : ∀ x ∈ holesX n l, 1 ≤ size → x.2 < size := fun x hx hs => by
  obtain ⟨o0, o1, _, _, _⟩ := chkX_ok h
  have hm := holes_mem h x hx
  unfold fitE at hf
  rw [if_pos h] at hf
  by_cases h1 : size < 1 ∨ 6400 < size
  · omega
  · rw [if_neg h1] at hf
    rcases best_inv size hs (holesX n l) with ⟨e, hall⟩ | ⟨_, h2, _⟩
    · exact hall x hx
    · rw [if_neg (by omega)] at hf; exact absurd rfl hf
theorem fit_some (h : chkX n l = 0) {size : Int} (hf : fitE n l size = 0) : ∃ L, (fitA n l size, L) ∈ holesX n l ∧ 1 ≤ size ∧ size ≤ L ∧ (∀ x ∈ holesX n l, size ≤ x.2 → L ≤ x.2) ∧ (∀ x ∈ holesX n l, x.1 = fitA n l size → x.2 = L) := by
  have hA : fitA n l size = (bestX size (holesX n l)).1 := by unfold fitA; rw [if_pos hf]
  unfold fitE at hf
  rw [if_pos h] at hf
  by_cases h1 : size < 1 ∨ 6400 < size
  · rw [if_pos h1] at hf; cases hf
  · rw [if_neg h1] at hf
    have hs : 1 ≤ size := by omega
    rcases best_inv size hs (holesX n l) with ⟨e, _⟩ | ⟨hm, h2, h3⟩
    · rw [e] at hf; cases hf
    · refine ⟨(bestX size (holesX n l)).2, by rw [hA]; exact hm, hs, h2, h3, fun x hx hxa => ?_⟩
      rw [hA] at hxa
      have hp := runs_pair (tidy_of h)
      rw [← holes_runs, List.pairwise_iff_getElem] at hp
      obtain ⟨i, hi, rfl⟩ := List.getElem_of_mem hx
      obtain ⟨j, hj, hjb⟩ := List.getElem_of_mem hm
      rw [← hjb] at hxa ⊢
      have pi := holes_mem h _ (List.getElem_mem hi)
      have pj := holes_mem h _ (List.getElem_mem hj)
      rcases Nat.lt_trichotomy i j with hij | rfl | hij
      · have := hp i j hi hj hij; omega
      · rfl
      · have := hp j i hj hi hij; omega
theorem mostX_snoc (H : List Ext) (x : Ext) : mostX (H ++ [x]) = max (mostX H) x.2 := by
  unfold mostX; rw [List.foldl_append]; rfl
theorem mostX_mem (H : List Ext) : 0 ≤ mostX H ∧ (∀ x ∈ H, x.2 ≤ mostX H) ∧ ∀ M, 0 ≤ M → (∀ x ∈ H, x.2 ≤ M) → mostX H ≤ M := by
  induction H using snocE with
  | h0 => exact ⟨Int.le_refl _, fun x hx => (by cases hx), fun M hM _ => hM⟩
  | h1 L x ih =>
    obtain ⟨i0, i1, i2⟩ := ih
    rw [mostX_snoc]
    refine ⟨by omega, fun y hy => ?_, fun M hM hall => ?_⟩
    · rcases List.mem_append.1 hy with hy | hy
      · have := i1 y hy; omega
      · rw [List.mem_singleton.1 hy]; omega
    · have := i2 M hM (fun y hy => hall y (List.mem_append_left _ hy))
      have := hall x (by simp)
      omega
theorem sum_mem {H : List Ext} (hp : ∀ x ∈ H, 0 ≤ x.2) : 0 ≤ sumX H ∧ ∀ x ∈ H, x.2 ≤ sumX H := by
  induction H with
  | nil => exact ⟨Int.le_refl _, fun x hx => by cases hx⟩
  | cons y r ih =>
    obtain ⟨i0, i1⟩ := ih (fun x hx => hp x (List.mem_cons_of_mem _ hx))
    have := hp y (List.mem_cons_self ..)
    rw [sumX_cons]
    refine ⟨by omega, fun x hx => ?_⟩
    rcases List.mem_cons.1 hx with rfl | hx
    · omega
    · have := i1 x hx; omega
/-- what is most is free -/
theorem most_free (h : chkX n l = 0) : mostX (holesX n l) ≤ n - sumX l := by
  have hs := holds_sum h
  have hm := sum_mem (H := holesX n l) (fun x hx => by have := holes_mem h x hx; omega)
  exact (mostX_mem _).2.2 _ (by omega) (fun x hx => by have := hm.2 x hx; omega)
theorem fit_most (h : chkX n l = 0) {size : Int} (hf : fitE n l size ≠ 0) : size < 1 ∨ mostX (holesX n l) < size := by
  by_cases h1 : size < 1
  · exact .inl h1
  · right
    have := (mostX_mem (holesX n l)).2.2 (size - 1) (by omega) (fun x hx => by have := fit_none h hf x hx (by omega); omega)
    omega
theorem more_stat (h : chkX n l = 0) {at_ L size : Int} (hm : (at_, L) ∈ holesX n l) (h1 : 1 ≤ size) (h2 : size ≤ L) :
    mostX (holesX n ((at_, size) :: l)) ≤ mostX (holesX n l) ∧ (holesX n ((at_, size) :: l)).length ≤ (holesX n l).length ∧ sumX ((at_, size) :: l) = size + sumX l := by
  obtain ⟨S', p1, p2, p3, p4⟩ := runs_insert (tidy_of h) hm h1 h2
  have hu : sortE ((at_, size) :: l) = S' := sortE_unique (p1.trans (List.Perm.cons _ (sortE_perm l))) p2
  rw [holes_runs n (_ :: l), hu]
  refine ⟨(mostX_mem _).2.2 _ (mostX_mem _).1 (fun x hx => ?_), p3, sumX_cons _ _⟩
  obtain ⟨x', m1, m2⟩ := p4 x hx
  have := (mostX_mem (holesX n l)).2.1 x' m1
  omega
end
end Go.Proofs.YtcahgmnkphmnhaaGreatDoor
/- The heap: Alloc. -/
namespace Go.Proofs.YtcahgmnkphmnhaaGreatDoor
open Go.RowKit

section
variable {w0 w : World} {F : Nat → Prop} {h : Nat} {l : Bytes}
/-- a heap's image, for a walk that writes into it -/
theorem Hp.rowW (hp : Hp w0 w F h l) : ∃ g cap cur, w.cell? ⟨h, 0, none⟩ = some (.slice (some ⟨g, 0, none⟩) l.length cap) ∧ w.heap[g]? = some (.cells cur 5 (0, 0)) ∧ cur.size = cap ∧ l.length ≤ cap ∧ cap ≤ maxLen ∧ Row w 5 g cap l ∧ F g ∧
    ∀ o (bs : Bytes), o + bs.length ≤ l.length → Hp w0 (w.setRow g (setB cur o (bs.map bv))) F h (splice l o bs) ∧ Keep F w (w.setRow g (setB cur o (bs.map bv))) := by
  obtain ⟨g, cap, h1, h2, h3⟩ := hp.hd
  have h2' := h2
  obtain ⟨cur, e1, e2, e3, e4, e5⟩ := h2'
  have hne : h ≠ g := ne_row h1 h2 (by decide)
  refine ⟨g, cap, cur, by simp [World.cell?, h1], e1, e4, e2, e3, h2, h3, fun o bs hb => ?_⟩
  have hl := splice_len l bs o hb
  have hsz : (w.setRow g (setB cur o (bs.map bv))).heap.size = w.heap.size := by simp [World.setRow]
  have hk : Keep F w (w.setRow g (setB cur o (bs.map bv))) := ⟨rfl, rfl, rfl, Nat.le_of_eq hsz.symm, fun k _ hn => setRow_other w g _ _ (fun e => hn (e ▸ h3))⟩
  refine ⟨⟨⟨g, cap, by rw [hl]; exact (setRow_other w g _ _ hne).trans h1, h2.set_ o bs hb cur e1, h3⟩, hp.fh, by rw [hl]; exact hp.len, hp.new, fun k hk' => by rw [hsz]; exact hp.flt k hk', hkeep_below hp.bel hk hp.new⟩, hk⟩
end
/-- the first handle that is free (0: none), of the last j -/
def fH (l : Bytes) : Nat → Nat
  | 0 => 0
  | j + 1 => if hasE (rawE l (39 - j)) = true then fH l j else 40 - j
theorem fH_le (l : Bytes) : ∀ j, j ≤ 40 → fH l j ≤ 40
  | 0, _ => by simp [fH]
  | j + 1, hj => by
    unfold fH; split
    · exact fH_le l j (by omega)
    · omega
theorem fH_spec (l : Bytes) : ∀ j, j ≤ 40 → (fH l j = 0 ∧ ∀ k, 40 - j ≤ k → k < 40 → hasE (rawE l k) = true) ∨ (∃ k, 40 - j ≤ k ∧ k < 40 ∧ fH l j = k + 1 ∧ hasE (rawE l k) = false ∧ ∀ i, 40 - j ≤ i → i < k → hasE (rawE l i) = true)
  | 0, _ => .inl ⟨rfl, fun k h1 h2 => by omega⟩
  | j + 1, hj => by
    cases hh : hasE (rawE l (39 - j)) with
    | true =>
      have e : fH l (j + 1) = fH l j := by simp [fH, hh]
      rw [e]
      rcases fH_spec l j (by omega) with ⟨h0, hall⟩ | ⟨k, k1, k2, k3, k4, k5⟩
      · refine .inl ⟨h0, fun k h1 h2 => ?_⟩
        by_cases hk : k = 39 - j
        · rw [hk]; exact hh
        · exact hall k (by omega) h2
      · refine .inr ⟨k, by omega, k2, k3, k4, fun i h1 h2 => ?_⟩
        by_cases hi : i = 39 - j
        · rw [hi]; exact hh
        · exact k5 i (by omega) h2
    | false =>
      have e : fH l (j + 1) = 40 - j := by simp [fH, hh]
      exact .inr ⟨39 - j, by omega, by omega, by omega, hh, fun i h1 h2 => by omega⟩
/-- the fault of Alloc; where; the handle; the image behind it -/
def allocE (l : Bytes) (n t : Int) : Nat := if lenB n = false ∨ tagB t = false then 1 else if fH l 40 = 0 ∨ fitE ((l.length : Int) - 288) (takenL l) n ≠ 0 then 4 else 0
def allocA (l : Bytes) (n : Int) : Int := fitA ((l.length : Int) - 288) (takenL l) n + 288
def allocH (l : Bytes) (n t : Int) : Int := if allocE l n t = 0 then fH l 40 else 0
def allocL (l : Bytes) (n t : Int) : Bytes := if allocE l n t = 0 then splice (putEnt l (fH l 40) (allocA l n) n t) (allocA l n).toNat (List.replicate n.toNat 0) else l
theorem alloc_in {l : Bytes} {n : Int} (h : fitE ((l.length : Int) - 288) (takenL l) n = 0) : 288 ≤ allocA l n ∧ allocA l n + n ≤ l.length := by
  have hc : chkX ((l.length : Int) - 288) (takenL l) = 0 := by
    unfold fitE at h
    by_cases hc : chkX ((l.length : Int) - 288) (takenL l) = 0
    · exact hc
    · rw [if_neg hc] at h; exact absurd h hc
  obtain ⟨L, m1, m2, m3, _, _⟩ := fit_some hc h
  have := holes_mem hc _ m1
  unfold allocA
  dsimp only at this
  omega
section
variable {w0 w : World} {F : Nat → Prop} {h : Nat} {l : Bytes}
theorem halloc_e1 (n t : Int) (_hp : Hp w0 w F h l) (hbad : lenB n = false ∨ tagB t = false) :
    Calls Tryz.prog 26 #[.pointer (some ⟨h, 0, none⟩), .int .i64 n, .int .i64 t] w fun e w' => e = .returned (.tuple #[.int .i64 0, .iface 79 (.int .i64 1)]) ∧ w = w' := by
  cases h1 : lenB n with
  | false =>
    clear hbad
    go_enter Tryz.func26, Tryz.ntmps26
    go_wp2_with fail
    refine (len_any _ _).mono ?_
    rintro e w' ⟨rfl, rfl⟩
    rw [h1]
    go_wp2_with fail
    go_ret2
    exact ⟨rfl, rfl⟩
  | true =>
    have h2 : tagB t = false := by simpa [h1] using hbad
    clear hbad
    go_enter Tryz.func26, Tryz.ntmps26
    go_wp2_with fail
    refine (len_any _ _).mono ?_
    rintro e w' ⟨rfl, rfl⟩
    rw [h1]
    go_wp2_with fail
    refine (tag_any _ _).mono ?_
    rintro e w' ⟨rfl, rfl⟩
    rw [h2]
    go_wp2_with fail
    go_ret2
    exact ⟨rfl, rfl⟩
set_option maxRecDepth 100000 in
theorem halloc_go (n t : Int) (hp : Hp w0 w F h l) (h1 : lenB n = true) (h2 : tagB t = true) :
    Calls Tryz.prog 26 #[.pointer (some ⟨h, 0, none⟩), .int .i64 n, .int .i64 t] w fun e w' => e = .returned (.tuple #[.int .i64 (allocH l n t), errV (allocE l n t)]) ∧ ∃ F', HpM w0 w w' F F' h (allocL l n t) := by
  have hb := rightB_true.1 hp.len
  have hnb := lenB_true.1 h1
  have HP := Hidden.mk hp
  have HG : Hidden (∀ (j : Nat), j < 40 → ∀ W, Hp w0 W F h l → ∃ g cap, W.cell? ⟨h, 0, none⟩ = some (.slice (some ⟨g, 0, none⟩) l.length cap) ∧ Calls Tryz.prog 71 #[.slice (some ⟨g, 0, none⟩) l.length cap, .int .i64 ((39 - j : Nat) + 1 : Int)] W fun e w' => ∃ a b c d : Int, e = .returned (.tuple #[.agg #[.int .i64 a, .int .i64 b, .int .i64 c, .int .i64 d], errV (if hasE (rawE l (39 - j)) = true then 0 else 5)]) ∧ Below W.heap.size W w') := ⟨fun j hj W hW => by
    obtain ⟨g, cap, c0, hcap, hrow, _⟩ := hW.open_
    refine ⟨g, cap, c0, (iget_ans (some ⟨g, 0, none⟩) l.length cap l _ W rfl hW.len hcap hrow.rd).mono ?_⟩
    rintro e w' ⟨rfl, hb'⟩
    have e : hE l ((39 - j : Nat) + 1 : Int) = if hasE (rawE l (39 - j)) = true then 0 else 5 := by
      cases hh : hasE (rawE l (39 - j)) with
      | true => rw [(hE_has (by omega) hh).1]; rfl
      | false => rw [hE_hasnt (by omega) hh]; rfl
    rw [e]
    exact ⟨_, _, _, _, rfl, hb'⟩⟩
  have HE : Hidden (allocE l n t = if fH l 40 = 0 ∨ fitE ((l.length : Int) - 288) (takenL l) n ≠ 0 then 4 else 0) := ⟨by unfold allocE; rw [if_neg (by simp [h1, h2])]⟩
  have HH : Hidden (allocH l n t = if allocE l n t = 0 then (fH l 40 : Int) else 0) := ⟨rfl⟩
  have HL : Hidden (allocL l n t = if allocE l n t = 0 then splice (putEnt l (fH l 40) (allocA l n) n t) (allocA l n).toNat (List.replicate n.toNat 0) else l) := ⟨rfl⟩
  clear hp
  go_enter Tryz.func26, Tryz.ntmps26
  go_wp2_with fail
  refine (len_any _ _).mono ?_
  rintro e w' ⟨rfl, rfl⟩
  rw [h1]
  go_wp2_with fail
  refine (tag_any _ _).mono ?_
  rintro e w' ⟨rfl, rfl⟩
  rw [h2]
  go_wp2_with fail
  go_loopg [8, 9] 40 (fun q v i wr => ∃ j : Nat, j ≤ 40 ∧ q = 40 - j ∧ i = .int .i64 (40 - (j : Int)) ∧ v = .int .i64 (fH l j : Int) ∧ Hidden (Below w.heap.size w wr))
  case atStart => exact ⟨0, by omega, rfl, rfl, rfl, ⟨Below.refl _ _⟩⟩
  case round =>
    obtain ⟨j, hj, rfl, rfl, rfl, hst⟩ := hrel
    by_cases hlt : j < 40
    · obtain ⟨g, cap, y0, hget⟩ := HG.out j hlt wr (HP.out.below hst.out)
      have e1 : ((39 - j : Nat) + 1 : Int) = 40 - (j : Int) := by omega
      rw [e1] at hget
      have HGT := Hidden.mk hget
      have HS : Hidden (fH l (j + 1) = if hasE (rawE l (39 - j)) = true then fH l j else 40 - j) := ⟨rfl⟩
      have t0 : decide (1 ≤ 40 - (j : Int)) = true := by simp; omega
      have s1 : IntKind.i64.wrap (40 - (j : Int) - 1) = 40 - ((j + 1 : Nat) : Int) := by rw [IntWalk.i64_in _ (by omega)]; omega
      generalize fH l j = fj at *
      clear hget e1
      go_wp2_with fail
      refine HGT.out.mono ?_
      rintro e w1 ⟨a, b, c, d, rfl, hb1⟩
      have hB1 := hst.out.trans (hb1.mono hst.out.size)
      have HB := Hidden.mk (hB1.alloc hB1.size (.cells #[.int .i64 a, .int .i64 b, .int .i64 c, .int .i64 d] 68))
      clear hb1 hB1 hst HGT
      cases hh : hasE (rawE l (39 - j)) with
      | true =>
        rw [if_pos rfl]
        have HS2 : Hidden (fH l (j + 1) = fj) := ⟨by rw [HS.out, if_pos hh]⟩
        rw [show errV 0 = Value.nilIface from rfl]
        clear hh HS
        go_wp2_with fail
        go_roundg (40 - (j + 1))
        case measure => omega
        case rel => exact ⟨j + 1, by omega, rfl, rfl, by rw [HS2.out], HB⟩
      | false =>
        rw [if_neg (by decide)]
        have HS2 : Hidden (fH l (j + 1) = 40 - j) := ⟨by rw [HS.out, if_neg (by rw [hh]; decide)]⟩
        rw [show errV 5 = .iface 79 (.int .i64 5) from rfl]
        clear hh HS
        go_wp2_with fail
        go_roundg (40 - (j + 1))
        case measure => omega
        case rel => exact ⟨j + 1, by omega, rfl, rfl, by rw [HS2.out]; congr 1; omega, HB⟩
    · obtain rfl : j = 40 := by omega
      have HP2 := Hidden.mk (HP.out.below hst.out)
      have HT := Hidden.mk (htaken_any HP2.out)
      have t0 : decide (1 ≤ 40 - ((40 : Nat) : Int)) = false := by decide
      have hfl := fH_le l 40 (Nat.le_refl _)
      have HW1 := Hidden.mk hst.out
      clear hst HG
      go_wp2_with fail
      refine HT.out.mono ?_
      rintro e w1 ⟨A, m, c, rfl, hm, hmc, hrx, hb1⟩
      have HW2 := Hidden.mk (HW1.out.trans (hb1.mono HW1.out.size))
      have HF := Hidden.mk (xfit_any ((l.length : Int) - 288) A m c (takenL l) n w1 hm hmc hrx)
      clear hb1 hrx HT HW1 HP2 t0
      have HIN : Hidden (fitE ((l.length : Int) - 288) (takenL l) n = 0 → 288 ≤ allocA l n ∧ allocA l n + n ≤ l.length) := ⟨alloc_in⟩
      have HAD : Hidden (allocA l n = fitA ((l.length : Int) - 288) (takenL l) n + 288) := ⟨rfl⟩
      generalize fitE ((l.length : Int) - 288) (takenL l) n = fe at *
      generalize fitA ((l.length : Int) - 288) (takenL l) n = fa at *
      generalize allocA l n = aa at *
      generalize fH l 40 = fh at *
      go_wp2_with fail
      refine HF.out.mono ?_
      rintro e w2 ⟨rfl, hb2⟩
      have HW3 := Hidden.mk (HW2.out.trans (hb2.mono HW2.out.size))
      clear hb2 HF HW2
      by_cases hz : fh = 0
      · have hae : allocE l n t = 4 := by rw [HE.out, if_pos (.inl hz)]
        have HAH : Hidden (allocE l n t = 4 ∧ allocH l n t = 0 ∧ allocL l n t = l) := ⟨hae, by rw [HH.out, hae]; rfl, by rw [HL.out, hae]; rfl⟩
        clear hae
        subst hz
        have HFIN := Hidden.mk (HP.out.same HW3.out)
        generalize errV fe = ev at *
        clear HE HH HL
        go_wp2_with fail
        go_ret2
        exact ⟨by rw [HAH.out.1, HAH.out.2.1]; rfl, _, by rw [HAH.out.2.2]; exact HFIN.out⟩
      · by_cases hfe : fe = 0
        · have hae : allocE l n t = 0 := by rw [HE.out, if_neg (by omega)]
          have hah : allocH l n t = fh := by rw [HH.out, hae]; rfl
          have hin := HIN.out hfe
          rw [hfe, show errV 0 = Value.nilIface from rfl]
          have t1 : (fh == 0) = false := by simpa using hz
          have t2 : ((fh : Int) == 0) = false := by simpa using hz
          have s1 : IntKind.i64.wrap (fa + 288) = aa := by rw [HAD.out, IntWalk.i64_in _ (by have := HAD.out; omega)]
          have HLL : Hidden (allocL l n t = splice (putEnt l fh aa n t) aa.toNat (List.replicate n.toNat 0)) := ⟨by rw [HL.out, hae]; rfl⟩
          have HAH := Hidden.mk (And.intro hae hah)
          clear hae hah
          obtain ⟨a, rfl⟩ := Int.eq_ofNat_of_zero_le (show 0 ≤ aa by omega)
          obtain ⟨nn, rfl⟩ := Int.eq_ofNat_of_zero_le (show 0 ≤ n by omega)
          have hal : allocL l nn t = splice (putEnt l fh a nn t) a (List.replicate nn 0) := HLL.out
          have hwb : withinB l.length (a : Int) (nn : Int) = true := withinB_true.2 (by omega)
          have hal1 : Below w2.heap.size w2 (w2.alloc (.cells #[.int .i64 fh, .int .i64 a, .int .i64 nn, .int .i64 t] 68)) := (Below.refl _ _).alloc (Nat.le_refl _) _
          have hp3 := HP.out.below (HW3.out.trans (hal1.mono HW3.out.size))
          have HPUT := Hidden.mk (fun (W : World) (hW : Hp w0 W F h l) => hput_ok (fh : Int) (a : Int) (nn : Int) t hW (handleB_true.2 (by omega)) h2 h1 hwb)
          have hpl : (putEnt l fh a nn t).length = l.length := putEnt_len l fh a nn t (by omega) (by omega) (by omega)
          have HPL := Hidden.mk hpl
          have HALL := Hidden.mk hal
          have hf := fourAt_one w2 fh a nn t 68
          have HW4 := Hidden.mk (HW3.out.trans (hal1.mono HW3.out.size))
          have HP4 := Hidden.mk hp3
          generalize putEnt l fh a nn t = l1 at *
          clear hal hal1 hp3 hwb hpl HE HH HL HIN HAD hfe hz HLL
          go_wp2_with fail
          generalize w2.alloc (.cells #[.int .i64 fh, .int .i64 a, .int .i64 nn, .int .i64 t] 68) = w3 at *
          refine (HPUT.out _ HP4.out).mono ?_
          rintro e w4 ⟨rfl, F4, hm4⟩
          obtain ⟨f0, f1, f2, f3⟩ := hf
          have hfl4 : w2.heap.size < w3.heap.size := block_lt_of_cell f0
          have hno : ¬ F w2.heap.size := fun hk => by have := HP.out.flt _ hk; have := HW3.out.size; omega
          have hk4 := hm4.kp.block _ hfl4 hno
          have g0 := (World.cell?_of_block (w := w3) (a := ⟨w2.heap.size, 0, none⟩) hk4).trans f0
          have g1 := (World.cell?_of_block (w := w3) (a := ⟨w2.heap.size, 1, none⟩) hk4).trans f1
          have g2 := (World.cell?_of_block (w := w3) (a := ⟨w2.heap.size, 2, none⟩) hk4).trans f2
          have g3 := (World.cell?_of_block (w := w3) (a := ⟨w2.heap.size, 3, none⟩) hk4).trans f3
          obtain ⟨gi, ci, cur4, y0, -, -, hci, -, -, -, -⟩ := hm4.hp.rowW
          rw [HPL.out] at y0 hci
          have HOF := Hidden.mk (hof_any (h := h) gi ci a nn fh t w4 ⟨_, y0⟩ (by omega) (by omega) (by omega))
          have HM := Hidden.mk (((HP.out.same HW4.out).trans hm4))
          have HY0 := Hidden.mk y0
          clear f0 f1 f2 f3 hfl4 hno hk4 hm4 HPUT
          go_wp2_with fail
          refine HOF.out.mono ?_
          rintro e w5 ⟨rfl, hb5⟩
          have hm5 := HM.out.trans (HM.out.hp.same hb5)
          obtain ⟨g5, c5, cur5, z0, z1, z2, z3, -, -, -, z4⟩ := hm5.hp.rowW
          have hyz := ((hb5.cell (p := ⟨h, 0, none⟩) (block_lt_of_cell HY0.out)).trans HY0.out).symm.trans z0
          have hyz := Option.some.inj hyz
          injection hyz with q1 q2 q3
          injection q1 with q1
          injection q1 with q1
          subst q1 q3
          rw [HPL.out] at z3
          have hclear := fun ty => run_clear_row w5 gi a nn (ci - a) cur5 _ z1 (by omega) (by omega) ty
          have hz4 := z4 a (List.replicate nn 0) (by rw [HPL.out]; simp; omega)
          have HFIN := Hidden.mk (hm5.trans (HpM.mk hz4.1 hz4.2 (fun k hk => .inl hk)))
          clear z0 z2 z3 z4 hz4 hm5 hb5 HOF HM HY0 y0 q2
          go_wp2_with fail
          go_ret2
          exact ⟨by rw [HAH.out.1, HAH.out.2]; rfl, _, by rw [HALL.out]; have hF := HFIN.out; rw [List.map_replicate] at hF; exact hF⟩
        · have hae : allocE l n t = 4 := by rw [HE.out, if_pos (.inr hfe)]
          have HAH : Hidden (allocE l n t = 4 ∧ allocH l n t = 0 ∧ allocL l n t = l) := ⟨hae, by rw [HH.out, hae]; rfl, by rw [HL.out, hae]; rfl⟩
          clear hae
          have hev : errV fe = .iface 79 (.int .i64 fe) := by unfold errV; rw [if_neg hfe]
          rw [hev]
          have t1 : (fh == 0) = false := by simpa using hz
          have t2 : ((fh : Int) == 0) = false := by simpa using hz
          have HFIN := Hidden.mk (HP.out.same HW3.out)
          clear HE HH HL hfe hz hev
          go_wp2_with fail
          go_ret2
          exact ⟨by rw [HAH.out.1, HAH.out.2.1]; rfl, _, by rw [HAH.out.2.2]; exact HFIN.out⟩
theorem halloc_any (n t : Int) (hp : Hp w0 w F h l) :
    Calls Tryz.prog 26 #[.pointer (some ⟨h, 0, none⟩), .int .i64 n, .int .i64 t] w fun e w' => e = .returned (.tuple #[.int .i64 (allocH l n t), errV (allocE l n t)]) ∧ ∃ F', HpM w0 w w' F F' h (allocL l n t) := by
  by_cases hbad : lenB n = false ∨ tagB t = false
  · have h1 : allocE l n t = 1 := by unfold allocE; rw [if_pos hbad]
    have h2 : allocH l n t = 0 := by unfold allocH; rw [h1]; rfl
    have h3 : allocL l n t = l := by unfold allocL; rw [h1]; rfl
    rw [h1, h2, h3]
    refine (halloc_e1 n t hp hbad).mono ?_
    rintro e w' ⟨rfl, rfl⟩
    exact ⟨rfl, F, hp.same (Below.refl _ _)⟩
  · exact halloc_go n t hp (by cases hx : lenB n <;> simp_all) (by cases hx : tagB t <;> simp_all)
end
end Go.Proofs.YtcahgmnkphmnhaaGreatDoor
/- The heap: bytes of an object that are read, or written. -/
namespace Go.Proofs.YtcahgmnkphmnhaaGreatDoor
open Go.RowKit

/-- the fault of some bytes of an object -/
def someE (l : Bytes) (x a n : Int) : Nat := if hE l x ≠ 0 then hE l x else if a < 0 ∨ n < 0 ∨ gL l x < a ∨ gL l x - a < n then 3 else 0
/-- the bytes; the image in which others stand there -/
def readL (l : Bytes) (x a n : Int) : Bytes := if someE l x a n = 0 then (l.drop (gA l x + a).toNat).take n.toNat else []
def writeL (l : Bytes) (x a : Int) (b : Bytes) : Bytes := if someE l x a b.length = 0 then splice l (gA l x + a).toNat b else l
theorem some_in {l : Bytes} (hg : Good l) {x a n : Int} (h : someE l x a n = 0) : hE l x = 0 ∧ 0 ≤ a ∧ 0 ≤ n ∧ a + n ≤ gL l x ∧ 288 ≤ gA l x ∧ 1 ≤ gL l x ∧ gL l x ≤ 1000 ∧ gA l x + gL l x ≤ l.length := by
  unfold someE at h
  by_cases h0 : hE l x = 0
  · rw [if_neg (by simp [h0])] at h
    have := good_in hg h0
    by_cases hb : a < 0 ∨ n < 0 ∨ gL l x < a ∨ gL l x - a < n
    · rw [if_pos hb] at h; cases h
    · omega
  · rw [if_pos h0] at h; exact absurd h h0
section
variable {w0 w : World} {F : Nat → Prop} {h : Nat} {l : Bytes}
set_option maxRecDepth 100000 in
theorem hsome_e (x a n : Int) (hp : Hp w0 w F h l) (hg : Good l) (he : someE l x a n ≠ 0) (hn : n ≤ 9223372036854775807) :
    Calls Tryz.prog 125 #[.pointer (some ⟨h, 0, none⟩), .int .i64 x, .int .i64 a, .int .i64 n] w fun e w' => e = .returned (.tuple #[.slice none 0 0, .iface 79 (.int .i64 (someE l x a n : Int))]) ∧ Below w.heap.size w w' := by
  have hb := rightB_true.1 hp.len
  obtain ⟨g, cap, c0, hcap, hrow, hF⟩ := hp.open_
  have hcm := hrow.le.2
  have HC := Hidden.mk (iget_ans (some ⟨g, 0, none⟩) l.length cap l x w rfl hp.len hcap hrow.rd)
  unfold entV at HC
  have HGI : Hidden (hE l x = 0 → 288 ≤ gA l x ∧ 1 ≤ gL l x ∧ gL l x ≤ 1000 ∧ gA l x + gL l x ≤ l.length) := ⟨fun h0 => by have := good_in hg h0; omega⟩
  have HE : Hidden (someE l x a n = if hE l x ≠ 0 then hE l x else if a < 0 ∨ n < 0 ∨ gL l x < a ∨ gL l x - a < n then 3 else 0) := ⟨rfl⟩
  clear hp hrow hg
  by_cases h0 : hE l x = 0
  · have hin := HGI.out h0
    have hbad : a < 0 ∨ n < 0 ∨ gL l x < a ∨ gL l x - a < n := by
      refine Classical.byContradiction fun hb' => he ?_
      rw [HE.out, if_neg (by simp [h0]), if_neg hb']
    have hE3 : someE l x a n = 3 := by rw [HE.out, if_neg (by simp [h0]), if_pos hbad]
    rw [hE3]
    rw [h0, show errV 0 = Value.nilIface from rfl] at HC
    generalize gH l x = a0 at *
    generalize gT l x = a3 at *
    obtain ⟨ea, hea⟩ := Int.eq_ofNat_of_zero_le (show 0 ≤ gA l x by omega)
    obtain ⟨el, hel⟩ := Int.eq_ofNat_of_zero_le (show 0 ≤ gL l x by omega)
    rw [hea, hel] at HC
    rw [hea, hel] at hin
    rw [hel] at hbad
    clear HE HGI hE3 he h0 hea hel
    go_enter Tryz.func125, Tryz.ntmps125
    go_wp2_with fail
    refine HC.out.mono ?_
    rintro e w1 ⟨rfl, hb1⟩
    have hal := (Below.refl w1.heap.size w1).alloc (Nat.le_refl _) (.cells #[.int .i64 a0, .int .i64 (ea : Int), .int .i64 (el : Int), .int .i64 a3] 68)
    have hB2 := hb1.trans (hal.mono hb1.size)
    have HB2 := Hidden.mk hB2
    have HOF := Hidden.mk (hof_any (h := h) g cap ea el a0 a3 (w1.alloc (.cells #[.int .i64 a0, .int .i64 (ea : Int), .int .i64 (el : Int), .int .i64 a3] 68)) ⟨_, (hB2.cell (p := ⟨h, 0, none⟩) (block_lt_of_cell c0)).trans c0⟩ (by omega) (by omega) (by omega))
    have hf := fourAt_one w1 a0 (ea : Int) (el : Int) a3 68
    obtain ⟨f0, f1, f2, f3⟩ := hf
    clear hal hB2 hb1 HC c0
    go_wp2_with fail
    refine HOF.out.mono ?_
    rintro e w2 ⟨rfl, hb2⟩
    have HB3 := Hidden.mk (HB2.out.trans (hb2.mono HB2.out.size))
    clear hb2 HB2 HOF f0 f1 f2 f3
    by_cases q1 : a < 0
    · have d1 : decide (a < 0) = true := by simpa using q1
      clear hbad q1
      go_wp2_with fail
      go_ret2
      exact ⟨rfl, HB3.out⟩
    have d1 : decide (a < 0) = false := by simpa using q1
    by_cases q2 : n < 0
    · have d2 : decide (n < 0) = true := by simpa using q2
      clear hbad q1 q2
      go_wp2_with fail
      go_ret2
      exact ⟨rfl, HB3.out⟩
    have d2 : decide (n < 0) = false := by simpa using q2
    by_cases q3 : (el : Int) < a
    · have d3 : decide ((el : Int) < a) = true := by simpa using q3
      clear hbad q1 q2 q3
      go_wp2_with fail
      go_ret2
      exact ⟨rfl, HB3.out⟩
    have d3 : decide ((el : Int) < a) = false := by simpa using q3
    have s1 : IntKind.i64.wrap ((el : Int) - a) = (el : Int) - a := IntWalk.i64_in _ (by omega)
    have d4 : decide ((el : Int) - a < n) = true := by simp; omega
    clear hbad q1 q2 q3
    go_wp2_with fail
    go_ret2
    exact ⟨rfl, HB3.out⟩
  · have hE1 : someE l x a n = hE l x := by rw [HE.out, if_pos h0]
    have hev : errV (hE l x) = .iface 79 (.int .i64 (hE l x : Int)) := by unfold errV; rw [if_neg h0]
    rw [hE1]
    rw [hev] at HC
    generalize (hE l x : Int) = q at *
    generalize gH l x = a0 at *
    generalize gA l x = a1 at *
    generalize gL l x = a2 at *
    generalize gT l x = a3 at *
    clear HE HGI hE1 hev he h0
    go_enter Tryz.func125, Tryz.ntmps125
    go_wp2_with fail
    refine HC.out.mono ?_
    rintro e w1 ⟨rfl, hb1⟩
    have HB := Hidden.mk (hb1.alloc hb1.size (.cells #[.int .i64 a0, .int .i64 a1, .int .i64 a2, .int .i64 a3] 68))
    clear hb1 HC
    go_wp2_with fail
    go_ret2
    exact ⟨rfl, HB.out⟩
set_option maxRecDepth 100000 in
theorem hsome_ok (x a n : Int) (g cap : Nat) (hp : Hp w0 w F h l) (hg : Good l) (he : someE l x a n = 0) (c0 : w.cell? ⟨h, 0, none⟩ = some (.slice (some ⟨g, 0, none⟩) l.length cap)) :
    Calls Tryz.prog 125 #[.pointer (some ⟨h, 0, none⟩), .int .i64 x, .int .i64 a, .int .i64 n] w fun e w' => ∃ o c', e = .returned (.tuple #[.slice (some ⟨g, o, none⟩) n.toNat c', .nilIface]) ∧ (0 < n.toNat → o = (gA l x + a).toNat) ∧ o ≤ cap ∧ n.toNat ≤ c' ∧ Below w.heap.size w w' := by
  have hb := rightB_true.1 hp.len
  obtain ⟨g', cap', c0', hcap, hrow, hF⟩ := hp.open_
  rw [c0] at c0'
  have hinj := Option.some.inj c0'
  injection hinj with q1 q2 q3
  injection q1 with q1
  injection q1 with q1
  subst q1 q3
  clear c0' q2
  have hcm := hrow.le.2
  have hin := some_in hg he
  have HC := Hidden.mk (iget_ans (some ⟨g, 0, none⟩) l.length cap l x w rfl hp.len hcap hrow.rd)
  unfold entV at HC
  rw [hin.1, show errV 0 = Value.nilIface from rfl] at HC
  generalize gH l x = a0 at *
  generalize gT l x = a3 at *
  obtain ⟨ea, hea⟩ := Int.eq_ofNat_of_zero_le (show 0 ≤ gA l x by omega)
  obtain ⟨el, hel⟩ := Int.eq_ofNat_of_zero_le (show 0 ≤ gL l x by omega)
  obtain ⟨aa, rfl⟩ := Int.eq_ofNat_of_zero_le (show 0 ≤ a by omega)
  obtain ⟨nn, rfl⟩ := Int.eq_ofNat_of_zero_le (show 0 ≤ n by omega)
  rw [hea, hel] at HC
  rw [hea, hel] at hin
  rw [hea, show ((ea : Int) + (aa : Int)).toNat = ea + aa by omega, Int.toNat_natCast]
  obtain ⟨-, -, -, h4, h5, h6, h7, h8⟩ := hin
  have hcut := run_cutA (some ⟨g, ea, none⟩) el (cap - ea) aa (aa + nn) (by omega) (by omega)
  rw [Nat.add_sub_cancel_left] at hcut
  have HO : ∃ o, (if cap - ea = aa then some (⟨g, ea, none⟩ : Addr) else (some (⟨g, ea, none⟩ : Addr)).map (·.add aa)) = some ⟨g, o, none⟩ ∧ (0 < nn → o = ea + aa) ∧ o ≤ cap := by
    by_cases hq : cap - ea = aa
    · exact ⟨ea, by rw [if_pos hq], fun h => by omega, by omega⟩
    · exact ⟨ea + aa, by rw [if_neg hq, Option.map_some, Addr.add_lit], fun _ => rfl, by omega⟩
  obtain ⟨o, ho, ho1, ho2⟩ := HO
  rw [ho] at hcut
  simp only [Int.natCast_add] at hcut
  have HOO := Hidden.mk (And.intro ho1 ho2)
  have d1 : decide ((aa : Int) < 0) = false := by simp
  have d2 : decide ((nn : Int) < 0) = false := by simp
  have d3 : decide ((el : Int) < (aa : Int)) = false := by simp; omega
  have d3' : decide (el < aa) = false := by simp; omega
  have s1 : IntKind.i64.wrap ((el : Int) - aa) = (el : Int) - aa := IntWalk.i64_in _ (by omega)
  have d4 : decide ((el : Int) - aa < (nn : Int)) = false := by simp; omega
  have s2 : IntKind.i64.wrap ((aa : Int) + nn) = (aa : Int) + nn := IntWalk.i64_in _ (by omega)
  have HCN : Hidden (nn ≤ cap - ea - aa) := ⟨by omega⟩
  have HBD : Hidden (ea + el ≤ cap ∧ 1 ≤ el ∧ ea + el ≤ 281474976710656) := ⟨by omega⟩
  clear hea hel h4 h5 h6 h7 h8 ho ho1 ho2 he hg hp hrow
  go_enter Tryz.func125, Tryz.ntmps125
  go_wp2_with fail
  refine HC.out.mono ?_
  rintro e w1 ⟨rfl, hb1⟩
  have hal := (Below.refl w1.heap.size w1).alloc (Nat.le_refl _) (.cells #[.int .i64 a0, .int .i64 (ea : Int), .int .i64 (el : Int), .int .i64 a3] 68)
  have hB2 := hb1.trans (hal.mono hb1.size)
  have HB2 := Hidden.mk hB2
  have HOF := Hidden.mk (hof_any (h := h) g cap ea el a0 a3 (w1.alloc (.cells #[.int .i64 a0, .int .i64 (ea : Int), .int .i64 (el : Int), .int .i64 a3] 68)) ⟨_, (hB2.cell (p := ⟨h, 0, none⟩) (block_lt_of_cell c0)).trans c0⟩ HBD.out.1 HBD.out.2.1 HBD.out.2.2)
  have hf := fourAt_one w1 a0 (ea : Int) (el : Int) a3 68
  obtain ⟨f0, f1, f2, f3⟩ := hf
  clear hal hB2 hb1 HC c0
  go_wp2_with fail
  refine HOF.out.mono ?_
  rintro e w2 ⟨rfl, hb2⟩
  have HB3 := Hidden.mk (HB2.out.trans (hb2.mono HB2.out.size))
  clear hb2 HB2 HOF f0 f1 f2 f3
  go_wp2_with fail
  go_ret2
  exact ⟨o, _, rfl, HOO.out.1, HOO.out.2, HCN.out, HB3.out⟩
theorem hread_any (x a n : Int) (hp : Hp w0 w F h l) (hg : Good l) (hn : n ≤ 9223372036854775807) :
    Calls Tryz.prog 93 #[.pointer (some ⟨h, 0, none⟩), .int .i64 x, .int .i64 a, .int .i64 n] w fun e w' => ∃ A' c', e = .returned (.tuple #[.slice A' (readL l x a n).length c', errV (someE l x a n)]) ∧ (readL l x a n).length ≤ c' ∧ Rd w' A' (readL l x a n) ∧ (∀ ad, A' = some ad → w.heap.size ≤ ad.block) ∧ Below w.heap.size w w' := by
  by_cases he : someE l x a n = 0
  · have hin := some_in hg he
    obtain ⟨g, cap, c0, hcap, hrow, hF⟩ := hp.open_
    have HC := Hidden.mk (hsome_ok x a n g cap hp hg he c0)
    have hL : readL l x a n = (l.drop (gA l x + a).toNat).take n.toNat := by unfold readL; rw [if_pos he]
    have hlen : (readL l x a n).length = n.toNat := by rw [hL]; simp; omega
    have hcut := hrow.rd.cut (gA l x + a).toNat n.toNat (by omega)
    rw [← hL, Option.map_some, Addr.add_lit, Nat.zero_add] at hcut
    have HCUT := Hidden.mk hcut
    have hle : n.toNat ≤ 140737488351232 := by omega
    rw [he, hlen, show errV 0 = Value.nilIface from rfl]
    have HLN := Hidden.mk hlen
    generalize readL l x a n = rl at *
    generalize (gA l x + a).toNat = oo at *
    clear hp hg hrow hcut hL hlen hin he c0
    go_enter Tryz.func93, Tryz.ntmps93
    go_wp2_with fail
    refine HC.out.mono ?_
    rintro e w1 ⟨o, c', rfl, ho, -, hc', hb1⟩
    have hr1 : Rd w1 (some ⟨g, o, none⟩) rl := by
      by_cases h0 : 0 < n.toNat
      · rw [ho h0]; exact HCUT.out.below hb1
      · have : rl = [] := List.eq_nil_of_length_eq_zero (by rw [HLN.out]; omega)
        rw [this]; exact Rd.nil_
    have HB1 := Hidden.mk hb1
    have HCL := Hidden.mk (clone_some ⟨g, o, none⟩ n.toNat c' rl w1 HLN.out hle hr1)
    clear hb1 hr1 ho hc' HC
    go_wp2_with fail
    refine HCL.out.mono ?_
    rintro e w2 ⟨g2, cap2, rfl, hg2, hrow2, hb2⟩
    have HF2 := Hidden.mk (And.intro hrow2.le.1 (And.intro hrow2.rd (HB1.out.trans (hb2.mono HB1.out.size))))
    have HG2 := Hidden.mk (Nat.le_trans HB1.out.size hg2)
    clear hb2 hrow2 HCL
    go_wp2_with fail
    go_ret2
    exact ⟨some ⟨g2, 0, none⟩, cap2, rfl, by have := HF2.out.1; rw [HLN.out] at this; exact this, HF2.out.2.1, fun ad hA => by have := Option.some.inj hA; subst this; exact HG2.out, HF2.out.2.2⟩
  · have HC := Hidden.mk (hsome_e x a n hp hg he hn)
    have hL : readL l x a n = [] := by unfold readL; rw [if_neg he]
    have hev : errV (someE l x a n) = .iface 79 (.int .i64 (someE l x a n : Int)) := by unfold errV; rw [if_neg he]
    rw [hL, hev, List.length_nil]
    generalize (someE l x a n : Int) = q at *
    clear hp hg hL hev he
    go_enter Tryz.func93, Tryz.ntmps93
    go_wp2_with fail
    refine HC.out.mono ?_
    rintro e w1 ⟨rfl, hb1⟩
    have HB := Hidden.mk hb1
    clear hb1
    go_wp2_with fail
    refine (clone_nil 0 0 _).mono ?_
    rintro e w2 ⟨rfl, rfl⟩
    go_wp2_with fail
    go_ret2
    exact ⟨none, 0, rfl, Nat.le_refl _, Rd.nil_, (fun ad hA => by cases hA), HB.out⟩
/-- copy into nothing -/
theorem run_copy_none (w : World) (n c : Nat) (A : Option Addr) (ty : TypeId) :
    (Builtin.copy_ #[22, 22] ty #[.slice none 0 0, .slice A n c]).run Tryz.prog w = .ok (.int .i64 0) w := by
  obtain ⟨i0, hi0, hz0, hz1, hz2⟩ := info_parts byte_info
  cases A <;> simp [Builtin.copy_, run_underlying Tryz.underlying22, Builtin.lenOf, Builtin.firstCells, sizeOf, typeInfo, hi0, goInt, loadCells, loadCellsFrom]
end
end Go.Proofs.YtcahgmnkphmnhaaGreatDoor
/- vaultsame.Ints of lists that are the same. -/
namespace Go.Proofs.YtcahgmnkphmnhaaGreatDoor
open Go.RowKit

def ncell (i : Nat) : List Value := [.int .i64 (i : Int)]
set_option maxRecDepth 100000 in
theorem sameInts_eq (A B : Option Addr) (ca cb n : Nat) (L : List Nat) (w : World) (hn : L.length = n) (hl : n ≤ 100000) (hA : RdX ncell 1 w A L) (hB : RdX ncell 1 w B L) :
    Calls Tryz.prog 15 #[.slice A n ca, .slice B n cb] w fun e w' => e = .returned (.bool true) ∧ Below w.heap.size w w' := by
  have HA := Hidden.mk hA
  have HB := Hidden.mk hB
  have HN := Hidden.mk hn
  clear hA hB hn
  go_enter Tryz.func15, Tryz.ntmps15
  go_wp2_with fail
  go_loopg [5] n (fun m i wr => ∃ j : Nat, j ≤ n ∧ m = n - j ∧ i = .int .i64 (j : Int) ∧ Hidden (Below w.heap.size w wr))
  case atStart => exact ⟨0, by omega, rfl, rfl, ⟨Below.refl _ _⟩⟩
  case round =>
    obtain ⟨j, hj, rfl, rfl, hbel⟩ := hrel
    by_cases hlt : j < n
    · have hjl : j < L.length := by rw [HN.out]; exact hlt
      have hp' := (HA.out.below hbel.out) j hjl
      obtain ⟨p, off, rfl, hp'⟩ := hp'
      have hq' := (HB.out.below hbel.out) j hjl
      obtain ⟨q, oq, rfl, hq'⟩ := hq'
      have x0 := hp' 0 _ rfl
      have y0 := hq' 0 _ rfl
      rw [Nat.add_zero, Nat.mul_one] at x0 y0
      have k0 : (0 : Int) ≤ j := by omega
      have k1 : (j : Int) < n := by omega
      have s1 : IntKind.i64.wrap ((j : Int) + 1) = (j : Int) + 1 := IntWalk.i64_in _ (by omega)
      have hse : ((L[j] : Int) == (L[j] : Int)) = true := by simp
      generalize (L[j] : Int) = b0 at *
      clear hp' hq'
      go_wp2_with fail
      go_quiet (fail)
      clear x0 y0
      have hbn := Hidden.mk (below_drewN hbel.out nq)
      go_wp2_with fail
      go_roundg (n - (j + 1))
      case measure => omega
      case rel => exact ⟨j + 1, by omega, rfl, by go_num, hbn⟩
    · obtain rfl : j = n := by omega
      go_wp2_with fail
      go_ret
      exact ⟨rfl, hbel.out⟩
theorem own_ints {w : World} {base n : Nat} {v : Value} {L : List Nat} (h : w.ownsRow base 3 1 v n (L.map fun i : Nat => .int .i64 (i : Int))) (hn : L.length = n) : ∃ A c, v = .slice A n c ∧ n ≤ c ∧ RdX ncell 1 w A L := by
  have e : (L.map fun i : Nat => Value.int .i64 (i : Int)) = L.flatMap ncell := by
    rw [List.map_eq_flatMap]; rfl
  rw [e] at h
  obtain ⟨A, c, rfl, hc, -⟩ := own_split h
  exact ⟨A, c, rfl, hc, own_rdX3 (fun _ => rfl) hn h⟩
end Go.Proofs.YtcahgmnkphmnhaaGreatDoor
/- The plain law of heaps: what stays right, what has room. No walk here. -/
namespace Go.Proofs.YtcahgmnkphmnhaaGreatDoor
open Go.RowKit

/-- where a run is free there is one of the runs -/
theorem run_cover : ∀ {S : List Ext} {a n p s : Int}, Tidy a S n → a ≤ p → p + s ≤ n → 1 ≤ s → (∀ e ∈ S, p + s ≤ e.1 ∨ e.1 + e.2 ≤ p) → ∃ h ∈ runsX a S n, h.1 ≤ p ∧ p + s ≤ h.1 + h.2
  | [], a, n, p, s, ht, h1, h2, h3, _ => by
    rw [runsX_nil, if_pos (by omega)]
    exact ⟨_, List.mem_singleton.2 rfl, by dsimp only; omega, by dsimp only; omega⟩
  | e :: r, a, n, p, s, ⟨t1, t2, t3⟩, h1, h2, h3, hall => by
    rw [runsX_cons]
    rcases hall e (List.mem_cons_self ..) with h | h
    · rw [if_pos (by omega)]
      exact ⟨_, List.mem_append_left _ (List.mem_singleton.2 rfl), by dsimp only; omega, by dsimp only; omega⟩
    · obtain ⟨x, hx, hh⟩ := run_cover t3 h h2 h3 (fun y hy => hall y (List.mem_cons_of_mem _ hy))
      exact ⟨x, List.mem_append_right _ hx, hh⟩
theorem fit_exists {n : Int} {l : List Ext} {p size : Int} (h : chkX n l = 0) (h0 : 0 ≤ p) (h1 : 1 ≤ size) (h2 : p + size ≤ n) (hall : ∀ e ∈ l, p + size ≤ e.1 ∨ e.1 + e.2 ≤ p) : fitE n l size = 0 := by
  obtain ⟨o0, o1, _⟩ := chkX_ok h
  obtain ⟨x, hx, hh⟩ := run_cover (tidy_of h) h0 h2 h1 (fun e he => hall e ((sortE_perm l).mem_iff.1 he))
  rw [← holes_runs] at hx
  refine Classical.byContradiction fun hf => ?_
  have := fit_none h hf x hx h1
  omega
theorem takenL_mem {l : Bytes} {e : Ext} : e ∈ takenL l ↔ ∃ k, k < 40 ∧ hasE (rawE l k) = true ∧ e = ((rAt (rawE l k) : Int) - 288, (rLen (rawE l k) : Int)) := by
  unfold takenL entriesL entsL
  simp only [List.map_map, List.mem_map, List.mem_filter, List.mem_range, Function.comp_apply, takeX]
  constructor
  · rintro ⟨k, ⟨h1, h2⟩, rfl⟩; exact ⟨k, h1, h2, rfl⟩
  · rintro ⟨k, h1, h2, rfl⟩; exact ⟨k, ⟨h1, h2⟩, rfl⟩
theorem overE_hit {r s : Bytes} (h : overE r s = false) : hitX ((rAt r : Int) - 288, (rLen r : Int)) ((rAt s : Int) - 288, (rLen s : Int)) = false := by
  rw [hitX_false]
  unfold overE at h
  simp only [Bool.and_eq_false_iff, decide_eq_false_iff_not] at h
  dsimp only
  omega
/-- the extents of a right image are right -/
theorem good_chk {l : Bytes} (hg : Good l) : chkX ((l.length : Int) - 288) (takenL l) = 0 := by
  have hb := hg.bd
  refine chkX_of (by omega) (by omega) (by have := takenL_len l; omega) (fun e he => ?_) ?_
  · obtain ⟨k, hk, hh, rfl⟩ := takenL_mem.1 he
    have := strayE_false (hg.s.fit k hk hh)
    exact badX_of (by dsimp only; omega)
  · unfold takenL entriesL entsL
    rw [List.map_map, List.pairwise_map]
    have hp : (List.range 40).Pairwise (fun a b => a < b) := List.pairwise_lt_range
    have hf := hp.filter (fun k => hasE (rawE l k))
    refine hf.imp_of_mem ?_
    intro a b ha hb' hab
    have ha := List.mem_filter.1 ha
    have hb2 := List.mem_filter.1 hb'
    have h1 := List.mem_range.1 hb2.1
    have := hg.s.apart b h1 a hab hb2.2 ha.2
    rw [overE_symm] at this
    exact overE_hit this
/-- what lies behind the head is not the head's -/
theorem rawE_tail (l x : Bytes) (o j : Nat) (ho : 288 ≤ o) (hx : o + x.length ≤ l.length) (hj : j < 40) : rawE (splice l o x) j = rawE l j := by
  apply List.ext_getElem?
  intro q
  unfold rawE
  rw [List.getElem?_take, List.getElem?_drop, List.getElem?_take, List.getElem?_drop]
  by_cases hq : q < 5
  · rw [if_pos hq, if_pos hq, splice_at _ _ _ _ hx, if_neg (by omega)]
  · rw [if_neg hq, if_neg hq]
theorem rawR_tail (l x : Bytes) (o j : Nat) (ho : 288 ≤ o) (hx : o + x.length ≤ l.length) (hj : j < 8) : rawR (splice l o x) j = rawR l j := by
  apply List.ext_getElem?
  intro q
  unfold rawR
  rw [List.getElem?_take, List.getElem?_drop, List.getElem?_take, List.getElem?_drop]
  by_cases hq : q < 11
  · rw [if_pos hq, if_pos hq, splice_at _ _ _ _ hx, if_neg (by omega)]
  · rw [if_neg hq, if_neg hq]
theorem rawE_root (l x : Bytes) (i j : Nat) (hx : x.length = 11) (hi : i < 8) (hj : j < 40) (hl : 288 ≤ l.length) : rawE (splice l (200 + 11 * i) x) j = rawE l j := by
  apply List.ext_getElem?
  intro q
  unfold rawE
  rw [List.getElem?_take, List.getElem?_drop, List.getElem?_take, List.getElem?_drop]
  by_cases hq : q < 5
  · rw [if_pos hq, if_pos hq, splice_at _ _ _ _ (by omega), if_neg (by omega)]
  · rw [if_neg hq, if_neg hq]
/-- bytes that are cut out elsewhere -/
theorem cut_splice (l x : Bytes) (o a m : Nat) (hx : o + x.length ≤ l.length) (h : a + m ≤ o ∨ o + x.length ≤ a) : ((splice l o x).drop a).take m = (l.drop a).take m := by
  apply List.ext_getElem?
  intro q
  rw [List.getElem?_take, List.getElem?_drop, List.getElem?_take, List.getElem?_drop]
  by_cases hq : q < m
  · rw [if_pos hq, if_pos hq, splice_at _ _ _ _ hx, if_neg (by omega)]
  · rw [if_neg hq, if_neg hq]
theorem cut_splice_in (l x : Bytes) (o a m : Nat) (hx : o + x.length ≤ l.length) (h1 : o ≤ a) (h2 : a + m ≤ o + x.length) : ((splice l o x).drop a).take m = (x.drop (a - o)).take m := by
  apply List.ext_getElem?
  intro q
  rw [List.getElem?_take, List.getElem?_drop, List.getElem?_take, List.getElem?_drop]
  by_cases hq : q < m
  · rw [if_pos hq, if_pos hq, splice_at _ _ _ _ hx, if_pos (by omega)]
    congr 1; omega
  · rw [if_neg hq, if_neg hq]
theorem zeros_cut (n a m : Nat) (h : a + m ≤ n) : ((List.replicate n (0 : UInt8)).drop a).take m = List.replicate m 0 := by
  rw [List.drop_replicate, List.take_replicate]; congr 1; omega
/-- an image of nothing -/
theorem good_zero {n : Nat} (h : rightB n = true) : Good (List.replicate n 0) := by
  have hb := rightB_true.1 h
  have hE : ∀ k, k < 40 → rawE (List.replicate n 0) k = List.replicate 5 0 := fun k hk => zeros_cut n (5 * k) 5 (by omega)
  have hR : ∀ i, i < 8 → rawR (List.replicate n 0) i = List.replicate 11 0 := fun i hi => zeros_cut n (200 + 11 * i) 11 (by omega)
  refine good_iff.2 ⟨by rw [List.length_replicate]; exact h, ⟨fun k hk _ => by rw [hE k hk]; exact zeros_zero 5, fun k hk hh => ?_, fun k hk j hj hh _ => ?_, fun i hi hz => ?_, fun i hi j hj hz _ => ?_⟩⟩
  · rw [hE k hk, zeros_has] at hh; cases hh
  · rw [hE k hk, zeros_has] at hh; cases hh
  · rw [hR i hi, zeros_zero] at hz; cases hz
  · rw [hR i hi, zeros_zero] at hz; cases hz
/-- what Alloc makes of an image -/
structure AllocIs (l l' : Bytes) (k a n t : Nat) : Prop where
  k40 : k < 40
  none : hasE (rawE l k) = false
  least : ∀ i, i < k → hasE (rawE l i) = true
  a0 : 288 ≤ a
  a1 : a + n ≤ l.length
  n0 : 1 ≤ n
  n1 : n ≤ 1000
  t1 : t ≤ 15
  len : l'.length = l.length
  ents : ∀ j, j < 40 → rawE l' j = if j = k then entB a n t else rawE l j
  rots : ∀ i, i < 8 → rawR l' i = rawR l i
  apart : ∀ j, j < 40 → hasE (rawE l j) = true → a + n ≤ rAt (rawE l j) ∨ rAt (rawE l j) + rLen (rawE l j) ≤ a
  zero : (l'.drop a).take n = List.replicate n 0
  rest : ∀ b m, 288 ≤ b → b + m ≤ a ∨ a + n ≤ b → (l'.drop b).take m = (l.drop b).take m
theorem alloc_is {l : Bytes} (hg : Good l) {n t : Int} (h0 : allocE l n t = 0) : ∃ k a n' t' : Nat, n = n' ∧ t = t' ∧ allocH l n t = (k : Int) + 1 ∧ allocA l n = a ∧ AllocIs l (allocL l n t) k a n' t' := by
  have hb := hg.bd
  have hE := h0
  unfold allocE at hE
  by_cases hbad : lenB n = false ∨ tagB t = false
  · rw [if_pos hbad] at hE; cases hE
  · rw [if_neg hbad] at hE
    by_cases hz : fH l 40 = 0 ∨ fitE ((l.length : Int) - 288) (takenL l) n ≠ 0
    · rw [if_pos hz] at hE; cases hE
    · have hn := lenB_true.1 (show lenB n = true by cases hx : lenB n <;> simp_all)
      have ht := tagB_true.1 (show tagB t = true by cases hx : tagB t <;> simp_all)
      have hf : fitE ((l.length : Int) - 288) (takenL l) n = 0 := by omega
      obtain ⟨i1, i2⟩ := alloc_in hf
      rcases fH_spec l 40 (Nat.le_refl _) with ⟨h, _⟩ | ⟨k, k1, k2, k3, k4, k5⟩
      · omega
      obtain ⟨a, ha⟩ := Int.eq_ofNat_of_zero_le (show 0 ≤ allocA l n by omega)
      obtain ⟨n', rfl⟩ := Int.eq_ofNat_of_zero_le (show 0 ≤ n by omega)
      obtain ⟨t', rfl⟩ := Int.eq_ofNat_of_zero_le (show 0 ≤ t by omega)
      have hL : allocL l n' t' = splice (splice l (5 * k) (entB a n' t')) a (List.replicate n' 0) := by
        unfold allocL
        rw [if_pos h0, ha, k3]
        unfold putEnt
        rw [show ((k + 1 : Nat) : Int) = (k : Int) + 1 by omega, entO_k]
        rfl
      have hl1 : (splice l (5 * k) (entB a n' t')).length = l.length := splice_len _ _ _ (by rw [entB_len]; omega)
      have hl2 : (allocL l n' t').length = l.length := by rw [hL, splice_len _ _ _ (by rw [hl1]; simp; omega), hl1]
      refine ⟨k, a, n', t', rfl, rfl, by unfold allocH; rw [if_pos h0, k3]; omega, ha, ⟨k2, k4, fun i hi => k5 i (by omega) hi, by omega, by omega, by omega, by omega, by omega, hl2, fun j hj => ?_, fun i hi => ?_, fun j hj hh => ?_, ?_, fun b m hb0 hbm => ?_⟩⟩
      · rw [hL, rawE_tail _ _ _ _ (by omega) (by rw [hl1]; simp; omega) hj]
        exact rawE_splice l (entB a n' t') k j (entB_len _ _ _) k2 hj (by omega)
      · rw [hL, rawR_tail _ _ _ _ (by omega) (by rw [hl1]; simp; omega) hi]
        exact rawR_head l _ _ _ (by rw [entB_len]; omega) (by omega)
      · have hc := good_chk hg
        obtain ⟨L, m1, m2, m3, _, _⟩ := fit_some hc hf
        have h4 := (holes_mem hc _ m1).2.2.2 _ (takenL_mem.2 ⟨j, hj, hh, rfl⟩)
        unfold allocA at ha
        dsimp only at h4
        omega
      · rw [hL, cut_splice_in _ _ _ _ _ (by rw [hl1]; simp; omega) (by omega) (by simp), Nat.sub_self, List.drop_zero, List.take_of_length_le (by simp)]
      · rw [hL, cut_splice _ _ _ _ _ (by rw [hl1]; simp; omega) (by simpa using hbm), cut_splice _ _ _ _ _ (by rw [entB_len]; omega) (by rw [entB_len]; omega)]
theorem AllocIs.ent {l l' : Bytes} {k a n t : Nat} (h : AllocIs l l' k a n t) (hb : l.length ≤ 6400) : hasE (rawE l' k) = true ∧ rAt (rawE l' k) = a ∧ rLen (rawE l' k) = n ∧ rTag (rawE l' k) = t := by
  rw [h.ents k h.k40, if_pos rfl]
  exact entB_rd a n t (by have := h.a1; omega) (by have := h.n1; omega) h.t1
theorem AllocIs.good {l l' : Bytes} {k a n t : Nat} (h : AllocIs l l' k a n t) (hg : Good l) : Good l' := by
  have hb := hg.bd
  obtain ⟨e1, e2, e3, e4⟩ := entB_rd a n t (by have := h.a1; omega) (by have := h.n1; omega) h.t1
  refine good_iff.2 ⟨by rw [h.len]; exact hg.len, ?_⟩
  rw [h.len]
  have h1 : GoodS l.length (rawE l') (rawR l) := by
    refine hg.s.putE k h.k40 (entB a n t) h.ents e1 ?_ (fun j hj _ hh => ?_)
    · unfold strayE
      rw [e2, e3, e4, tagB_true.2 ⟨by omega, by have := h.t1; omega⟩, lenB_true.2 ⟨by have := h.n0; omega, by have := h.n1; omega⟩, withinB_true.2 ⟨by have := h.a0; omega, by have := h.a1; omega, by have := h.a1; omega⟩]
      rfl
    · have := h.apart j hj hh
      unfold overE
      rw [e2, e3]
      simp only [Bool.and_eq_false_iff, decide_eq_false_iff_not]
      omega
  exact h1.putR 0 (rawR l 0) (fun j hj => by rw [h.rots j hj]; split <;> simp_all) (by
    cases hz : zeroE (rawR l 0) with
    | true => exact .inl rfl
    | false => exact .inr ⟨h1.root 0 (by omega) hz, fun j hj hne hz' => (h1.name j hj 0 (by omega) hz' hz).symm⟩)
theorem alloc_good {l : Bytes} (hg : Good l) (n t : Int) : Good (allocL l n t) := by
  by_cases h0 : allocE l n t = 0
  · obtain ⟨k, a, n', t', _, _, _, _, h⟩ := alloc_is hg h0
    exact h.good hg
  · have : allocL l n t = l := by unfold allocL; rw [if_neg h0]
    rw [this]; exact hg
theorem rootsL_mem {l : Bytes} {x : Bytes × Nat} : x ∈ rootsL l ↔ ∃ i, i < 8 ∧ zeroE (rawR l i) = false ∧ x = rootP (rawR l i) := by
  unfold rootsL rootsF
  simp only [List.mem_map, List.mem_filter, List.mem_range, Bool.not_eq_true']
  constructor
  · rintro ⟨i, ⟨h1, h2⟩, rfl⟩; exact ⟨i, h1, h2, rfl⟩
  · rintro ⟨i, h1, h2, rfl⟩; exact ⟨i, ⟨h1, h2⟩, rfl⟩
/-- what Free makes of an image -/
structure FreeIs (l l' : Bytes) (k : Nat) : Prop where
  k40 : k < 40
  has : hasE (rawE l k) = true
  len : l'.length = l.length
  ents : ∀ j, j < 40 → rawE l' j = if j = k then List.replicate 5 0 else rawE l j
  rots : ∀ i, i < 8 → rawR l' i = rawR l i
  nol : ∀ i, i < 8 → zeroE (rawR l i) = false → ((rawR l i).getD 10 0).toNat ≠ k + 1
  rest : ∀ b m, 288 ≤ b → (l'.drop b).take m = (l.drop b).take m
theorem free_is {l : Bytes} (hg : Good l) {x : Int} (h0 : freeE l x = 0) : ∃ k : Nat, x = (k : Int) + 1 ∧ FreeIs l (freeL l x) k := by
  have hb := hg.bd
  have hQ := h0
  unfold freeE at hQ
  by_cases hx : hE l x = 0
  · rw [if_neg (by simp [hx])] at hQ
    obtain ⟨k, hk, rfl, hh, _⟩ := hE_zero hx
    have hno : (rootsL l).any (fun r => (r.2 : Int) == (k : Int) + 1) = false := by
      cases ha : (rootsL l).any (fun r => (r.2 : Int) == (k : Int) + 1) with
      | false => rfl
      | true => rw [ha] at hQ; simp at hQ
    have hL : freeL l ((k : Int) + 1) = splice l (5 * k) (List.replicate 5 0) := by
      unfold freeL
      rw [if_pos h0, show ((k : Int) + 1 - 1).toNat = k by omega]
    rw [List.any_eq_false] at hno
    refine ⟨k, rfl, ⟨hk, hh, by rw [hL]; exact splice_len _ _ _ (by simp; omega), fun j hj => ?_, fun i hi => ?_, fun i hi hz => ?_, fun b m hb0 => ?_⟩⟩
    · rw [hL]; exact rawE_splice l _ k j (by simp) hk hj (by omega)
    · rw [hL]; exact rawR_head l _ _ _ (by simp; omega) (by omega)
    · have h1 := hno _ (rootsL_mem.2 ⟨i, hi, hz, rfl⟩)
      simp only [rootP, beq_iff_eq] at h1
      omega
    · rw [hL]; exact cut_splice _ _ _ _ _ (by simp; omega) (by simp; omega)
  · rw [if_pos hx] at hQ; exact absurd hQ hx
theorem FreeIs.good {l l' : Bytes} {k : Nat} (h : FreeIs l l' k) (hg : Good l) : Good l' := by
  refine good_iff.2 ⟨by rw [h.len]; exact hg.len, ?_⟩
  rw [h.len]
  have h1 : GoodS l.length (rawE l') (rawR l) := hg.s.dropE k h.k40 h.ents h.nol
  exact h1.putR 0 (rawR l 0) (fun j hj => by rw [h.rots j hj]; split <;> simp_all) (by
    cases hz : zeroE (rawR l 0) with
    | true => exact .inl rfl
    | false => exact .inr ⟨h1.root 0 (by omega) hz, fun j hj hne hz' => (h1.name j hj 0 (by omega) hz' hz).symm⟩)
theorem free_good {l : Bytes} (hg : Good l) (x : Int) : Good (freeL l x) := by
  by_cases h0 : freeE l x = 0
  · obtain ⟨k, _, h⟩ := free_is hg h0
    exact h.good hg
  · have : freeL l x = l := by unfold freeL; rw [if_neg h0]
    rw [this]; exact hg
end Go.Proofs.YtcahgmnkphmnhaaGreatDoor
/- HeapKeeps, the plain law: what an Alloc and a Write leave as it was. -/
namespace Go.Proofs.YtcahgmnkphmnhaaGreatDoor
open Go.RowKit

theorem obj_congr {l l' : Bytes} {k : Nat} (he : rawE l' k = rawE l k) (hs : hasE (rawE l k) = true → (l'.drop (rAt (rawE l k))).take (rLen (rawE l k)) = (l.drop (rAt (rawE l k))).take (rLen (rawE l k))) : objT l' k = objT l k ∧ objS l' k = objS l k := by
  unfold objT objS
  rw [he]
  by_cases h : hasE (rawE l k) = true
  · simp only [if_pos h, hs h]; exact ⟨trivial, trivial⟩
  · simp only [if_neg h]; exact ⟨trivial, trivial⟩
theorem hd_of {l : Bytes} {k : Nat} (hk : k < 40) (hh : hasE (rawE l k) = true) : hE l ((k : Int) + 1) = 0 ∧ gA l ((k : Int) + 1) = rAt (rawE l k) ∧ gL l ((k : Int) + 1) = rLen (rawE l k) ∧ gT l ((k : Int) + 1) = rTag (rawE l k) := by
  obtain ⟨h0, h1⟩ := hE_has hk hh
  unfold gA gL gT
  rw [if_pos h0, if_pos h0, if_pos h0, h1]
  exact ⟨h0, rfl, rfl, rfl⟩
section
variable {l l' : Bytes} {k a n t : Nat}
theorem AllocIs.keep (h : AllocIs l l' k a n t) (hg : Good l) {j : Nat} (hj : j < 40) (hne : j ≠ k) : objT l' j = objT l j ∧ objS l' j = objS l j := by
  refine obj_congr (by rw [h.ents j hj, if_neg hne]) fun hh => ?_
  have := strayE_false (hg.s.fit j hj hh)
  have := h.apart j hj hh
  exact h.rest _ _ (by omega) (by omega)
theorem AllocIs.hd (h : AllocIs l l' k a n t) (hg : Good l) : hE l' ((k : Int) + 1) = 0 ∧ gA l' ((k : Int) + 1) = a ∧ gL l' ((k : Int) + 1) = n ∧ gT l' ((k : Int) + 1) = t := by
  obtain ⟨e1, e2, e3, e4⟩ := h.ent hg.bd.2
  have := hd_of h.k40 e1
  rw [e2, e3, e4] at this
  exact this
theorem some_zero {x o m : Int} (h0 : hE l x = 0) (h1 : 0 ≤ o) (h2 : 0 ≤ m) (h3 : o + m ≤ gL l x) : someE l x o m = 0 := by
  unfold someE
  rw [if_neg (by omega), if_neg (by omega)]
theorem AllocIs.read (h : AllocIs l l' k a n t) (hg : Good l) : someE l' ((k : Int) + 1) 0 n = 0 ∧ readL l' ((k : Int) + 1) 0 n = List.replicate n 0 := by
  obtain ⟨e1, e2, e3, e4⟩ := h.hd hg
  have h0 : someE l' ((k : Int) + 1) 0 n = 0 := some_zero e1 (by omega) (by omega) (by omega)
  refine ⟨h0, ?_⟩
  unfold readL
  rw [if_pos h0, e2, show ((a : Int) + 0).toNat = a by omega, Int.toNat_natCast]
  exact h.zero
/-- what Write makes of an image -/
structure WriteIs (l l' : Bytes) (k o : Nat) (b : Bytes) : Prop where
  k40 : k < 40
  has : hasE (rawE l k) = true
  o0 : 288 ≤ o
  o1 : o + b.length ≤ l.length
  at0 : rAt (rawE l k) ≤ o
  at1 : o + b.length ≤ rAt (rawE l k) + rLen (rawE l k)
  eq : l' = splice l o b
theorem write_is (hg : Good l) {x c : Int} {b : Bytes} (h : someE l x c b.length = 0) : ∃ k o : Nat, x = (k : Int) + 1 ∧ gA l x + c = o ∧ WriteIs l (writeL l x c b) k o b := by
  obtain ⟨h0, h1, h2, h3, h4, h5, h6, h7⟩ := some_in hg h
  obtain ⟨k, hk, rfl, hh, he⟩ := hE_zero h0
  obtain ⟨_, f1, f2, f3⟩ := hd_of hk hh
  obtain ⟨o, ho⟩ := Int.eq_ofNat_of_zero_le (show 0 ≤ gA l ((k : Int) + 1) + c by omega)
  refine ⟨k, o, rfl, ho, hk, hh, by omega, by omega, by omega, by omega, ?_⟩
  unfold writeL
  rw [if_pos h, ho]
  rfl
variable {o : Nat} {b : Bytes}
theorem WriteIs.len (h : WriteIs l l' k o b) : l'.length = l.length := by rw [h.eq]; exact splice_len _ _ _ h.o1
theorem WriteIs.ents (h : WriteIs l l' k o b) (j : Nat) (hj : j < 40) : rawE l' j = rawE l j := by rw [h.eq]; exact rawE_tail _ _ _ _ h.o0 h.o1 hj
theorem WriteIs.rots (h : WriteIs l l' k o b) (j : Nat) (hj : j < 8) : rawR l' j = rawR l j := by rw [h.eq]; exact rawR_tail _ _ _ _ h.o0 h.o1 hj
theorem Good.apart {l : Bytes} (hg : Good l) {j k : Nat} (hj : j < 40) (hk : k < 40) (hne : j ≠ k) (h1 : hasE (rawE l j) = true) (h2 : hasE (rawE l k) = true) : overE (rawE l k) (rawE l j) = false := by
  rcases Nat.lt_or_gt_of_ne hne with h | h
  · exact hg.s.apart k hk j h h2 h1
  · rw [overE_symm]; exact hg.s.apart j hj k h h1 h2
theorem WriteIs.good (h : WriteIs l l' k o b) (hg : Good l) : Good l' := by
  refine good_iff.2 ⟨by rw [h.len]; exact hg.len, ?_⟩
  rw [h.len]
  have h1 : GoodS l.length (rawE l') (rawR l) := hg.s.putE k h.k40 (rawE l k) (fun j hj => by rw [h.ents j hj]; split <;> simp_all) h.has (hg.s.fit k h.k40 h.has) (fun j hj hne hh => hg.apart hj h.k40 hne hh h.has)
  exact h1.putR 0 (rawR l 0) (fun j hj => by rw [h.rots j hj]; split <;> simp_all) (by
    cases hz : zeroE (rawR l 0) with
    | true => exact .inl rfl
    | false => exact .inr ⟨h1.root 0 (by omega) hz, fun j hj hne hz' => (h1.name j hj 0 (by omega) hz' hz).symm⟩)
theorem write_good (hg : Good l) (x c : Int) (b : Bytes) : Good (writeL l x c b) := by
  by_cases h : someE l x c b.length = 0
  · obtain ⟨k, o, _, _, hw⟩ := write_is hg h
    exact hw.good hg
  · have : writeL l x c b = l := by unfold writeL; rw [if_neg h]
    rw [this]; exact hg
theorem WriteIs.keep (h : WriteIs l l' k o b) (hg : Good l) {j : Nat} (hj : j < 40) (hne : j ≠ k) : objT l' j = objT l j ∧ objS l' j = objS l j := by
  refine obj_congr (h.ents j hj) fun hh => ?_
  have := hg.apart hj h.k40 hne hh h.has
  unfold overE at this
  simp only [Bool.and_eq_false_iff, decide_eq_false_iff_not] at this
  have := h.at0
  have := h.at1
  rw [h.eq]
  exact cut_splice _ _ _ _ _ h.o1 (by omega)
theorem WriteIs.some (h : WriteIs l l' k o b) (x c m : Int) : someE l' x c m = someE l x c m ∧ gA l' x = gA l x := by
  have hx : hE l' x = hE l x ∧ (hE l x = 0 → hR l' x = hR l x) := by
    unfold hE hR
    by_cases hb : handleB x = false
    · rw [if_pos hb, if_pos hb]; exact ⟨rfl, fun h => by cases h⟩
    · have := handleB_true.1 (show handleB x = true by cases hx : handleB x <;> simp_all)
      rw [if_neg hb, if_neg hb, h.ents (x - 1).toNat (by omega)]
      exact ⟨rfl, fun _ => rfl⟩
  have hgl : gL l' x = gL l x ∧ gA l' x = gA l x := by
    unfold gL gA
    rw [hx.1]
    by_cases h0 : hE l x = 0
    · rw [if_pos h0, if_pos h0, if_pos h0, if_pos h0, hx.2 h0]; exact ⟨rfl, rfl⟩
    · rw [if_neg h0, if_neg h0, if_neg h0, if_neg h0]; exact ⟨rfl, rfl⟩
  unfold someE
  rw [hx.1, hgl.1]
  exact ⟨rfl, hgl.2⟩
end
theorem write_read {l : Bytes} (hg : Good l) {x c : Int} {b : Bytes} (h : someE l x c b.length = 0) : someE (writeL l x c b) x c b.length = 0 ∧ readL (writeL l x c b) x c b.length = b := by
  obtain ⟨k, o, _, ho, hw⟩ := write_is hg h
  obtain ⟨h1, h2⟩ := hw.some x c b.length
  rw [h] at h1
  refine ⟨h1, ?_⟩
  unfold readL
  rw [if_pos h1, h2, ho, Int.toNat_natCast, Int.toNat_natCast, hw.eq, cut_splice_in _ _ _ _ _ hw.o1 (Nat.le_refl _) (Nat.le_refl _), Nat.sub_self, List.drop_zero, List.take_of_length_le (Nat.le_refl _)]
theorem write_keep {l : Bytes} (hg : Good l) {x c : Int} {b : Bytes} (h : someE l x c b.length = 0) {j : Nat} (hj : j < 40) (hne : ((j : Int) + 1) ≠ x) : objT (writeL l x c b) j = objT l j ∧ objS (writeL l x c b) j = objS l j := by
  obtain ⟨k, o, hx, ho, hw⟩ := write_is hg h
  exact hw.keep hg hj (by omega)
theorem alloc_keep {l : Bytes} (hg : Good l) {n t : Int} (h : allocE l n t = 0) {j : Nat} (hj : j < 40) (hne : ((j : Int) + 1) ≠ allocH l n t) : objT (allocL l n t) j = objT l j ∧ objS (allocL l n t) j = objS l j := by
  obtain ⟨k, a, n', t', _, _, hH, _, hi⟩ := alloc_is hg h
  exact hi.keep hg hj (by omega)
theorem alloc_read {l : Bytes} (hg : Good l) {n t : Int} (h : allocE l n t = 0) : 1 ≤ n ∧ n ≤ 1000 ∧ 1 ≤ allocH l n t ∧ allocH l n t ≤ 40 ∧ someE (allocL l n t) (allocH l n t) 0 n = 0 ∧ readL (allocL l n t) (allocH l n t) 0 n = List.replicate n.toNat 0 ∧ hE (allocL l n t) (allocH l n t) = 0 ∧ gT (allocL l n t) (allocH l n t) = t := by
  obtain ⟨k, a, n', t', hn, ht, hH, _, hi⟩ := alloc_is hg h
  have h1 := hi.read hg
  have h2 := hi.hd hg
  have := hi.k40
  have := hi.n0
  have := hi.n1
  rw [hH, ht]
  rw [hn] at h1 h2 ⊢
  rw [ht] at h1 h2
  refine ⟨by omega, by omega, by omega, by omega, h1.1, ?_, h2.1, h2.2.2.2⟩
  rw [h1.2, Int.toNat_natCast]
theorem splice_cut (l x : Bytes) (o a m : Nat) (hx : o + x.length ≤ l.length) (h1 : a ≤ o) (h2 : o + x.length ≤ a + m) (h3 : a + m ≤ l.length) : ((splice l o x).drop a).take m = splice ((l.drop a).take m) (o - a) x := by
  apply List.ext_getElem?
  intro q
  have hl : ((l.drop a).take m).length = m := by simp; omega
  rw [splice_at _ _ _ _ (by omega), List.getElem?_take, List.getElem?_drop]
  by_cases hq : q < m
  · rw [if_pos hq, splice_at _ _ _ _ hx]
    by_cases hi : o ≤ a + q ∧ a + q < o + x.length
    · rw [if_pos hi, if_pos (by omega)]; congr 1; omega
    · rw [if_neg hi, if_neg (by omega), List.getElem?_take, List.getElem?_drop, if_pos hq]
  · rw [if_neg hq, if_neg (by omega), List.getElem?_take, if_neg hq]
/-- the first part of the law -/
theorem keeps_first : ∃ l1 : Bytes, allocL (List.replicate 320 0) 4 2 = l1 ∧ Good l1 ∧ allocE (List.replicate 320 0) 4 2 = 0 ∧ allocH (List.replicate 320 0) 4 2 = 1 ∧ someE l1 1 1 1 = 0 ∧ someE (writeL l1 1 1 [7]) 1 0 4 = 0 ∧ readL (writeL l1 1 1 [7]) 1 0 4 = [0, 7, 0, 0] := by
  have hg : Good (List.replicate 320 0) := good_zero' rfl
  have hz : ∀ j, j < 40 → hasE (rawE (List.replicate 320 0) j) = false := fun j hj => by
    rw [show rawE (List.replicate 320 0) j = List.replicate 5 0 from zeros_cut 320 (5 * j) 5 (by omega)]; exact zeros_has
  have hfh : fH (List.replicate 320 0) 40 = 1 := by
    rcases fH_spec (List.replicate 320 0) 40 (Nat.le_refl _) with ⟨_, hall⟩ | ⟨q, _, k2, k3, k4, k5⟩
    · have := hall 0 (by omega) (by omega)
      rw [hz 0 (by omega)] at this; cases this
    · rw [k3]
      by_cases hq : q = 0
      · rw [hq]
      · have := k5 0 (by omega) (by omega)
        rw [hz 0 (by omega)] at this; cases this
  have hc := good_chk hg
  have hlen : (List.replicate 320 (0 : UInt8)).length = 320 := List.length_replicate
  generalize List.replicate 320 (0 : UInt8) = l at *
  rw [hlen] at hc
  have hE : allocE l 4 2 = 0 := by
    have hf : fitE ((320 : Nat) - 288 : Int) (takenL l) 4 = 0 := fit_exists hc (p := 0) (by omega) (by omega) (by omega) (fun e he => by
      obtain ⟨j, hj, hh, _⟩ := takenL_mem.1 he
      rw [hz j hj] at hh; cases hh)
    unfold allocE
    rw [if_neg (by decide), hlen, if_neg (by rw [hfh, hf]; decide)]
  have hH : allocH l 4 2 = 1 := by unfold allocH; rw [if_pos hE, hfh]; rfl
  obtain ⟨k, a, n', t', hn, ht, hH', _, hi⟩ := alloc_is hg hE
  obtain rfl : n' = 4 := by omega
  obtain rfl : k = 0 := by omega
  have hg1 := hi.good hg
  obtain ⟨d1, d2, d3, d4⟩ := hi.hd hg
  have hzero := hi.zero
  have hl1 := hi.len
  have ha1 := hi.a1
  generalize allocL l 4 2 = l1 at *
  rw [show ((0 : Nat) : Int) + 1 = 1 from rfl] at *
  have hs : someE l1 1 1 ([7] : Bytes).length = 0 := some_zero d1 (by decide) (by decide) (by rw [d3]; decide)
  obtain ⟨k2, o, _, ho, hw⟩ := write_is hg1 hs
  have hs2 : someE (writeL l1 1 1 [7]) 1 0 4 = 0 := by
    rw [(hw.some 1 0 4).1]
    exact some_zero d1 (by decide) (by decide) (by rw [d3]; decide)
  refine ⟨l1, rfl, hg1, hE, hH, hs, hs2, ?_⟩
  unfold readL
  rw [if_pos hs2, (hw.some 1 0 4).2, d2, show ((a : Int) + 0).toNat = a by omega, show (4 : Int).toNat = 4 from rfl, hw.eq]
  rw [d2] at ho
  obtain rfl : o = a + 1 := by omega
  rw [splice_cut _ _ _ _ _ hw.o1 (by omega) (by simp) (by omega), hzero, Nat.add_sub_cancel_left]
  rfl
end Go.Proofs.YtcahgmnkphmnhaaGreatDoor
/- Objects moved closer together, plainly. No walk here. -/
namespace Go.Proofs.YtcahgmnkphmnhaaGreatDoor
open Go.RowKit Go.Sort Go.Shelf Go.Lib

abbrev Ent := Int × Bytes
def cmpM (x y : Ent) : Int := Lib.compareInt (rAt x.2 : Int) (rAt y.2 : Int)
theorem ltM (x y : Ent) : ltOf cmpM x y = decide (rAt x.2 < rAt y.2) := by
  unfold ltOf cmpM Lib.compareInt
  by_cases h1 : (rAt x.2 : Int) < rAt y.2
  · have : rAt x.2 < rAt y.2 := by omega
    simp [h1, this]
  · have h3 : ¬ rAt x.2 < rAt y.2 := by omega
    by_cases h2 : (rAt y.2 : Int) < rAt x.2 <;> simp [h1, h2, h3]
theorem swoM : SWO (ltOf cmpM) where
  irrefl x := by rw [ltM]; simp
  trans x y z h1 h2 := by rw [ltM] at *; simp at *; omega
  ntrans x y z h1 h2 := by rw [ltM] at *; simp at *; omega
/-- entries by where they begin -/
def sortM (l : Bytes) : List Ent := pdqL cmpM (entriesL l)
theorem sortM_perm (l : Bytes) : (sortM l).Perm (entriesL l) := (pdqL_perm cmpM swoM _).1
theorem sortM_sorted (l : Bytes) : (sortM l).Pairwise (fun a b => rAt a.2 ≤ rAt b.2) := (pdqL_perm cmpM swoM _).2.imp fun {a b} h => by
  rw [ltM] at h; simp at h; omega
/-- behind each other, from a to n -/
def TidyM : Nat → List Ent → Nat → Prop
  | a, [], n => a ≤ n
  | a, e :: r, n => a ≤ rAt e.2 ∧ 1 ≤ rLen e.2 ∧ TidyM (rAt e.2 + rLen e.2) r n
theorem tidyM_le : ∀ {S : List Ent} {a n : Nat}, TidyM a S n → a ≤ n
  | [], _, _, h => h
  | e :: r, _, _, ⟨h1, h2, h3⟩ => by have := tidyM_le h3; omega
theorem tidyM_mem : ∀ {S : List Ent} {a n : Nat}, TidyM a S n → ∀ e ∈ S, a ≤ rAt e.2 ∧ 1 ≤ rLen e.2 ∧ rAt e.2 + rLen e.2 ≤ n
  | [], _, _, _, e, he => by cases he
  | x :: r, _, _, ⟨h1, h2, h3⟩, e, he => by
    rcases List.mem_cons.1 he with rfl | he
    · have := tidyM_le h3; omega
    · have := tidyM_mem h3 e he; omega
theorem tidyM_mono : ∀ {S : List Ent} {a b n : Nat}, TidyM a S n → b ≤ a → TidyM b S n
  | [], _, _, _, h, hb => Nat.le_trans hb h
  | _ :: _, _, _, _, ⟨h1, h2, h3⟩, hb => ⟨by omega, h2, h3⟩
theorem tidyM_strict : ∀ {S : List Ent} {a n : Nat}, TidyM a S n → S.Pairwise (fun x y => rAt x.2 < rAt y.2)
  | [], _, _, _ => List.Pairwise.nil
  | e :: r, a, n, ⟨h1, h2, h3⟩ => List.Pairwise.cons (fun x hx => by have := tidyM_mem h3 x hx; omega) (tidyM_strict h3)
theorem tidyM_mk (n : Nat) : ∀ (S : List Ent) (a : Nat), (∀ e ∈ S, a ≤ rAt e.2 ∧ 1 ≤ rLen e.2 ∧ rAt e.2 + rLen e.2 ≤ n) → S.Pairwise (fun x y => rAt x.2 + rLen x.2 ≤ rAt y.2) → a ≤ n → TidyM a S n
  | [], _, _, _, h => h
  | e :: r, a, hb, hp, _ => by
    obtain ⟨h1, h2, h3⟩ := hb e (List.mem_cons_self ..)
    rw [List.pairwise_cons] at hp
    exact ⟨h1, h2, tidyM_mk n r _ (fun x hx => by have := hb x (List.mem_cons_of_mem _ hx); have := hp.1 x hx; omega) hp.2 (by omega)⟩
theorem entL_mem {l : Bytes} {e : Ent} : e ∈ entriesL l ↔ ∃ k : Nat, k < 40 ∧ hasE (rawE l k) = true ∧ e = ((k : Int) + 1, rawE l k) := by
  unfold entriesL entsL
  simp only [List.mem_map, List.mem_filter, List.mem_range]
  constructor
  · rintro ⟨k, ⟨h1, h2⟩, rfl⟩; exact ⟨k, h1, h2, rfl⟩
  · rintro ⟨k, h1, h2, rfl⟩; exact ⟨k, ⟨h1, h2⟩, rfl⟩
theorem entL_nodup (l : Bytes) : (entriesL l).Pairwise (fun a b => a.1 ≠ b.1) := by
  unfold entriesL entsL
  rw [List.pairwise_map]
  exact (List.pairwise_lt_range.filter _).imp fun {a b} h => by dsimp only; omega
theorem sortM_nodup (l : Bytes) : (sortM l).Pairwise (fun a b => a.1 ≠ b.1) := ((sortM_perm l).pairwise_iff (R := fun a b : Ent => a.1 ≠ b.1) (fun h => h.symm)).2 (entL_nodup l)
theorem tidy_sortM {l : Bytes} (hg : Good l) : TidyM 288 (sortM l) l.length := by
  have hb := hg.bd
  refine tidyM_mk _ _ _ (fun e he => ?_) ?_ hb.1
  · obtain ⟨k, hk, hh, rfl⟩ := entL_mem.1 ((sortM_perm l).mem_iff.1 he)
    have := strayE_false (hg.s.fit k hk hh)
    dsimp only; omega
  · rw [List.pairwise_iff_getElem]
    intro i j hi hj hij
    have hs := List.pairwise_iff_getElem.1 (sortM_sorted l) i j hi hj hij
    have hn := List.pairwise_iff_getElem.1 (sortM_nodup l) i j hi hj hij
    obtain ⟨k, hk, hh, e1⟩ := entL_mem.1 ((sortM_perm l).mem_iff.1 (List.getElem_mem hi))
    obtain ⟨q, hq, hh2, e2⟩ := entL_mem.1 ((sortM_perm l).mem_iff.1 (List.getElem_mem hj))
    rw [e1, e2] at hs hn ⊢
    dsimp only at hs hn ⊢
    have ha := hg.apart (j := q) (k := k) hq hk (by omega) hh2 hh
    have h1 := strayE_false (hg.s.fit k hk hh)
    have h2 := strayE_false (hg.s.fit q hq hh2)
    unfold overE at ha
    simp only [Bool.and_eq_false_iff, decide_eq_false_iff_not] at ha
    omega
theorem sortM_unique {l : Bytes} {S : List Ent} {a n : Nat} (hp : S.Perm (entriesL l)) (ht : TidyM a S n) : sortM l = S := by
  have h1 : (sortM l).Perm S := (sortM_perm l).trans hp.symm
  have hs := tidyM_strict ht
  refine List.Perm.eq_of_pairwise (le := fun x y : Ent => rAt x.2 ≤ rAt y.2) (fun x y hx hy h h' => ?_) (sortM_sorted l) (hs.imp fun h => Nat.le_of_lt h) h1
  have hx' : x ∈ S := h1.mem_iff.1 hx
  obtain ⟨i, hi, rfl⟩ := List.getElem_of_mem hx'
  obtain ⟨j, hj, rfl⟩ := List.getElem_of_mem hy
  rw [List.pairwise_iff_getElem] at hs
  rcases Nat.lt_trichotomy i j with hij | rfl | hij
  · have := hs i j hi hj hij; omega
  · rfl
  · have := hs j i hj hi hij; omega
/-- the first that has a gap ahead of it, and where it goes -/
def gapM : Nat → List Ent → Option (Ent × Nat)
  | _, [] => none
  | a, e :: r => if a < rAt e.2 then some (e, a) else gapM (rAt e.2 + rLen e.2) r
/-- how many stand behind the first gap -/
def packM : Nat → List Ent → Nat
  | _, [] => 0
  | a, e :: r => if a < rAt e.2 then r.length + 1 else packM (rAt e.2 + rLen e.2) r
theorem packM_le : ∀ (S : List Ent) (a : Nat), packM a S ≤ S.length
  | [], _ => Nat.le_refl _
  | e :: r, a => by
    unfold packM; split
    · simp
    · have := packM_le r (rAt e.2 + rLen e.2); simp; omega
theorem packM_zero : ∀ {S : List Ent} {a : Nat}, packM a S = 0 → gapM a S = none
  | [], _, _ => rfl
  | e :: r, a, h => by
    unfold packM at h; unfold gapM
    by_cases hc : a < rAt e.2
    · rw [if_pos hc] at h; omega
    · rw [if_neg hc] at h ⊢; exact packM_zero h
def swapE (e : Ent) (r' : Bytes) (x : Ent) : Ent := if x.1 = e.1 then (e.1, r') else x
theorem swap_none {e : Ent} {r' : Bytes} : ∀ {S : List Ent}, (∀ x ∈ S, x.1 ≠ e.1) → S.map (swapE e r') = S
  | [], _ => rfl
  | x :: r, h => by
    rw [List.map_cons, swap_none (fun y hy => h y (List.mem_cons_of_mem _ hy))]
    unfold swapE
    rw [if_neg (h x (List.mem_cons_self ..))]
theorem gap_swap {n : Nat} {e : Ent} {at_ : Nat} {r' : Bytes} (h1 : rAt r' = at_) (h2 : rLen r' = rLen e.2) : ∀ {S : List Ent} {a : Nat}, TidyM a S n → S.Pairwise (fun x y => x.1 ≠ y.1) → gapM a S = some (e, at_) →
    TidyM a (S.map (swapE e r')) n ∧ packM a (S.map (swapE e r')) < packM a S ∧ a ≤ at_ ∧ at_ < rAt e.2 ∧ e ∈ S ∧ ∀ x ∈ S, x.1 ≠ e.1 → at_ + rLen e.2 ≤ rAt x.2 ∨ rAt x.2 + rLen x.2 ≤ at_
  | [], _, _, _, h => by cases h
  | x :: r, a, ⟨t1, t2, t3⟩, hp, h => by
    rw [List.pairwise_cons] at hp
    unfold gapM at h
    by_cases hc : a < rAt x.2
    · rw [if_pos hc] at h
      have h' := Option.some.inj h
      injection h' with h3 h4
      subst h3 h4
      have hr : r.map (swapE x r') = r := swap_none (fun y hy => (hp.1 y hy).symm)
      rw [List.map_cons, hr]
      have hx : swapE x r' x = (x.1, r') := by unfold swapE; rw [if_pos rfl]
      rw [hx]
      have hm : TidyM (rAt r' + rLen r') r n := tidyM_mono t3 (by omega)
      refine ⟨⟨by dsimp only; omega, by dsimp only; omega, hm⟩, ?_, Nat.le_refl _, hc, List.mem_cons_self .., fun y hy hne => ?_⟩
      · unfold packM
        rw [if_pos hc, if_neg (by dsimp only; omega)]
        have := packM_le r (rAt r' + rLen r')
        dsimp only; omega
      · rcases List.mem_cons.1 hy with rfl | hy
        · exact absurd rfl hne
        · have := tidyM_mem t3 y hy; left; omega
    · rw [if_neg hc] at h
      obtain ⟨g1, g2, g3, g4, g5, g6⟩ := gap_swap h1 h2 t3 hp.2 h
      have hne : x.1 ≠ e.1 := hp.1 e g5
      have hx : swapE e r' x = x := by unfold swapE; rw [if_neg hne]
      rw [List.map_cons, hx]
      refine ⟨⟨t1, t2, g1⟩, ?_, by omega, g4, List.mem_cons_of_mem _ g5, fun y hy hne' => ?_⟩
      · unfold packM
        rw [if_neg hc, if_neg hc]; exact g2
      · rcases List.mem_cons.1 hy with rfl | hy
        · right; omega
        · exact g6 y hy hne'
/-- what Move makes of an image: the object of the handle k + 1 at another place -/
def moveL (l : Bytes) (k a : Nat) : Bytes := splice (splice l (5 * k) (entB a (rLen (rawE l k)) (rTag (rawE l k)).toNat)) a ((l.drop (rAt (rawE l k))).take (rLen (rawE l k)))
structure MoveIs (l l' : Bytes) (k a : Nat) : Prop where
  k40 : k < 40
  has : hasE (rawE l k) = true
  a0 : 288 ≤ a
  a1 : a < rAt (rawE l k)
  len : l'.length = l.length
  ents : ∀ j, j < 40 → rawE l' j = if j = k then entB a (rLen (rawE l k)) (rTag (rawE l k)).toNat else rawE l j
  rots : ∀ i, i < 8 → rawR l' i = rawR l i
  apart : ∀ j, j < 40 → j ≠ k → hasE (rawE l j) = true → a + rLen (rawE l k) ≤ rAt (rawE l j) ∨ rAt (rawE l j) + rLen (rawE l j) ≤ a
  body : (l'.drop a).take (rLen (rawE l k)) = (l.drop (rAt (rawE l k))).take (rLen (rawE l k))
  rest : ∀ b m, 288 ≤ b → b + m ≤ a ∨ a + rLen (rawE l k) ≤ b → (l'.drop b).take m = (l.drop b).take m
theorem move_is {l : Bytes} (hg : Good l) {k a : Nat} (hk : k < 40) (hh : hasE (rawE l k) = true) (ha : 288 ≤ a) (ha1 : a < rAt (rawE l k)) (hap : ∀ j, j < 40 → j ≠ k → hasE (rawE l j) = true → a + rLen (rawE l k) ≤ rAt (rawE l j) ∨ rAt (rawE l j) + rLen (rawE l j) ≤ a) : MoveIs l (moveL l k a) k a := by
  have hb := hg.bd
  have hs := strayE_false (hg.s.fit k hk hh)
  have hbl : ((l.drop (rAt (rawE l k))).take (rLen (rawE l k))).length = rLen (rawE l k) := by simp; omega
  have hl1 : (splice l (5 * k) (entB a (rLen (rawE l k)) (rTag (rawE l k)).toNat)).length = l.length := splice_len _ _ _ (by rw [entB_len]; omega)
  have hfit : a + ((l.drop (rAt (rawE l k))).take (rLen (rawE l k))).length ≤ (splice l (5 * k) (entB a (rLen (rawE l k)) (rTag (rawE l k)).toNat)).length := by rw [hbl, hl1]; omega
  refine ⟨hk, hh, ha, ha1, by unfold moveL; rw [splice_len _ _ _ hfit, hl1], fun j hj => ?_, fun i hi => ?_, hap, ?_, fun b m hb0 hbm => ?_⟩
  · unfold moveL
    rw [rawE_tail _ _ _ _ ha hfit hj]
    exact rawE_splice l _ k j (entB_len _ _ _) hk hj (by omega)
  · unfold moveL
    rw [rawR_tail _ _ _ _ ha hfit hi]
    exact rawR_head l _ _ _ (by rw [entB_len]; omega) (by omega)
  · unfold moveL
    rw [cut_splice_in _ _ _ _ _ hfit (Nat.le_refl _) (by rw [hbl]; exact Nat.le_refl _), Nat.sub_self, List.drop_zero, List.take_of_length_le (by rw [hbl]; exact Nat.le_refl _)]
  · unfold moveL
    rw [cut_splice _ _ _ _ _ hfit (by rw [hbl]; exact hbm), cut_splice _ _ _ _ _ (by rw [entB_len]; omega) (by rw [entB_len]; omega)]
section
variable {l l' : Bytes} {k a : Nat}
theorem MoveIs.ent (h : MoveIs l l' k a) (hg : Good l) : hasE (rawE l' k) = true ∧ rAt (rawE l' k) = a ∧ rLen (rawE l' k) = rLen (rawE l k) ∧ rTag (rawE l' k) = rTag (rawE l k) := by
  have hs := strayE_false (hg.s.fit k h.k40 h.has)
  have hb := hg.bd
  have ha := h.a1
  obtain ⟨e1, e2, e3, e4⟩ := entB_rd a (rLen (rawE l k)) (rTag (rawE l k)).toNat (by omega) (by omega) (by omega)
  rw [h.ents k h.k40, if_pos rfl]
  exact ⟨e1, e2, e3, by omega⟩
theorem MoveIs.good (h : MoveIs l l' k a) (hg : Good l) : Good l' := by
  have hs := strayE_false (hg.s.fit k h.k40 h.has)
  have hb := hg.bd
  have ha := h.a1
  have ha0 := h.a0
  obtain ⟨e1, e2, e3, e4⟩ := entB_rd a (rLen (rawE l k)) (rTag (rawE l k)).toNat (by omega) (by omega) (by omega)
  refine good_iff.2 ⟨by rw [h.len]; exact hg.len, ?_⟩
  rw [h.len]
  have h1 : GoodS l.length (rawE l') (rawR l) := by
    refine hg.s.putE k h.k40 _ h.ents e1 ?_ (fun j hj hne hh => ?_)
    · unfold strayE
      rw [e2, e3, e4, tagB_true.2 ⟨by omega, by omega⟩, lenB_true.2 ⟨by omega, by omega⟩, withinB_true.2 ⟨by omega, by omega, by omega⟩]
      rfl
    · have := h.apart j hj hne hh
      unfold overE
      rw [e2, e3]
      simp only [Bool.and_eq_false_iff, decide_eq_false_iff_not]
      omega
  exact h1.putR 0 (rawR l 0) (fun j hj => by rw [h.rots j hj]; split <;> simp_all) (by
    cases hz : zeroE (rawR l 0) with
    | true => exact .inl rfl
    | false => exact .inr ⟨h1.root 0 (by omega) hz, fun j hj hne hz' => (h1.name j hj 0 (by omega) hz' hz).symm⟩)
/-- no object is another one -/
theorem MoveIs.keep (h : MoveIs l l' k a) (hg : Good l) {j : Nat} (hj : j < 40) : objT l' j = objT l j ∧ objS l' j = objS l j := by
  by_cases e : j = k
  · subst e
    obtain ⟨e1, e2, e3, e4⟩ := h.ent hg
    unfold objT objS
    rw [e1, h.has, e2, e3, e4]
    simp only [if_true]
    exact ⟨trivial, h.body⟩
  · refine obj_congr (by rw [h.ents j hj, if_neg e]) fun hh => ?_
    have := strayE_false (hg.s.fit j hj hh)
    have := h.apart j hj e hh
    exact h.rest _ _ (by omega) (by omega)
theorem MoveIs.roots (h : MoveIs l l' k a) : rootsL l' = rootsL l := by
  unfold rootsL rootsF
  rw [List.filter_congr (fun i hi => by rw [h.rots i (List.mem_range.1 hi)])]
  exact List.map_congr_left fun i hi => by rw [h.rots i (List.mem_range.1 (List.mem_filter.1 hi).1)]
theorem MoveIs.entries (h : MoveIs l l' k a) (hg : Good l) : entriesL l' = (entriesL l).map (swapE ((k : Int) + 1, rawE l k) (rawE l' k)) := by
  have he := h.ent hg
  unfold entriesL entsL
  rw [List.map_map, List.filter_congr (q := fun j => hasE (rawE l j)) (fun j hj => by
    have hj := List.mem_range.1 hj
    by_cases e : j = k
    · rw [e, he.1, h.has]
    · rw [h.ents j hj, if_neg e])]
  refine List.map_congr_left fun j hj => ?_
  have hj := List.mem_range.1 (List.mem_filter.1 hj).1
  simp only [Function.comp_apply, swapE]
  by_cases e : j = k
  · subst e; rw [if_pos rfl]
  · rw [if_neg (by omega), h.ents j hj, if_neg e]
theorem MoveIs.taken (h : MoveIs l l' k a) (hg : Good l) : (takenL l').length = (takenL l).length ∧ sumX (takenL l') = sumX (takenL l) := by
  have he := h.ent hg
  have hE := h.entries hg
  constructor
  · unfold takenL; rw [List.length_map, List.length_map, hE, List.length_map]
  · have key : ∀ L : List Ent, (∀ e ∈ L, e.1 = (k : Int) + 1 → rLen e.2 = rLen (rawE l k)) → sumX ((L.map (swapE ((k : Int) + 1, rawE l k) (rawE l' k))).map takeX) = sumX (L.map takeX) := by
      intro L
      induction L with
      | nil => intro _; rfl
      | cons x r ih =>
        intro hL
        rw [List.map_cons, List.map_cons, List.map_cons, sumX_cons, sumX_cons, ih (fun e he => hL e (List.mem_cons_of_mem _ he))]
        congr 1
        unfold swapE takeX
        by_cases e : x.1 = (k : Int) + 1
        · rw [if_pos e]
          have := hL x (List.mem_cons_self ..) e
          dsimp only; omega
        · rw [if_neg e]
    unfold takenL
    rw [hE]
    exact key _ fun e he1 he2 => by
      obtain ⟨j, hj, hh, rfl⟩ := entL_mem.1 he1
      dsimp only at he2 ⊢
      rw [show j = k by omega]
end
/-- a step, if there is one -/
theorem step_is {l : Bytes} (hg : Good l) {e : Ent} {a : Nat} (h : gapM 288 (sortM l) = some (e, a)) : ∃ k : Nat, e = ((k : Int) + 1, rawE l k) ∧ MoveIs l (moveL l k a) k a ∧ packM 288 (sortM (moveL l k a)) < packM 288 (sortM l) := by
  have ht := tidy_sortM hg
  have hn := sortM_nodup l
  have hmem : e ∈ sortM l ∧ 288 ≤ a ∧ a < rAt e.2 ∧ ∀ x ∈ sortM l, x.1 ≠ e.1 → a + rLen e.2 ≤ rAt x.2 ∨ rAt x.2 + rLen x.2 ≤ a := by
    have aux : ∀ {S : List Ent} {b n : Nat}, TidyM b S n → S.Pairwise (fun x y => x.1 ≠ y.1) → gapM b S = some (e, a) → e ∈ S ∧ b ≤ a ∧ a < rAt e.2 ∧ ∀ x ∈ S, x.1 ≠ e.1 → a + rLen e.2 ≤ rAt x.2 ∨ rAt x.2 + rLen x.2 ≤ a := by
      intro S
      induction S with
      | nil => intro b n _ _ h; cases h
      | cons x r ih =>
        intro b n ⟨t1, t2, t3⟩ hp h
        rw [List.pairwise_cons] at hp
        unfold gapM at h
        by_cases hc : b < rAt x.2
        · rw [if_pos hc] at h
          have h' := Option.some.inj h
          injection h' with h3 h4
          subst h3 h4
          refine ⟨List.mem_cons_self .., Nat.le_refl _, hc, fun y hy hne => ?_⟩
          rcases List.mem_cons.1 hy with rfl | hy
          · exact absurd rfl hne
          · have := tidyM_mem t3 y hy; left; omega
        · rw [if_neg hc] at h
          obtain ⟨g1, g2, g3, g4⟩ := ih t3 hp.2 h
          refine ⟨List.mem_cons_of_mem _ g1, by omega, g3, fun y hy hne => ?_⟩
          rcases List.mem_cons.1 hy with rfl | hy
          · right; omega
          · exact g4 y hy hne
    exact aux ht hn h
  obtain ⟨m1, m2, m3, m4⟩ := hmem
  obtain ⟨k, hk, hh, rfl⟩ := entL_mem.1 ((sortM_perm l).mem_iff.1 m1)
  dsimp only at m3 m4
  have hM := move_is hg hk hh m2 m3 (fun j hj hne hj2 => by
    have := m4 ((j : Int) + 1, rawE l j) ((sortM_perm l).mem_iff.2 (entL_mem.2 ⟨j, hj, hj2, rfl⟩)) (by dsimp only; omega)
    exact this)
  refine ⟨k, rfl, hM, ?_⟩
  obtain ⟨e1, e2, e3, e4⟩ := hM.ent hg
  obtain ⟨g1, g2, -⟩ := gap_swap (r' := rawE (moveL l k a) k) e2 e3 ht hn h
  have hp : ((sortM l).map (swapE ((k : Int) + 1, rawE l k) (rawE (moveL l k a) k))).Perm (entriesL (moveL l k a)) := by
    rw [hM.entries hg]; exact (sortM_perm l).map _
  rw [sortM_unique hp g1]
  exact g2
/-- all that is free is one run -/
theorem packed_runs : ∀ {S : List Ent} {a n : Nat}, TidyM a S n → gapM a S = none → (runsX ((a : Int) - 288) (S.map takeX) ((n : Int) - 288)).length ≤ 1
  | [], a, n, _, _ => by
    rw [List.map_nil, runsX_nil]; split <;> simp
  | e :: r, a, n, ⟨t1, t2, t3⟩, h => by
    unfold gapM at h
    by_cases hc : a < rAt e.2
    · rw [if_pos hc] at h; cases h
    · rw [if_neg hc] at h
      have := packed_runs t3 h
      rw [List.map_cons, runsX_cons]
      unfold takeX
      dsimp only
      rw [if_neg (by omega), List.nil_append, show ((rAt e.2 : Int) - 288 + rLen e.2) = ((rAt e.2 + rLen e.2 : Nat) : Int) - 288 by omega]
      exact this
theorem tidy_take : ∀ {S : List Ent} {a n : Nat}, TidyM a S n → Tidy ((a : Int) - 288) (S.map takeX) ((n : Int) - 288)
  | [], a, n, h => by
    have h : a ≤ n := h
    show (a : Int) - 288 ≤ (n : Int) - 288
    omega
  | e :: r, a, n, ⟨t1, t2, t3⟩ => by
    have := tidy_take t3
    refine ⟨?_, ?_, ?_⟩
    · unfold takeX; dsimp only; omega
    · unfold takeX; dsimp only; omega
    · show Tidy ((rAt e.2 : Int) - 288 + rLen e.2) (r.map takeX) _
      rw [show ((rAt e.2 : Int) - 288 + rLen e.2) = ((rAt e.2 + rLen e.2 : Nat) : Int) - 288 by omega]
      exact this
theorem packed_holes {l : Bytes} (hg : Good l) (h : gapM 288 (sortM l) = none) : (holesX ((l.length : Int) - 288) (takenL l)).length ≤ 1 ∧ mostX (holesX ((l.length : Int) - 288) (takenL l)) = ((l.length : Int) - 288) - sumX (takenL l) := by
  have ht := tidy_sortM hg
  have hc := good_chk hg
  have hs : sortE (takenL l) = (sortM l).map takeX := sortE_unique (a := ((288 : Nat) : Int) - 288) (by unfold takenL; exact (sortM_perm l).map _) (tidy_take ht)
  have h1 := packed_runs ht h
  have e : holesX ((l.length : Int) - 288) (takenL l) = runsX (((288 : Nat) : Int) - 288) ((sortM l).map takeX) ((l.length : Int) - 288) := by rw [holes_runs, hs]; rfl
  rw [← e] at h1
  refine ⟨h1, ?_⟩
  have hsum := holds_sum hc
  have hm := holes_mem hc
  generalize holesX ((l.length : Int) - 288) (takenL l) = H at *
  rcases H with _ | ⟨x, _ | ⟨y, r⟩⟩
  · have : sumX ([] : List Ext) = 0 := rfl
    show (0 : Int) = _
    omega
  · have hx := hm x (by simp)
    have e1 : sumX [x] = x.2 := by show (0 : Int) + x.2 = x.2; omega
    have e2 : mostX [x] = max 0 x.2 := rfl
    rw [e2, Int.max_eq_right (by omega)]
    omega
  · simp at h1
end Go.Proofs.YtcahgmnkphmnhaaGreatDoor
/- Laid: library functions whose contracts are proved over whatever program: the table of numbers, and a field a function or a type. -/
namespace Go.Proofs.YtcahgmnkphmnhaaGreatDoor
open Go.Shelf
end Go.Proofs.YtcahgmnkphmnhaaGreatDoor
/- The contracts of heap.Move and of package move's Step. -/
namespace Go.Proofs.YtcahgmnkphmnhaaGreatDoor
open Go.RowKit Go.Sort Go.Shelf Go.Lib

theorem HpM.rowB {w0 w w' : World} {F F' : Nat → Prop} {h : Nat} {l' : Bytes} (hm : HpM w0 w w' F F' h l') {g cap : Nat} {b : Bytes} (hr : Row w 5 g cap b) (hn : ¬ F g) : Row w' 5 g cap b ∧ ¬ F' g :=
  ⟨hr.block (hm.kp.block _ hr.lt hn), fun hk => by rcases hm.nw _ hk with h | h; exact hn h; have := hr.lt; omega⟩
section
variable {w0 w : World} {F : Nat → Prop} {h : Nat} {l : Bytes}
end
end Go.Proofs.YtcahgmnkphmnhaaGreatDoor
/- Package move: Step, All, Gain; stat.Heap. -/
namespace Go.Proofs.YtcahgmnkphmnhaaGreatDoor
open Go.RowKit Go.Sort Go.Shelf Go.Lib

/-- is there a step; the image behind it -/
def stepB (l : Bytes) : Bool := (gapM 288 (sortM l)).isSome
def stepL (l : Bytes) : Bytes := match gapM 288 (sortM l) with
  | some (e, a) => moveL l (e.1 - 1).toNat a
  | none => l
theorem stepL_some {l : Bytes} {e : Ent} {a : Nat} (h : gapM 288 (sortM l) = some (e, a)) : stepL l = moveL l (e.1 - 1).toNat a := by unfold stepL; rw [h]
theorem stepL_none {l : Bytes} (h : gapM 288 (sortM l) = none) : stepL l = l := by unfold stepL; rw [h]
theorem gapM_ge : ∀ {S : List Ent} {b n : Nat} {e : Ent} {a : Nat}, TidyM b S n → gapM b S = some (e, a) → b ≤ a ∧ a < rAt e.2 ∧ e ∈ S
  | [], _, _, _, _, _, h => by cases h
  | x :: r, b, n, e, a, ⟨t1, t2, t3⟩, h => by
    unfold gapM at h
    by_cases hc : b < rAt x.2
    · rw [if_pos hc] at h
      have h' := Option.some.inj h
      injection h' with h3 h4
      subst h3 h4
      exact ⟨Nat.le_refl _, hc, List.mem_cons_self ..⟩
    · rw [if_neg hc] at h
      obtain ⟨g1, g2, g3⟩ := gapM_ge t3 h
      exact ⟨by omega, g2, List.mem_cons_of_mem _ g3⟩
section
variable {w0 w : World} {F : Nat → Prop} {h : Nat} {l : Bytes}
end
end Go.Proofs.YtcahgmnkphmnhaaGreatDoor
/- Package move: All, Gain; stat.Heap. -/
namespace Go.Proofs.YtcahgmnkphmnhaaGreatDoor
open Go.RowKit

/-- what moving leaves as it was -/
structure MovedR (l l' : Bytes) : Prop where
  good : Good l'
  len : l'.length = l.length
  obj : ∀ j, j < 40 → objT l' j = objT l j ∧ objS l' j = objS l j
  roots : rootsL l' = rootsL l
  rots : ∀ i, i < 8 → rawR l' i = rawR l i
  many : (takenL l').length = (takenL l).length
  sum : sumX (takenL l') = sumX (takenL l)
  has : ∀ j, j < 40 → hasE (rawE l' j) = hasE (rawE l j)
theorem MovedR.refl {l : Bytes} (hg : Good l) : MovedR l l := ⟨hg, rfl, fun _ _ => ⟨rfl, rfl⟩, rfl, fun _ _ => rfl, rfl, rfl, fun _ _ => rfl⟩
theorem MovedR.trans {l l' l'' : Bytes} (a : MovedR l l') (b : MovedR l' l'') : MovedR l l'' :=
  ⟨b.good, b.len.trans a.len, fun j hj => ⟨(b.obj j hj).1.trans (a.obj j hj).1, (b.obj j hj).2.trans (a.obj j hj).2⟩, b.roots.trans a.roots, fun i hi => (b.rots i hi).trans (a.rots i hi), b.many.trans a.many, b.sum.trans a.sum, fun j hj => (b.has j hj).trans (a.has j hj)⟩
theorem MoveIs.moved {l l' : Bytes} {k a : Nat} (h : MoveIs l l' k a) (hg : Good l) : MovedR l l' := by
  obtain ⟨t1, t2⟩ := h.taken hg
  refine ⟨h.good hg, h.len, fun j hj => h.keep hg hj, h.roots, h.rots, t1, t2, fun j hj => ?_⟩
  by_cases e : j = k
  · rw [e, (h.ent hg).1, h.has]
  · rw [h.ents j hj, if_neg e]
theorem step_moved {l : Bytes} (hg : Good l) : MovedR l (stepL l) ∧ (stepB l = true → packM 288 (sortM (stepL l)) < packM 288 (sortM l)) ∧ (stepB l = false → stepL l = l ∧ gapM 288 (sortM l) = none) := by
  cases hgap : gapM 288 (sortM l) with
  | none => exact ⟨by rw [stepL_none hgap]; exact MovedR.refl hg, fun h => (by unfold stepB at h; rw [hgap] at h; cases h), fun _ => ⟨stepL_none hgap, rfl⟩⟩
  | some p =>
    obtain ⟨e, a⟩ := p
    obtain ⟨k, he, hM, hp⟩ := step_is hg hgap
    have hk : (e.1 - 1).toNat = k := by rw [he]; dsimp only; omega
    have hs := stepL_some hgap
    rw [hk] at hs
    exact ⟨by rw [hs]; exact hM.moved hg, fun _ => (by rw [hs]; exact hp), fun h => (by unfold stepB at h; rw [hgap] at h; cases h)⟩
/-- step by step -/
def allF : Nat → Bytes → Nat × Bytes
  | 0, l => (0, l)
  | f + 1, l => if stepB l = true then ((allF f (stepL l)).1 + 1, (allF f (stepL l)).2) else (0, l)
def allN (l : Bytes) : Nat := (allF 40 l).1
def allL (l : Bytes) : Bytes := (allF 40 l).2
theorem pack40 (l : Bytes) : packM 288 (sortM l) ≤ 40 := Nat.le_trans (packM_le _ _) (by rw [(sortM_perm l).length_eq]; exact entsL_len _ _ 40)
theorem allF_done : ∀ (f : Nat) (l : Bytes), Good l → packM 288 (sortM l) ≤ f → MovedR l (allF f l).2 ∧ gapM 288 (sortM (allF f l).2) = none ∧ (allF f l).1 ≤ f
  | 0, l, hg, h => ⟨MovedR.refl hg, packM_zero (Nat.le_zero.1 h), Nat.le_refl _⟩
  | f + 1, l, hg, h => by
    obtain ⟨h1, h2, h3⟩ := step_moved hg
    unfold allF
    cases hs : stepB l with
    | true =>
      have := h2 hs
      obtain ⟨i1, i2, i3⟩ := allF_done f (stepL l) h1.good (by omega)
      simp only [if_true]
      exact ⟨h1.trans i1, i2, by omega⟩
    | false =>
      simp only [Bool.false_eq_true, if_false]
      exact ⟨MovedR.refl hg, (h3 hs).2, by omega⟩
theorem all_done {l : Bytes} (hg : Good l) : MovedR l (allL l) ∧ gapM 288 (sortM (allL l)) = none ∧ allN l ≤ 40 := allF_done 40 l hg (pack40 l)
section
variable {w0 w : World} {F : Nat → Prop} {h : Nat} {l : Bytes}
/-- how full a heap is -/
def statH (l : Bytes) : Value := statX ((l.length : Int) - 288) (takenL l)
theorem statH_good {l : Bytes} (hg : Good l) : statH l = statV (takenL l).length (sumX (takenL l)) ((l.length : Int) - 288 - sumX (takenL l)) (mostX (holesX ((l.length : Int) - 288) (takenL l))) (holesX ((l.length : Int) - 288) (takenL l)).length := by
  unfold statH statX; rw [if_pos (good_chk hg)]
/-- what moving would gain -/
def gainL (l : Bytes) : Int := (l.length : Int) - 288 - sumX (takenL l) - mostX (holesX ((l.length : Int) - 288) (takenL l))
end
end Go.Proofs.YtcahgmnkphmnhaaGreatDoor
/- Package reach: what an object names. -/
namespace Go.Proofs.YtcahgmnkphmnhaaGreatDoor
open Go.RowKit

theorem indexN_any (A : Option Addr) (n c : Nat) (L : List Nat) (x : Nat) (w : World) (hn : L.length = n) (hl : n ≤ 100000) (hr : RdX ncell 1 w A L) :
    Calls Tryz.prog 126 #[.slice A n c, .int .i64 (x : Int)] w fun e w' => ∃ z : Int, e = .returned (.int .i64 z) ∧ decide (0 ≤ z) = decide (x ∈ L) ∧ w = w' := by
  subst hn
  go_enter Tryz.func126, Tryz.ntmps126
  go_wp2_with fail
  go_loopw [8] (fun i wr => w = wr ∧ ∃ k : Nat, k ≤ L.length ∧ i = .int .i64 k ∧ Hidden (x ∉ L.take k)) (fun i _ => L.length - (intOf i).toNat)
  case atStart => exact ⟨rfl, 0, Nat.zero_le _, rfl, ⟨by simp⟩⟩
  case round =>
    obtain ⟨rfl, k, hk, rfl, hnot⟩ := hrel
    by_cases hlt : k < L.length
    · obtain ⟨b, off, rfl, hcx⟩ := hr k hlt
      have c0 : w.cell? ⟨b, off + k, none⟩ = some (.int .i64 (L[k] : Int)) := by simpa using hcx 0 _ rfl
      have i0 : (0 : Int) ≤ k := by omega
      have i1 : (k : Int) < L.length := by omega
      by_cases he : x = L[k]
      · have hi : Hidden (true = decide (x ∈ L)) := ⟨(decide_eq_true (he ▸ List.getElem_mem hlt)).symm⟩
        have d1 : decide ((x : Int) = (L[k] : Int)) = true := decide_eq_true (by omega)
        have d2 : ((x : Int) == (L[k] : Int)) = true := by simp; omega
        have d3 : decide (x = L[k]) = true := decide_eq_true he
        generalize L[k] = y at *
        clear hcx he
        go_wp2_with fail
        go_ret
        exact ⟨_, rfl, by rw [← hi.out]; simp, rfl⟩
      · have hnk : Hidden (x ∉ L.take (k + 1)) := ⟨fun h => by
          rw [List.take_succ_eq_append_getElem hlt] at h
          rcases List.mem_append.1 h with h | h
          · exact hnot.out h
          · simp only [List.mem_singleton] at h; exact he h⟩
        have d1 : decide ((x : Int) = (L[k] : Int)) = false := decide_eq_false (by omega)
        have d2 : ((x : Int) == (L[k] : Int)) = false := by simp; omega
        have d3 : decide (x = L[k]) = false := decide_eq_false he
        generalize L[k] = y at *
        clear hnot hcx he
        go_wp2_with fail
        go_roundw
        case rel => exact ⟨by trivial, k + 1, by omega, by go_num, hnk⟩
        case measure => simp [intOf]; omega
    · have hi : Hidden (false = decide (x ∈ L)) := ⟨by
        have := hnot.out
        rw [List.take_of_length_le (by omega)] at this
        exact (decide_eq_false this).symm⟩
      go_wp2_with fail
      go_ret
      exact ⟨-1, rfl, by rw [← hi.out]; rfl, rfl⟩
theorem containsN_any (A : Option Addr) (n c : Nat) (L : List Nat) (x : Nat) (w : World) (hn : L.length = n) (hl : n ≤ 100000) (hr : RdX ncell 1 w A L) :
    Calls Tryz.prog 94 #[.slice A n c, .int .i64 (x : Int)] w fun e w' => e = .returned (.bool (decide (x ∈ L))) ∧ w = w' := by
  have HC := Hidden.mk (indexN_any A n c L x w hn hl hr)
  go_enter Tryz.func94, Tryz.ntmps94
  go_wp2_with fail
  refine HC.out.mono ?_
  rintro e w1 ⟨z, rfl, hz, rfl⟩
  have HZ := Hidden.mk hz
  clear hz
  go_wp2_with fail
  go_ret
  exact ⟨congrArg (fun b => Ending.returned (.bool b)) HZ.out, rfl⟩
/-- the objects that some bytes name -/
def refB (l : Bytes) (out : List Nat) (c : UInt8) : List Nat := if hE l (c.toNat : Int) = 0 ∧ c.toNat ∉ out then out ++ [c.toNat] else out
def refsB (l b : Bytes) : List Nat := b.foldl (refB l) []
/-- the objects that an object names -/
def refsL (l : Bytes) (x : Int) : List Nat := refsB l (readL l x 0 (min (gL l x) (gT l x)))
theorem refsB_succ (l b : Bytes) (k : Nat) (hk : k < b.length) : refsB l (b.take (k + 1)) = refB l (refsB l (b.take k)) b[k] := by
  unfold refsB; rw [List.take_succ_eq_append_getElem hk, List.foldl_append]; rfl
theorem refsB_len (l b : Bytes) : ∀ k, k ≤ b.length → (refsB l (b.take k)).length ≤ k
  | 0, _ => by simp [refsB]
  | k + 1, hk => by
    rw [refsB_succ l b k hk]
    have := refsB_len l b k (by omega)
    unfold refB
    split
    · simp; omega
    · omega
theorem refsB_mem (l b : Bytes) : ∀ k, k ≤ b.length → ∀ x ∈ refsB l (b.take k), hE l (x : Int) = 0
  | 0, _, x, h => by simp [refsB] at h
  | k + 1, hk, x, h => by
    rw [refsB_succ l b k hk] at h
    unfold refB at h
    split at h
    · rename_i hc
      rcases List.mem_append.1 h with h | h
      · exact refsB_mem l b k (by omega) x h
      · simp only [List.mem_singleton] at h; subst h; exact hc.1
    · exact refsB_mem l b k (by omega) x h
section
variable {w0 w : World} {F : Nat → Prop} {h : Nat} {l : Bytes}
set_option maxRecDepth 100000 in
theorem refs_any (x : Int) (hp : Hp w0 w F h l) (hg : Good l) :
    Calls Tryz.prog 41 #[.pointer (some ⟨h, 0, none⟩), .int .i64 x] w fun e w' => ∃ v, e = .returned v ∧ w'.ownsRow w.heap.size 3 1 v (refsL l x).length ((refsL l x).flatMap ncell) ∧ Below w.heap.size w w' := by
  obtain ⟨i0', hi0, hz0, hz1, hz2⟩ := info_parts int_infoC
  have HI := Hidden.mk (And.intro hi0 (And.intro hz0 (And.intro hz1 hz2)))
  have HP := Hidden.mk hp
  have HSZ := Hidden.mk (hsize_any x hp)
  have HTG : Hidden (∀ (y : Int) (W : World), Below w.heap.size w W → Calls Tryz.prog 40 #[.pointer (some ⟨h, 0, none⟩), .int .i64 y] W fun e w' => e = .returned (.tuple #[.int .i64 (gT l y), errV (hE l y)]) ∧ Below W.heap.size W w') := ⟨fun y W hW => htag_any y (hp.below hW)⟩
  have hgl : gL l x ≤ 65535 := by
    unfold gL; split
    · have := rLen_le (hR l x); omega
    · omega
  have HRD : Hidden (∀ W, Below w.heap.size w W → Calls Tryz.prog 93 #[.pointer (some ⟨h, 0, none⟩), .int .i64 x, .int .i64 0, .int .i64 (min (gL l x) (gT l x))] W fun e w' => ∃ A' c', e = .returned (.tuple #[.slice A' (readL l x 0 (min (gL l x) (gT l x))).length c', errV (someE l x 0 (min (gL l x) (gT l x)))]) ∧ (readL l x 0 (min (gL l x) (gT l x))).length ≤ c' ∧ Rd w' A' (readL l x 0 (min (gL l x) (gT l x))) ∧ (∀ ad, A' = some ad → W.heap.size ≤ ad.block) ∧ Below W.heap.size W w') := ⟨fun W hW => hread_any x 0 _ (hp.below hW) hg (by omega)⟩
  have hbl : (readL l x 0 (min (gL l x) (gT l x))).length ≤ 65535 := by
    unfold readL; split
    · simp; omega
    · simp
  have HRL : Hidden (refsL l x = refsB l (readL l x 0 (min (gL l x) (gT l x)))) := ⟨rfl⟩
  generalize readL l x 0 (min (gL l x) (gT l x)) = b at *
  generalize refsL l x = R at *
  generalize errV (someE l x 0 (min (gL l x) (gT l x))) = er at *
  have HTX := Hidden.mk (HTG.out x)
  generalize errV (hE l x) = ex at *
  generalize gL l x = n0 at *
  generalize gT l x = t0 at *
  clear hi0 hz0 hz1 hz2 hp hg
  go_enter Tryz.func41, Tryz.ntmps41
  go_wp2_with fail
  refine HSZ.out.mono ?_
  rintro e w1 ⟨rfl, hb1⟩
  have HB1 := Hidden.mk hb1
  clear hb1 HSZ
  go_wp2_with fail
  refine (HTX.out w1 HB1.out).mono ?_
  rintro e w2 ⟨rfl, hb2⟩
  have HB2 := Hidden.mk (HB1.out.trans (hb2.mono HB1.out.size))
  clear hb2 HTX HB1
  go_wp2_with fail
  refine (HRD.out w2 HB2.out).mono ?_
  rintro e w3 ⟨A3, c3, rfl, hc3, hr3, -, hb3⟩
  have HB3 := Hidden.mk (HB2.out.trans (hb3.mono HB2.out.size))
  have HR3 := Hidden.mk hr3
  generalize hm : b.length = m at *
  have HM := Hidden.mk hm
  clear hc3 hr3 hb3 HRD HB2 hm
  go_wp2_with fail
  go_loopg [4, 38] m (fun q v i wr => ∃ k : Nat, k ≤ m ∧ q = m - k ∧ i = .int .i64 (k : Int) ∧ Hidden (Below w3.heap.size w3 wr ∧ wr.ownsRow w3.heap.size 3 1 v (refsB l (b.take k)).length ((refsB l (b.take k)).flatMap ncell)))
  case atStart => exact ⟨0, by omega, rfl, rfl, ⟨Below.refl _ _, World.ownsRow_nil _ _ _ _⟩⟩
  case round =>
    obtain ⟨k, hk, rfl, rfl, hst⟩ := hrel
    by_cases hlt : k < m
    · have hkb : k < b.length := by rw [HM.out]; exact hlt
      have HS := Hidden.mk (refsB_succ l b k hkb)
      have hll := refsB_len l b k (by omega)
      obtain ⟨pb, ob, rfl, x0⟩ := (HR3.out.below hst.out.1) k hkb
      obtain ⟨A4, c4, rfl, hc4, hc4m⟩ := own_split hst.out.2
      have hc255 := u8_lt b[k]
      have HO4 := Hidden.mk hst.out
      have HBW : Hidden (Below w.heap.size w wr) := ⟨HB3.out.trans (hst.out.1.mono HB3.out.size)⟩
      generalize b[k] = cb at *
      generalize refsB l (b.take k) = L at *
      generalize hL2 : refsB l (b.take (k + 1)) = L2 at *
      have HL2 := Hidden.mk hL2
      have i0 : (0 : Int) ≤ k := by omega
      have i1 : (k : Int) < m := by omega
      have s1 : IntKind.i64.wrap (cb.toNat : Int) = (cb.toNat : Int) := IntWalk.i64_in _ (by omega)
      have s3 : IntKind.i64.wrap ((k : Int) + 1) = (k : Int) + 1 := IntWalk.i64_in _ (by omega)
      have HT := Hidden.mk (HTG.out (cb.toNat : Int) wr HBW.out)
      generalize gT l (cb.toNat : Int) = tg at *
      clear hst hL2
      by_cases h0 : hE l (cb.toNat : Int) = 0
      · rw [h0, show errV 0 = Value.nilIface from rfl] at HT
        have HS1 : Hidden (L2 = if cb.toNat ∉ L then L ++ [cb.toNat] else L) := ⟨by rw [HS.out]; unfold refB; simp only [h0, true_and]⟩
        clear h0 HS
        go_wp2_with fail
        refine HT.out.mono ?_
        rintro e w5 ⟨rfl, hb5⟩
        have HO5 : Hidden (Below w3.heap.size w3 w5 ∧ w5.ownsRow w3.heap.size 3 1 (.slice A4 L.length c4) L.length (L.flatMap ncell)) := ⟨HO4.out.1.trans (hb5.mono HO4.out.1.size), own_below HO4.out.2 hb5⟩
        have HCN := Hidden.mk (containsN_any A4 L.length c4 L cb.toNat w5 rfl (by omega) (own_rdX3 (f := ncell) (fun _ => rfl) rfl HO5.out.2))
        clear hb5 HT HO4
        by_cases hin : cb.toNat ∈ L
        · rw [decide_eq_true hin] at HCN
          have HLL : Hidden (L2 = L) := ⟨by rw [HS1.out, if_neg (fun h => h hin)]⟩
          clear hin HS1
          go_wp2_with fail
          refine HCN.out.mono ?_
          rintro e w6 ⟨rfl, rfl⟩
          clear HCN
          go_wp2_with fail
          go_roundg (m - (k + 1))
          case measure => omega
          case rel => exact ⟨k + 1, by omega, rfl, by go_num, ⟨by rw [HL2.out, HLL.out]; exact HO5.out⟩⟩
        · rw [decide_eq_false hin] at HCN
          have HLL : Hidden (L2 = L ++ [cb.toNat]) := ⟨by rw [HS1.out, if_pos hin]⟩
          obtain ⟨hi0, hz0, hz1, hz2⟩ := HI.out
          clear hin HS1
          go_wp2_with fail
          refine HCN.out.mono ?_
          rintro e w6 ⟨rfl, rfl⟩
          clear HCN
          go_wp2_with (at_builtin; refine wpList_append_lies _ rfl (.tmp 58) (.tmp 61) _ rfl w3.heap.size 3 i0' _ 1 8 Tryz.underlying27 hi0 hz0 hz1 hz2 rfl (by decide) (.slice A4 L.length c4) L.length (L.flatMap ncell) rfl (own_below HO5.out.2 ((Below.refl _ _).alloc (Nat.le_refl _) _)) ⟨(w5).heap.size, 0, none⟩ 1 1 [.int .i64 (cb.toNat : Int)] rfl rfl (World.news_of_block (cs := #[.int .i64 (cb.toNat : Int)]) (t := 3) (fr := (0, 0)) (heap_alloc_new (w5) _)) (by simp [Value.oneCell']) (by omega) (by simp only [maxLen]; omega) (by omega) (by have hz_ := HO5.out.1.size; rw [World.size_alloc]; omega) ((w5).heap.size + 1) (by simp) ?_; intro g8 cap8 w8 hown8 hg8 hat8 hlt8)
          have hgW := grown_trans' ((Below.refl w5.heap.size w5).alloc (Nat.le_refl _) _) hg8
          have hB8 : Below w3.heap.size w3 w8 := HO5.out.1.grown hgW HO5.out.1.size (fun q hq => (HO5.out.2.lt q hq).1)
          have HF : Hidden (Below w3.heap.size w3 w8 ∧ w8.ownsRow w3.heap.size 3 1 (.slice (some ⟨g8, 0, none⟩) (L.length + 1) cap8) L2.length (L2.flatMap ncell)) := ⟨hB8, by rw [HLL.out]; simpa [ncell] using hown8⟩
          clear hgW hB8 hown8 hg8 hat8 hlt8 hi0 hz0 hz1 hz2
          go_roundg (m - (k + 1))
          case measure => omega
          case rel => exact ⟨k + 1, by omega, rfl, by go_num, ⟨by rw [HL2.out]; exact HF.out⟩⟩
      · obtain ⟨ec, hec⟩ : ∃ ec, hE l (cb.toNat : Int) = ec + 1 := ⟨hE l (cb.toNat : Int) - 1, by omega⟩
        have HLL : Hidden (L2 = L) := ⟨by rw [HS.out]; unfold refB; rw [if_neg (fun h => h0 h.1)]⟩
        rw [hec, show errV (ec + 1) = .iface 79 (.int .i64 ((ec + 1 : Nat) : Int)) from rfl] at HT
        clear h0 hec HS
        go_wp2_with fail
        refine HT.out.mono ?_
        rintro e w5 ⟨rfl, hb5⟩
        have HO5 : Hidden (Below w3.heap.size w3 w5 ∧ w5.ownsRow w3.heap.size 3 1 (.slice A4 L.length c4) L.length (L.flatMap ncell)) := ⟨HO4.out.1.trans (hb5.mono HO4.out.1.size), own_below HO4.out.2 hb5⟩
        clear hb5 HT HO4
        go_wp2_with fail
        go_roundg (m - (k + 1))
        case measure => omega
        case rel => exact ⟨k + 1, by omega, rfl, by go_num, ⟨by rw [HL2.out, HLL.out]; exact HO5.out⟩⟩
    · have hkm : k = m := by omega
      have hT := hst.out
      rw [hkm, List.take_of_length_le (by rw [HM.out]; exact Nat.le_refl _), ← HRL.out] at hT
      have HF : Hidden (wr.ownsRow w.heap.size 3 1 u4 R.length (R.flatMap ncell) ∧ Below w.heap.size w wr) := ⟨own_base hT.2 HB3.out.size, HB3.out.trans (hT.1.mono HB3.out.size)⟩
      have dk : decide ((k : Int) < m) = false := decide_eq_false (by omega)
      have dk' : decide (k < m) = false := decide_eq_false (by omega)
      clear hT hst hkm
      go_wp2_with fail
      go_ret
      exact ⟨_, rfl, HF.out.1, HF.out.2⟩
theorem reachRefs_no (x : Int) (hp : Hp w0 w F h l) (h0 : hE l x ≠ 0) :
    Calls Tryz.prog 11 #[.pointer (some ⟨h, 0, none⟩), .int .i64 x] w fun e w' => e = .returned (.tuple #[.slice none 0 0, errV (hE l x)]) ∧ Below w.heap.size w w' := by
  have HT := Hidden.mk (htag_any x hp)
  obtain ⟨ec, hec⟩ : ∃ ec, hE l x = ec + 1 := ⟨hE l x - 1, by omega⟩
  rw [hec, show errV (ec + 1) = .iface 79 (.int .i64 ((ec + 1 : Nat) : Int)) from rfl] at HT ⊢
  generalize gT l x = tg at *
  generalize ((ec + 1 : Nat) : Int) = ei at *
  clear hp h0 hec
  go_enter Tryz.func11, Tryz.ntmps11
  go_wp2_with fail
  refine HT.out.mono ?_
  rintro e w1 ⟨rfl, hb1⟩
  have HB := Hidden.mk hb1
  clear hb1 HT
  go_wp2_with fail
  go_ret2
  exact ⟨rfl, HB.out⟩
theorem reachRefs_ok (x : Int) (hp : Hp w0 w F h l) (hg : Good l) (h0 : hE l x = 0) :
    Calls Tryz.prog 11 #[.pointer (some ⟨h, 0, none⟩), .int .i64 x] w fun e w' => ∃ v, e = .returned (.tuple #[v, .nilIface]) ∧ w'.ownsRow w.heap.size 3 1 v (refsL l x).length ((refsL l x).flatMap ncell) ∧ Below w.heap.size w w' := by
  have HT := Hidden.mk (htag_any x hp)
  rw [h0, show errV 0 = Value.nilIface from rfl] at HT
  have HR : Hidden (∀ W, Below w.heap.size w W → Calls Tryz.prog 41 #[.pointer (some ⟨h, 0, none⟩), .int .i64 x] W fun e w' => ∃ v, e = .returned v ∧ w'.ownsRow W.heap.size 3 1 v (refsL l x).length ((refsL l x).flatMap ncell) ∧ Below W.heap.size W w') := ⟨fun W hW => refs_any x (hp.below hW) hg⟩
  generalize gT l x = tg at *
  generalize refsL l x = R at *
  clear hp hg h0
  go_enter Tryz.func11, Tryz.ntmps11
  go_wp2_with fail
  refine HT.out.mono ?_
  rintro e w1 ⟨rfl, hb1⟩
  have HB := Hidden.mk hb1
  clear hb1 HT
  go_wp2_with fail
  refine (HR.out w1 HB.out).mono ?_
  rintro e w2 ⟨v, rfl, hown, hb2⟩
  obtain ⟨A4, c4, rfl, -, -⟩ := own_split hown
  have HF : Hidden (w2.ownsRow w.heap.size 3 1 (.slice A4 R.length c4) R.length (R.flatMap ncell) ∧ Below w.heap.size w w2) := ⟨own_base hown HB.out.size, HB.out.trans (hb2.mono HB.out.size)⟩
  clear hown hb2 HR HB
  go_wp2_with fail
  go_ret2
  exact ⟨_, rfl, HF.out.1, HF.out.2⟩
end
end Go.Proofs.YtcahgmnkphmnhaaGreatDoor
/- Package reach, plain: who is led to, level by level, and by which way. -/
namespace Go.Proofs.YtcahgmnkphmnhaaGreatDoor
open Go.RowKit

def sortNat (L : List Nat) : List Nat := L.mergeSort (fun x y => decide (x ≤ y))
theorem sortNat_mem {L : List Nat} {x : Nat} : x ∈ sortNat L ↔ x ∈ L := by unfold sortNat; exact List.mem_mergeSort
theorem sortNat_len (L : List Nat) : (sortNat L).length = L.length := by unfold sortNat; exact List.length_mergeSort _
theorem sortNat_up (L : List Nat) : (sortNat L).Pairwise (· ≤ ·) := by
  have := List.pairwise_mergeSort (le := fun x y : Nat => decide (x ≤ y)) (fun a b c h1 h2 => by simp only [decide_eq_true_eq] at *; omega) (fun a b => by simp only [Bool.or_eq_true, decide_eq_true_eq]; omega) L
  exact this.imp fun h => of_decide_eq_true h
/-- what compacting leaves, plain -/
def dedup : List Nat → List Nat
  | [] => []
  | [x] => [x]
  | x :: y :: r => if x = y then dedup (y :: r) else x :: dedup (y :: r)
theorem dedup_mem (x : Nat) : ∀ L, x ∈ dedup L ↔ x ∈ L
  | [] => Iff.rfl
  | [y] => Iff.rfl
  | y :: z :: r => by
    unfold dedup
    split
    · rename_i h
      rw [dedup_mem x (z :: r), h]; simp
    · rw [List.mem_cons, dedup_mem x (z :: r), List.mem_cons (b := y)]
theorem dedup_up : ∀ L : List Nat, L.Pairwise (· ≤ ·) → (dedup L).Pairwise (· < ·)
  | [], _ => List.Pairwise.nil
  | [y], _ => List.pairwise_singleton ..
  | y :: z :: r, h => by
    have h1 := (List.pairwise_cons.1 h)
    unfold dedup
    split
    · exact dedup_up _ h1.2
    · rename_i hn
      refine List.pairwise_cons.2 ⟨fun a ha => ?_, dedup_up _ h1.2⟩
      have ha' := (dedup_mem a _).1 ha
      have h2 := List.pairwise_cons.1 h1.2
      have hyz := h1.1 z (List.mem_cons_self ..)
      rcases List.mem_cons.1 ha' with rfl | hr
      · omega
      · have := h2.1 a hr; omega
theorem mem_compact {L : List Int} {x : Int} : x ∈ Lib.compact L ↔ x ∈ L := by
  unfold Lib.compact Lib.compactUpTo
  rw [List.mem_map]
  constructor
  · rintro ⟨j, hj, rfl⟩
    have hj' := List.mem_range.1 (List.mem_filter.1 hj).1
    rw [getElem!_pos _ j (by simpa using hj')]
    simp
  · intro hx
    have hex : ∃ j : Nat, ∃ h : j < L.length, L[j] = x := by
      obtain ⟨j, hj, he⟩ := List.getElem_of_mem hx
      exact ⟨j, hj, he⟩
    -- the first place where it stands
    have hmin : ∃ j : Nat, (∃ h : j < L.length, L[j] = x) ∧ ∀ i, i < j → ¬ ∃ h : i < L.length, L[i] = x := by
      obtain ⟨j, hj⟩ := hex
      induction j using Nat.strongRecOn with
      | ind j ih =>
        by_cases hb : ∃ i, i < j ∧ ∃ h : i < L.length, L[i] = x
        · obtain ⟨i, hi, hx'⟩ := hb; exact ih i hi hx'
        · exact ⟨j, hj, fun i hi hx' => hb ⟨i, hi, hx'⟩⟩
    obtain ⟨j, ⟨hj, he⟩, hno⟩ := hmin
    refine ⟨j, List.mem_filter.2 ⟨List.mem_range.2 hj, ?_⟩, ?_⟩
    · unfold Lib.keeps
      refine decide_eq_true ?_
      by_cases h0 : j = 0
      · exact .inl h0
      · refine .inr fun h => hno (j - 1) (by omega) ⟨by omega, ?_⟩
        rw [getElem!_pos _ j (by simpa using hj), getElem!_pos _ (j - 1) (by simp; omega)] at h
        simpa [he] using h.symm
    · rw [getElem!_pos _ j (by simpa using hj)]; simpa using he
theorem compact_up (L : List Int) (h : L.Pairwise (· ≤ ·)) : (Lib.compact L).Pairwise (· < ·) := by
  unfold Lib.compact Lib.compactUpTo
  refine List.pairwise_map.2 ?_
  refine List.Pairwise.imp_of_mem ?_ ((List.pairwise_lt_range (n := L.length)).filter _)
  intro i j hi hj hij
  have hi' := List.mem_range.1 (List.mem_filter.1 hi).1
  have hj' := List.mem_range.1 (List.mem_filter.1 hj).1
  have hk := of_decide_eq_true (List.mem_filter.1 hj).2
  have hp := List.pairwise_iff_getElem.1 h
  rw [getElem!_pos _ i (by simpa using hi'), getElem!_pos _ j (by simpa using hj')]
  rcases hk with h0 | hk
  · omega
  · rw [getElem!_pos _ j (by simpa using hj'), getElem!_pos _ (j - 1) (by simp; omega)] at hk
    have h1 : L[j - 1] ≤ L[j] := hp (j - 1) j (by omega) hj' (by omega)
    have h2 : L[i] ≤ L[j - 1] := by
      by_cases e : i = j - 1
      · subst e; exact Int.le_refl _
      · exact hp i (j - 1) hi' (by omega) (by omega)
    simp only [List.getElem_toArray] at hk ⊢
    omega
/-- two lists that rise and have the same members are one -/
theorem up_ext : ∀ {A B : List Nat}, A.Pairwise (· < ·) → B.Pairwise (· < ·) → (∀ x, x ∈ A ↔ x ∈ B) → A = B
  | [], [], _, _, _ => rfl
  | [], b :: B, _, _, h => absurd ((h b).2 (List.mem_cons_self ..)) (by simp)
  | a :: A, [], _, _, h => absurd ((h a).1 (List.mem_cons_self ..)) (by simp)
  | a :: A, b :: B, hA, hB, h => by
    have ha := List.pairwise_cons.1 hA
    have hb := List.pairwise_cons.1 hB
    have e : a = b := by
      have h1 := (h a).1 (List.mem_cons_self ..)
      have h2 := (h b).2 (List.mem_cons_self ..)
      rcases List.mem_cons.1 h1 with h1 | h1
      · exact h1
      · rcases List.mem_cons.1 h2 with h2 | h2
        · exact h2.symm
        · have := hb.1 _ h1; have := ha.1 _ h2; omega
    subst e
    congr 1
    refine up_ext ha.2 hb.2 fun x => ?_
    constructor
    · intro hx
      rcases List.mem_cons.1 ((h x).1 (List.mem_cons_of_mem _ hx)) with e | hx'
      · subst e; have := ha.1 _ hx; omega
      · exact hx'
    · intro hx
      rcases List.mem_cons.1 ((h x).2 (List.mem_cons_of_mem _ hx)) with e | hx'
      · subst e; have := hb.1 _ hx; omega
      · exact hx'
theorem compact_cast (L : List Nat) : Lib.compact ((sortNat L).map fun i : Nat => (i : Int)) = (dedup (sortNat L)).map fun i : Nat => (i : Int) := by
  have hs : ((sortNat L).map fun i : Nat => (i : Int)).Pairwise (· ≤ ·) := List.pairwise_map.2 ((sortNat_up L).imp fun h => by omega)
  have h1 := compact_up _ hs
  have hc : Lib.compact ((sortNat L).map fun i : Nat => (i : Int)) = ((Lib.compact ((sortNat L).map fun i : Nat => (i : Int))).map Int.toNat).map fun i : Nat => (i : Int) := by
    rw [List.map_map]
    conv => lhs; rw [← List.map_id (Lib.compact _)]
    refine List.map_congr_left fun x hx => ?_
    obtain ⟨k, -, rfl⟩ := List.mem_map.1 (mem_compact.1 hx)
    simp
  rw [hc]
  congr 1
  refine up_ext ?_ (dedup_up _ (sortNat_up L)) fun x => ?_
  · refine List.pairwise_map.2 (h1.imp_of_mem fun {a b} ha hb hab => ?_)
    obtain ⟨k, -, rfl⟩ := List.mem_map.1 (mem_compact.1 ha)
    obtain ⟨m, -, rfl⟩ := List.mem_map.1 (mem_compact.1 hb)
    simp only [Int.toNat_natCast]; omega
  · rw [dedup_mem, List.mem_map]
    constructor
    · rintro ⟨y, hy, rfl⟩
      obtain ⟨k, hk, rfl⟩ := List.mem_map.1 (mem_compact.1 hy)
      simpa using hk
    · intro hx
      exact ⟨(x : Int), mem_compact.2 (List.mem_map.2 ⟨x, hx, rfl⟩), by simp⟩

/-- ways: to each object that is led to, the way there -/
abbrev Ways := Nat → Option (List Nat)
/-- who is ahead of the last one; the last one, if nobody is -/
def par (p : List Nat) : Nat := p.dropLast.getLast?.getD (p.getLast?.getD 0)
theorem par_one (y : Nat) : par [y] = y := rfl
theorem par_two (q : List Nat) (x y : Nat) : par (q ++ [x, y]) = x := by
  unfold par
  rw [show q ++ [x, y] = (q ++ [x]) ++ [y] by simp, List.dropLast_concat, List.getLast?_concat]; rfl
def wset (W : Ways) (y : Nat) (p : List Nat) : Ways := fun q => if q = y then some p else W q
def wayOf (W : Ways) (x : Nat) : List Nat := (W x).getD []
def stepY (x : Nat) (s : Ways × List Nat) (y : Nat) : Ways × List Nat := if (s.1 y).isSome then s else (wset s.1 y (wayOf s.1 x ++ [y]), s.2 ++ [y])
def stepX (l : Bytes) (s : Ways × List Nat) (x : Nat) : Ways × List Nat := (sortNat (refsL l (x : Int))).foldl (stepY x) s
def lvl (l : Bytes) (s : Ways × List Nat) : Ways × List Nat := s.2.foldl (stepX l) (s.1, [])
def rootsH (l : Bytes) : List Nat := (rootsL l).map (·.2)
def startW (l : Bytes) : Ways := fun q => if q ∈ rootsH l then some [q] else none
def lvlN (l : Bytes) : Nat → Ways × List Nat
  | 0 => (startW l, dedup (sortNat (rootsH l)))
  | k + 1 => lvl l (lvlN l k)
def fromW (l : Bytes) : Ways := (lvlN l 41).1

/-- what holds of ways while they are found: D is who has one -/
structure WOk (l : Bytes) (W : Ways) (D : List Nat) : Prop where
  dn : D.Nodup
  dk : ∀ k, (W k).isSome = true ↔ k ∈ D
  dh : ∀ k ∈ D, hE l (k : Int) = 0
  ways : ∀ y p, W y = some p → ∃ q, p = q ++ [y] ∧ ((q = [] ∧ y ∈ rootsH l) ∨ ∃ x, W x = some q ∧ y ∈ refsL l (x : Int))
  roots : ∀ r ∈ rootsH l, W r = some [r]
theorem hE_nat {l : Bytes} {k : Nat} (h : hE l (k : Int) = 0) : 1 ≤ k ∧ k ≤ 40 := by
  obtain ⟨j, hj, e, -⟩ := hE_zero h
  omega
theorem nodup_le1 {D : List Nat} (hn : D.Nodup) {m : Nat} (h : ∀ k ∈ D, 1 ≤ k ∧ k ≤ m) : D.length ≤ m := by
  have hs : D ⊆ (List.range m).map (· + 1) := fun k hk => by
    have := h k hk
    exact List.mem_map.2 ⟨k - 1, List.mem_range.2 (by omega), by omega⟩
  have := hn.length_le_of_subset hs
  simpa using this
theorem WOk.le {l : Bytes} {W : Ways} {D : List Nat} (h : WOk l W D) : D.length ≤ 40 := nodup_le1 h.dn fun k hk => hE_nat (h.dh k hk)
theorem refsL_mem {l : Bytes} {x y : Int} {z : Nat} (h : z ∈ refsL l x) : hE l (z : Int) = 0 := by
  unfold refsL at h
  have := refsB_mem l (readL l x 0 (min (gL l x) (gT l x))) _ (Nat.le_refl _) z
  rw [List.take_length] at this
  exact this h
theorem rootsH_mem {l : Bytes} (hg : Good l) {r : Nat} (h : r ∈ rootsH l) : hE l (r : Int) = 0 := by
  unfold rootsH at h
  obtain ⟨x, hx, rfl⟩ := List.mem_map.1 h
  exact (good_roots hg hx).2.2
theorem startW_ok {l : Bytes} (hg : Good l) : WOk l (startW l) (dedup (sortNat (rootsH l))) where
  dn := (dedup_up _ (sortNat_up _)).imp fun h => by omega
  dk k := by
    rw [dedup_mem, sortNat_mem]; unfold startW; split <;> simp_all
  dh k hk := rootsH_mem hg (sortNat_mem.1 ((dedup_mem _ _).1 hk))
  ways y p h := by
    unfold startW at h; split at h
    · rename_i hy; cases h; exact ⟨[], rfl, .inl ⟨rfl, hy⟩⟩
    · cases h
  roots r hr := by unfold startW; rw [if_pos hr]
theorem WOk.set {l : Bytes} {W : Ways} {D : List Nat} (h : WOk l W D) {x y : Nat} (hx : x ∈ D) (hy : y ∉ D) (hr : y ∈ refsL l (x : Int)) : WOk l (wset W y (wayOf W x ++ [y])) (D ++ [y]) := by
  obtain ⟨q, hq⟩ := Option.isSome_iff_exists.1 ((h.dk x).2 hx)
  have hne : ∀ k, k ∈ D → k ≠ y := fun k hk e => hy (e ▸ hk)
  have hold : ∀ k, k ∈ D → wset W y (wayOf W x ++ [y]) k = W k := fun k hk => by unfold wset; rw [if_neg (hne k hk)]
  have hin : ∀ k p, W k = some p → k ∈ D := fun k p hk => (h.dk k).1 (by rw [hk]; rfl)
  refine ⟨?_, fun k => ?_, fun k hk => ?_, fun k p hk => ?_, fun r hr => ?_⟩
  · exact List.nodup_append.2 ⟨h.dn, by simp, fun a ha b hb => by simp only [List.mem_singleton] at hb; subst hb; exact hne a ha⟩
  · by_cases e : k = y
    · subst e; unfold wset; simp
    · unfold wset; rw [if_neg e, h.dk k]; simp [e]
  · rcases List.mem_append.1 hk with hk | hk
    · exact h.dh k hk
    · simp only [List.mem_singleton] at hk; subst hk; exact refsL_mem (y := 0) hr
  · by_cases e : k = y
    · subst e
      unfold wset at hk; rw [if_pos rfl] at hk
      cases hk
      refine ⟨_, rfl, .inr ⟨x, ?_, hr⟩⟩
      rw [hold x hx, hq]; unfold wayOf; rw [hq]; rfl
    · unfold wset at hk; rw [if_neg e] at hk
      obtain ⟨q', e1, h1⟩ := h.ways k p hk
      refine ⟨q', e1, h1.imp id fun ⟨x', e2, e3⟩ => ⟨x', ?_, e3⟩⟩
      rw [hold x' (hin _ _ e2)]; exact e2
  · rw [hold r ((h.dk r).1 (by rw [h.roots r hr]; rfl))]; exact h.roots r hr
/-- a level that is under way: ways W of D, of which N are new -/
structure LOk (l : Bytes) (s : Ways × List Nat) (D : List Nat) (W0 : Ways) (D0 : List Nat) : Prop where
  ok : WOk l s.1 D
  spl : D = D0 ++ s.2
  old : ∀ k, k ∈ D0 → s.1 k = W0 k
theorem LOk.stepY {l : Bytes} {s : Ways × List Nat} {D D0 : List Nat} {W0 : Ways} (h : LOk l s D W0 D0) {x y : Nat} (hx : x ∈ D0) (hr : y ∈ refsL l (x : Int)) :
    ∃ D', LOk l (stepY x s y) D' W0 D0 ∧ y ∈ D' ∧ (∀ k ∈ D, k ∈ D') ∧ D'.length = (if (s.1 y).isSome then D.length else D.length + 1) := by
  unfold Go.Proofs.YtcahgmnkphmnhaaGreatDoor.stepY
  by_cases hy : (s.1 y).isSome
  · rw [if_pos hy, if_pos hy]
    exact ⟨D, h, (h.ok.dk y).1 hy, fun _ hk => hk, rfl⟩
  · rw [if_neg hy, if_neg hy]
    have hyD : y ∉ D := fun hk => hy ((h.ok.dk y).2 hk)
    have hxD : x ∈ D := by rw [h.spl]; exact List.mem_append_left _ hx
    refine ⟨D ++ [y], ⟨h.ok.set hxD hyD hr, by rw [h.spl, List.append_assoc], fun k hk => ?_⟩, by simp, fun k hk => List.mem_append_left _ hk, by simp⟩
    have hk' : k ≠ y := fun e => hyD (by rw [h.spl, ← e]; exact List.mem_append_left _ hk)
    show wset s.1 y _ k = _
    unfold wset; rw [if_neg hk']; exact h.old k hk
theorem LOk.foldY {l : Bytes} {D0 : List Nat} {W0 : Ways} {x : Nat} (hx : x ∈ D0) : ∀ (L : List Nat) (s : Ways × List Nat) (D : List Nat), LOk l s D W0 D0 → (∀ y ∈ L, y ∈ refsL l (x : Int)) →
    ∃ D', LOk l (L.foldl (Go.Proofs.YtcahgmnkphmnhaaGreatDoor.stepY x) s) D' W0 D0 ∧ (∀ y ∈ L, y ∈ D') ∧ (∀ k ∈ D, k ∈ D')
  | [], s, D, h, _ => ⟨D, h, fun _ hy => by simp at hy, fun _ hk => hk⟩
  | y :: L, s, D, h, hL => by
    obtain ⟨D1, h1, hy1, hd1, -⟩ := h.stepY hx (hL y (List.mem_cons_self ..))
    obtain ⟨D2, h2, hy2, hd2⟩ := LOk.foldY hx L _ D1 h1 (fun z hz => hL z (List.mem_cons_of_mem _ hz))
    refine ⟨D2, h2, fun z hz => ?_, fun k hk => hd2 k (hd1 k hk)⟩
    rcases List.mem_cons.1 hz with rfl | hz
    · exact hd2 _ hy1
    · exact hy2 z hz
theorem LOk.stepX {l : Bytes} {s : Ways × List Nat} {D D0 : List Nat} {W0 : Ways} (h : LOk l s D W0 D0) {x : Nat} (hx : x ∈ D0) :
    ∃ D', LOk l (stepX l s x) D' W0 D0 ∧ (∀ y ∈ refsL l (x : Int), y ∈ D') ∧ (∀ k ∈ D, k ∈ D') := by
  obtain ⟨D', h1, h2, h3⟩ := LOk.foldY hx (sortNat (refsL l (x : Int))) s D h (fun y hy => sortNat_mem.1 hy)
  exact ⟨D', h1, fun y hy => h2 y (sortNat_mem.2 hy), h3⟩
theorem LOk.foldX {l : Bytes} {D0 : List Nat} {W0 : Ways} : ∀ (L : List Nat) (s : Ways × List Nat) (D : List Nat), LOk l s D W0 D0 → (∀ x ∈ L, x ∈ D0) →
    ∃ D', LOk l (L.foldl (Go.Proofs.YtcahgmnkphmnhaaGreatDoor.stepX l) s) D' W0 D0 ∧ (∀ x ∈ L, ∀ y ∈ refsL l (x : Int), y ∈ D') ∧ (∀ k ∈ D, k ∈ D')
  | [], s, D, h, _ => ⟨D, h, fun _ hy => by simp at hy, fun _ hk => hk⟩
  | x :: L, s, D, h, hL => by
    obtain ⟨D1, h1, hy1, hd1⟩ := h.stepX (hL x (List.mem_cons_self ..))
    obtain ⟨D2, h2, hy2, hd2⟩ := LOk.foldX L _ D1 h1 (fun z hz => hL z (List.mem_cons_of_mem _ hz))
    refine ⟨D2, h2, fun z hz => ?_, fun k hk => hd2 k (hd1 k hk)⟩
    rcases List.mem_cons.1 hz with rfl | hz
    · exact fun y hy => hd2 _ (hy1 y hy)
    · exact hy2 z hz
/-- between two levels: D has ways, row are those that have not been asked yet -/
structure LvOk (l : Bytes) (s : Ways × List Nat) (D : List Nat) : Prop where
  ok : WOk l s.1 D
  row : ∀ x ∈ s.2, x ∈ D
  closed : ∀ x ∈ D, x ∉ s.2 → ∀ y ∈ refsL l (x : Int), y ∈ D
theorem LvOk.start {l : Bytes} (hg : Good l) : LvOk l (lvlN l 0) (dedup (sortNat (rootsH l))) := ⟨startW_ok hg, fun _ h => h, fun x h hn => absurd h hn⟩
theorem LvOk.next {l : Bytes} {s : Ways × List Nat} {D : List Nat} (h : LvOk l s D) : ∃ D', LvOk l (lvl l s) D' ∧ D'.length = D.length + (lvl l s).2.length ∧ (∀ k ∈ D, k ∈ D') := by
  obtain ⟨D', h1, h2, h3⟩ := LOk.foldX (l := l) (D0 := D) (W0 := s.1) s.2 (s.1, []) D ⟨h.ok, by simp, fun _ _ => rfl⟩ h.row
  refine ⟨D', ⟨h1.ok, fun x hx => by rw [h1.spl]; exact List.mem_append_right _ hx, fun x hx hn y hy => ?_⟩, by rw [h1.spl, List.length_append]; rfl, h3⟩
  have hxD : x ∈ D := by
    rw [h1.spl] at hx
    rcases List.mem_append.1 hx with hx | hx
    · exact hx
    · exact absurd hx hn
  by_cases hr : x ∈ s.2
  · exact h2 x hr y hy
  · exact h3 y (h.closed x hxD hr y hy)
theorem lvl_nil (l : Bytes) (W : Ways) : lvl l (W, []) = (W, []) := rfl
theorem LvOk.at_ {l : Bytes} (hg : Good l) : ∀ k, ∃ D, LvOk l (lvlN l k) D ∧ ((lvlN l k).2 = [] ∨ k < D.length)
  | 0 => by
    refine ⟨_, LvOk.start hg, ?_⟩
    by_cases h : (lvlN l 0).2 = []
    · exact .inl h
    · exact .inr (List.length_pos_iff.2 h)
  | k + 1 => by
    obtain ⟨D, h, hd⟩ := LvOk.at_ hg k
    obtain ⟨D', h', hl, -⟩ := h.next
    refine ⟨D', h', ?_⟩
    by_cases hn : (lvlN l (k + 1)).2 = []
    · exact .inl hn
    · right
      have hp : 0 < (lvl l (lvlN l k)).2.length := List.length_pos_iff.2 hn
      rcases hd with hd | hd
      · refine absurd ?_ hn
        show (lvl l (lvlN l k)).2 = []
        have e : lvlN l k = ((lvlN l k).1, []) := by rw [← hd]
        rw [e]; rfl
      · omega
theorem lvlN_end {l : Bytes} (hg : Good l) : (lvlN l 41).2 = [] := by
  obtain ⟨D, h, hd⟩ := LvOk.at_ hg 41
  rcases hd with hd | hd
  · exact hd
  · have := h.ok.le; omega
/-- once a row is empty nothing more comes -/
theorem lvlN_stop {l : Bytes} {k : Nat} (h : (lvlN l k).2 = []) : ∀ m, lvlN l (k + m) = lvlN l k
  | 0 => rfl
  | m + 1 => by
    show lvl l (lvlN l (k + m)) = _
    rw [lvlN_stop h m]
    have e : lvlN l k = ((lvlN l k).1, []) := by rw [← h]
    rw [e]; rfl
theorem fromW_of {l : Bytes} {k : Nat} (hk : k ≤ 41) (h : (lvlN l k).2 = []) : (lvlN l k).1 = fromW l := by
  unfold fromW
  rw [show 41 = k + (41 - k) by omega, lvlN_stop h]
/-- what the whole of it comes to -/
theorem fromW_ok {l : Bytes} (hg : Good l) : ∃ D, WOk l (fromW l) D ∧ ∀ x ∈ D, ∀ y ∈ refsL l (x : Int), y ∈ D := by
  obtain ⟨D, h, -⟩ := LvOk.at_ hg 41
  exact ⟨D, h.ok, fun x hx => h.closed x hx (by rw [lvlN_end hg]; simp)⟩
end Go.Proofs.YtcahgmnkphmnhaaGreatDoor
/- Package reach, plain: of all ways the least one. -/
namespace Go.Proofs.YtcahgmnkphmnhaaGreatDoor
open Go.RowKit

def lexLt : List Nat → List Nat → Bool
  | x :: a, y :: b => if x = y then lexLt a b else decide (x < y)
  | _, _ => false
/-- one way is ahead of another -/
def lessW (a b : List Nat) : Bool := if a.length = b.length then lexLt a b else decide (a.length < b.length)
theorem lexLt_irrefl : ∀ a, lexLt a a = false
  | [] => rfl
  | x :: a => by unfold lexLt; rw [if_pos rfl]; exact lexLt_irrefl a
theorem lexLt_trans : ∀ {a b c : List Nat}, lexLt a b = true → lexLt b c = true → lexLt a c = true
  | [], _, _, h, _ => by simp [lexLt] at h
  | _ :: _, [], _, h, _ => by simp [lexLt] at h
  | _ :: _, _ :: _, [], _, h => by simp [lexLt] at h
  | x :: a, y :: b, z :: c, h1, h2 => by
    unfold lexLt at *
    by_cases e1 : x = y
    · subst e1
      rw [if_pos rfl] at h1
      by_cases e2 : x = z
      · subst e2; rw [if_pos rfl] at h2 ⊢; exact lexLt_trans h1 h2
      · rw [if_neg e2] at h2 ⊢; exact h2
    · rw [if_neg e1] at h1
      by_cases e2 : y = z
      · subst e2; rw [if_neg e1]; exact h1
      · rw [if_neg e2] at h2
        have h1' := of_decide_eq_true h1
        have h2' := of_decide_eq_true h2
        rw [if_neg (by omega)]; exact decide_eq_true (by omega)
theorem lexLt_total : ∀ {a b : List Nat}, a.length = b.length → lexLt a b = false → lexLt b a = false → a = b
  | [], [], _, _, _ => rfl
  | [], _ :: _, h, _, _ => by simp at h
  | _ :: _, [], h, _, _ => by simp at h
  | x :: a, y :: b, h, h1, h2 => by
    unfold lexLt at *
    by_cases e : x = y
    · subst e
      rw [if_pos rfl] at h1 h2
      rw [lexLt_total (by simpa using h) h1 h2]
    · rw [if_neg e] at h1
      rw [if_neg (fun e' => e e'.symm)] at h2
      have := of_decide_eq_false h1
      have := of_decide_eq_false h2
      omega
theorem lessW_irrefl (a : List Nat) : lessW a a = false := by unfold lessW; rw [if_pos rfl]; exact lexLt_irrefl a
theorem lessW_trans {a b c : List Nat} (h1 : lessW a b = true) (h2 : lessW b c = true) : lessW a c = true := by
  unfold lessW at *
  by_cases e1 : a.length = b.length
  · rw [if_pos e1] at h1
    by_cases e2 : b.length = c.length
    · rw [if_pos e2] at h2; rw [if_pos (e1.trans e2)]; exact lexLt_trans h1 h2
    · rw [if_neg e2] at h2; rw [if_neg (by omega)]
      have := of_decide_eq_true h2
      exact decide_eq_true (by omega)
  · rw [if_neg e1] at h1
    have h1' := of_decide_eq_true h1
    by_cases e2 : b.length = c.length
    · rw [if_neg (by omega)]; exact decide_eq_true (by omega)
    · rw [if_neg e2] at h2
      have h2' := of_decide_eq_true h2
      rw [if_neg (by omega)]; exact decide_eq_true (by omega)
theorem lessW_total {a b : List Nat} (h1 : lessW a b = false) (h2 : lessW b a = false) : a = b := by
  unfold lessW at *
  by_cases e : a.length = b.length
  · rw [if_pos e] at h1; rw [if_pos e.symm] at h2; exact lexLt_total e h1 h2
  · rw [if_neg e] at h1; rw [if_neg (fun x => e x.symm)] at h2
    have := of_decide_eq_false h1
    have := of_decide_eq_false h2
    omega
/-- not behind: a is b, or ahead of it -/
def leW (a b : List Nat) : Prop := lessW b a = false
theorem leW_refl (a : List Nat) : leW a a := lessW_irrefl a
theorem leW_of_less {a b : List Nat} (h : lessW a b = true) : leW a b := by
  unfold leW
  cases h2 : lessW b a with
  | false => rfl
  | true => have := lessW_trans h h2; rw [lessW_irrefl] at this; cases this
theorem leW_cases {a b : List Nat} (h : leW a b) : a = b ∨ lessW a b = true := by
  cases h2 : lessW a b with
  | true => exact .inr rfl
  | false => exact .inl (lessW_total h2 h)
theorem leW_trans {a b c : List Nat} (h1 : leW a b) (h2 : leW b c) : leW a c := by
  rcases leW_cases h1 with rfl | h1
  · exact h2
  · rcases leW_cases h2 with rfl | h2
    · exact leW_of_less h1
    · exact leW_of_less (lessW_trans h1 h2)
theorem leW_antisymm {a b : List Nat} (h1 : leW a b) (h2 : leW b a) : a = b := lessW_total h2 h1
theorem leW_short {a b : List Nat} (h : a.length < b.length) : leW a b := leW_of_less (by unfold lessW; rw [if_neg (by omega)]; exact decide_eq_true h)
theorem leW_len {a b : List Nat} (h : leW a b) : a.length ≤ b.length := by
  rcases leW_cases h with rfl | h
  · exact Nat.le_refl _
  · unfold lessW at h
    by_cases e : a.length = b.length
    · omega
    · rw [if_neg e] at h; have := of_decide_eq_true h; omega
theorem lexLt_append : ∀ {a b : List Nat} (c d : List Nat), a.length = b.length → lexLt a b = true → lexLt (a ++ c) (b ++ d) = true
  | [], [], _, _, _, h => by simp [lexLt] at h
  | [], _ :: _, _, _, h, _ => by simp at h
  | _ :: _, [], _, _, h, _ => by simp at h
  | x :: a, y :: b, c, d, h, h1 => by
    rw [List.cons_append, List.cons_append]
    unfold lexLt at *
    by_cases e : x = y
    · rw [if_pos e] at h1 ⊢; exact lexLt_append c d (by simpa using h) h1
    · rw [if_neg e] at h1 ⊢; exact h1
theorem lexLt_same : ∀ (a c d : List Nat), lexLt (a ++ c) (a ++ d) = lexLt c d
  | [], _, _ => rfl
  | x :: a, c, d => by rw [List.cons_append, List.cons_append]; conv => lhs; unfold lexLt
                       rw [if_pos rfl]; exact lexLt_same a c d
theorem lessW_snoc {a b : List Nat} (x y : Nat) (h : lessW a b = true) : lessW (a ++ [x]) (b ++ [y]) = true := by
  unfold lessW at *
  simp only [List.length_append, List.length_cons, List.length_nil]
  by_cases e : a.length = b.length
  · rw [if_pos e] at h; rw [if_pos (by omega)]; exact lexLt_append _ _ e h
  · rw [if_neg e] at h; have := of_decide_eq_true h; rw [if_neg (by omega)]; exact decide_eq_true (by omega)
theorem lessW_last (a : List Nat) {x y : Nat} (h : x < y) : lessW (a ++ [x]) (a ++ [y]) = true := by
  unfold lessW
  rw [if_pos (by simp), lexLt_same]
  unfold lexLt; rw [if_neg (by omega)]; exact decide_eq_true h
theorem leW_snoc {a b : List Nat} (y : Nat) (h : leW a b) : leW (a ++ [y]) (b ++ [y]) := by
  rcases leW_cases h with rfl | h
  · exact leW_refl _
  · exact leW_of_less (lessW_snoc y y h)
/-- a way: from a root, link by link -/
inductive IsWay (l : Bytes) : List Nat → Nat → Prop
  | root {r : Nat} (h : r ∈ rootsH l) : IsWay l [r] r
  | step {q : List Nat} {x y : Nat} (h : IsWay l q x) (hy : y ∈ refsL l (x : Int)) : IsWay l (q ++ [y]) y
theorem IsWay.last {l : Bytes} {p : List Nat} {y : Nat} (h : IsWay l p y) : ∃ q, p = q ++ [y] := by
  cases h with
  | root h => exact ⟨[], rfl⟩
  | step h hy => exact ⟨_, rfl⟩
theorem IsWay.pos {l : Bytes} {p : List Nat} {y : Nat} (h : IsWay l p y) : 1 ≤ p.length := by
  obtain ⟨q, rfl⟩ := h.last; simp
theorem WOk.isWay {l : Bytes} {W : Ways} {D : List Nat} (h : WOk l W D) : ∀ (n : Nat) (y : Nat) (p : List Nat), p.length ≤ n → W y = some p → IsWay l p y
  | 0, y, p, hn, hp => by
    obtain ⟨q, e, -⟩ := h.ways y p hp
    subst e; simp at hn
  | n + 1, y, p, hn, hp => by
    obtain ⟨q, e, h1⟩ := h.ways y p hp
    subst e
    rcases h1 with ⟨rfl, hr⟩ | ⟨x, h2, h3⟩
    · exact .root hr
    · exact .step (WOk.isWay h n x q (by simp at hn; omega) h2) h3
/-- the level k: the ways so far are no longer than k + 1, the row are those of k + 1, in the order of their ways, and none is behind another way -/
structure MinOk (l : Bytes) (k : Nat) (s : Ways × List Nat) : Prop where
  len : ∀ y p, s.1 y = some p → p.length ≤ k + 1
  row : ∀ x ∈ s.2, (wayOf s.1 x).length = k + 1 ∧ (s.1 x).isSome = true
  ord : s.2.Pairwise fun x y => lessW (wayOf s.1 x) (wayOf s.1 y) = true
  all : ∀ y p, s.1 y = some p → p.length = k + 1 → y ∈ s.2
  least : ∀ p y, IsWay l p y → p.length ≤ k + 1 → ∃ p', s.1 y = some p' ∧ leW p' p
theorem MinOk.start {l : Bytes} : MinOk l 0 (lvlN l 0) where
  len y p h := by
    unfold lvlN startW at h; dsimp only at h
    split at h
    · cases h; simp
    · cases h
  row x hx := by
    have hx' : x ∈ rootsH l := sortNat_mem.1 ((dedup_mem _ _).1 hx)
    unfold lvlN startW wayOf; dsimp only
    rw [if_pos hx']; exact ⟨rfl, rfl⟩
  ord := by
    refine List.Pairwise.imp_of_mem ?_ (dedup_up _ (sortNat_up (rootsH l)))
    intro a b ha hb hab
    have ha' : a ∈ rootsH l := sortNat_mem.1 ((dedup_mem _ _).1 ha)
    have hb' : b ∈ rootsH l := sortNat_mem.1 ((dedup_mem _ _).1 hb)
    unfold lvlN startW wayOf; dsimp only
    rw [if_pos ha', if_pos hb']
    exact lessW_last [] hab
  all y p h hl := by
    unfold lvlN startW at h; dsimp only at h
    split at h
    · rename_i hr; exact (dedup_mem _ _).2 (sortNat_mem.2 hr)
    · cases h
  least p y h hl := by
    cases h with
    | root hr => exact ⟨[y], by unfold lvlN startW; dsimp only; rw [if_pos hr], leW_refl _⟩
    | step h hy => have := h.pos; rw [List.length_append] at hl; simp only [List.length_cons, List.length_nil] at hl; omega
/-- in the midst of a level: new ones have ways by those of the row that have been asked, and none is behind another -/
structure MidOk (k : Nat) (W0 : Ways) (s : Ways × List Nat) : Prop where
  keep : ∀ y p, W0 y = some p → s.1 y = some p
  new : ∀ y, W0 y = none → (s.1 y).isSome = true → y ∈ s.2
  row : ∀ y ∈ s.2, W0 y = none ∧ ∃ p, s.1 y = some p ∧ p.length = k + 2
  ord : s.2.Pairwise fun x y => lessW (wayOf s.1 x) (wayOf s.1 y) = true
theorem wayOf_some {W : Ways} {x : Nat} {p : List Nat} (h : W x = some p) : wayOf W x = p := by unfold wayOf; rw [h]; rfl
theorem MidOk.stepY {k : Nat} {W0 : Ways} {s : Ways × List Nat} (h : MidOk k W0 s) {x y : Nat} {q : List Nat} (hx : W0 x = some q) (hq : q.length = k + 1)
    (hb : ∀ z ∈ s.2, z ≠ y → lessW (wayOf s.1 z) (q ++ [y]) = true) :
    MidOk k W0 (stepY x s y) ∧ (∀ z p, s.1 z = some p → (stepY x s y).1 z = some p) ∧ (∃ p, (stepY x s y).1 y = some p) ∧ (s.1 y = none → (stepY x s y).1 y = some (q ++ [y])) ∧ (∀ z ∈ (stepY x s y).2, z ∈ s.2 ∨ (z = y ∧ (stepY x s y).1 y = some (q ++ [y]))) := by
  unfold Go.Proofs.YtcahgmnkphmnhaaGreatDoor.stepY
  by_cases hy : (s.1 y).isSome
  · rw [if_pos hy]
    obtain ⟨p, hp⟩ := Option.isSome_iff_exists.1 hy
    exact ⟨h, fun _ _ hz => hz, ⟨p, hp⟩, (fun e => by rw [e] at hy; cases hy), fun z hz => .inl hz⟩
  · rw [if_neg hy]
    have hyn : s.1 y = none := by simpa using hy
    have hW0 : W0 y = none := by
      cases e : W0 y with
      | none => rfl
      | some p => rw [h.keep y p e] at hyn; cases hyn
    have hxq : wayOf s.1 x = q := wayOf_some (h.keep x q hx)
    rw [hxq]
    have hny : y ∉ s.2 := fun hm => by obtain ⟨_, p, hp, _⟩ := h.row y hm; rw [hp] at hyn; cases hyn
    have hold : ∀ z, z ≠ y → wset s.1 y (q ++ [y]) z = s.1 z := fun z hz => by unfold wset; rw [if_neg hz]
    have hnew : wset s.1 y (q ++ [y]) y = some (q ++ [y]) := by unfold wset; rw [if_pos rfl]
    have hkp : ∀ z p, s.1 z = some p → wset s.1 y (q ++ [y]) z = some p := fun z p hz => by
      rw [hold z (fun e => by rw [e, hyn] at hz; cases hz)]; exact hz
    refine ⟨⟨fun z p hz => hkp z p (h.keep z p hz), fun z hz hs => ?_, fun z hz => ?_, ?_⟩, hkp, ⟨_, hnew⟩, fun _ => hnew, fun z hz => ?_⟩
    · dsimp only at hs ⊢
      by_cases e : z = y
      · subst e; simp
      · rw [hold z e] at hs; exact List.mem_append_left _ (h.new z hz hs)
    · rcases List.mem_append.1 hz with hz | hz
      · obtain ⟨h1, p, h2, h3⟩ := h.row z hz
        exact ⟨h1, p, hkp z p h2, h3⟩
      · simp only [List.mem_singleton] at hz; subst hz
        exact ⟨hW0, _, hnew, by simp; omega⟩
    · refine List.pairwise_append.2 ⟨?_, List.pairwise_singleton .., fun a ha b hb' => ?_⟩
      · refine List.Pairwise.imp_of_mem ?_ h.ord
        intro a b ha hb' hab
        have e1 : wayOf (wset s.1 y (q ++ [y])) a = wayOf s.1 a := by unfold wayOf; rw [hold a (fun e => hny (e ▸ ha))]
        have e2 : wayOf (wset s.1 y (q ++ [y])) b = wayOf s.1 b := by unfold wayOf; rw [hold b (fun e => hny (e ▸ hb'))]
        rw [e1, e2]; exact hab
      · simp only [List.mem_singleton] at hb'; subst hb'
        have hne : a ≠ b := fun e => hny (e ▸ ha)
        have e1 : wayOf (wset s.1 b (q ++ [b])) a = wayOf s.1 a := by unfold wayOf; rw [hold a hne]
        rw [e1, wayOf_some hnew]
        exact hb a ha hne
    · rcases List.mem_append.1 hz with hz | hz
      · exact .inl hz
      · simp only [List.mem_singleton] at hz; exact .inr ⟨hz, hnew⟩
/-- the refs of one of the row -/
theorem MidOk.foldY {k : Nat} {W0 : Ways} {x : Nat} {q : List Nat} (hx : W0 x = some q) (hq : q.length = k + 1) : ∀ (L : List Nat) (s : Ways × List Nat), MidOk k W0 s → L.Pairwise (· ≤ ·) →
    (∀ z ∈ s.2, (∃ a b, wayOf s.1 z = a ++ [b] ∧ lessW a q = true) ∨ (wayOf s.1 z = q ++ [z] ∧ ∀ y ∈ L, z ≤ y)) →
    MidOk k W0 (L.foldl (Go.Proofs.YtcahgmnkphmnhaaGreatDoor.stepY x) s) ∧ (∀ z p, s.1 z = some p → (L.foldl (Go.Proofs.YtcahgmnkphmnhaaGreatDoor.stepY x) s).1 z = some p) ∧ (∀ y ∈ L, ∃ p, (L.foldl (Go.Proofs.YtcahgmnkphmnhaaGreatDoor.stepY x) s).1 y = some p) ∧
      (∀ z, s.1 z = none → ∀ p, (L.foldl (Go.Proofs.YtcahgmnkphmnhaaGreatDoor.stepY x) s).1 z = some p → p = q ++ [z]) ∧
      (∀ z ∈ (L.foldl (Go.Proofs.YtcahgmnkphmnhaaGreatDoor.stepY x) s).2, z ∈ s.2 ∨ wayOf (L.foldl (Go.Proofs.YtcahgmnkphmnhaaGreatDoor.stepY x) s).1 z = q ++ [z])
  | [], s, h, _, _ => ⟨h, fun _ _ hz => hz, (fun y hy => by cases hy), (fun z hz p hp => by rw [List.foldl_nil] at hp; rw [hz] at hp; cases hp), fun z hz => .inl hz⟩
  | y :: L, s, h, hL, hs => by
    have hL' := List.pairwise_cons.1 hL
    obtain ⟨h1, h2, h3, h4, h5⟩ := h.stepY hx hq (y := y) (fun z hz hne => by
      rcases hs z hz with ⟨a, b, e1, e2⟩ | ⟨e1, e2⟩
      · rw [e1]; exact lessW_snoc _ _ e2
      · rw [e1]
        have := e2 y (List.mem_cons_self ..)
        exact lessW_last q (by omega))
    obtain ⟨i1, i2, i3, i4, i5⟩ := MidOk.foldY hx hq L (Go.Proofs.YtcahgmnkphmnhaaGreatDoor.stepY x s y) h1 hL'.2 (fun z hz => by
      rcases h5 z hz with hz' | ⟨rfl, hz'⟩
      · obtain ⟨_, p, hp, _⟩ := h.row z hz'
        have e : wayOf (Go.Proofs.YtcahgmnkphmnhaaGreatDoor.stepY x s y).1 z = wayOf s.1 z := by rw [wayOf_some (h2 z p hp), wayOf_some hp]
        rw [e]
        exact (hs z hz').imp id fun ⟨e1, e2⟩ => ⟨e1, fun y' hy' => e2 y' (List.mem_cons_of_mem _ hy')⟩
      · exact .inr ⟨wayOf_some hz', fun y' hy' => hL'.1 y' hy'⟩)
    rw [List.foldl_cons]
    refine ⟨i1, fun z p hz => i2 z p (h2 z p hz), fun z hz => ?_, fun z hz p hp => ?_, fun z hz => ?_⟩
    · rcases List.mem_cons.1 hz with rfl | hz
      · obtain ⟨p, hp⟩ := h3; exact ⟨p, i2 _ p hp⟩
      · exact i3 z hz
    · cases e : (Go.Proofs.YtcahgmnkphmnhaaGreatDoor.stepY x s y).1 z with
      | none => exact i4 z e p hp
      | some p' =>
        have := i2 z p' e
        rw [this] at hp
        cases hp
        -- it came by this step
        by_cases hzy : z = y
        · subst hzy
          have := h4 hz
          rw [this] at e; cases e; rfl
        · exfalso
          unfold Go.Proofs.YtcahgmnkphmnhaaGreatDoor.stepY at e
          split at e
          · rw [hz] at e; cases e
          · dsimp only at e; unfold wset at e; rw [if_neg hzy, hz] at e; cases e
    · rcases i5 z hz with hz' | hz'
      · rcases h5 z hz' with hz'' | ⟨rfl, hz''⟩
        · exact .inl hz''
        · right; rw [wayOf_some (i2 _ _ hz'')]
      · exact .inr hz'
theorem MidOk.foldX {l : Bytes} {k : Nat} {W0 : Ways} : ∀ (R : List Nat) (s : Ways × List Nat), MidOk k W0 s → (∀ x ∈ R, ∃ q, W0 x = some q ∧ q.length = k + 1) → R.Pairwise (fun x y => lessW (wayOf W0 x) (wayOf W0 y) = true) →
    (∀ z ∈ s.2, ∀ x ∈ R, ∃ a b, wayOf s.1 z = a ++ [b] ∧ lessW a (wayOf W0 x) = true) →
    MidOk k W0 (R.foldl (stepX l) s) ∧ (∀ z p, s.1 z = some p → (R.foldl (stepX l) s).1 z = some p) ∧ (∀ x ∈ R, ∀ y ∈ refsL l (x : Int), ∃ p, (R.foldl (stepX l) s).1 y = some p ∧ (s.1 y = none → leW p (wayOf W0 x ++ [y])))
  | [], s, h, _, _, _ => ⟨h, fun _ _ hz => hz, fun x hx => by cases hx⟩
  | x :: R, s, h, hR, ho, hs => by
    obtain ⟨q, hq, hql⟩ := hR x (List.mem_cons_self ..)
    have ho' := List.pairwise_cons.1 ho
    obtain ⟨i1, i2, i3, i4, i5⟩ := MidOk.foldY hq hql (sortNat (refsL l (x : Int))) s h (sortNat_up _) (fun z hz => .inl (by
      obtain ⟨a, b, e1, e2⟩ := hs z hz x (List.mem_cons_self ..)
      rw [wayOf_some hq] at e2
      exact ⟨a, b, e1, e2⟩))
    have hst : stepX l s x = (sortNat (refsL l (x : Int))).foldl (Go.Proofs.YtcahgmnkphmnhaaGreatDoor.stepY x) s := rfl
    rw [← hst] at i1 i2 i3 i4 i5
    obtain ⟨j1, j2, j3⟩ := MidOk.foldX R (stepX l s x) i1 (fun z hz => hR z (List.mem_cons_of_mem _ hz)) ho'.2 (fun z hz x' hx' => by
      rcases i5 z hz with hz' | hz'
      · obtain ⟨a, b, e1, e2⟩ := hs z hz' x' (List.mem_cons_of_mem _ hx')
        obtain ⟨_, p, hp, _⟩ := h.row z hz'
        exact ⟨a, b, by rw [wayOf_some (i2 z p hp), ← wayOf_some hp]; exact e1, e2⟩
      · refine ⟨q, z, hz', ?_⟩
        have := ho'.1 x' hx'
        rwa [wayOf_some hq] at this)
    rw [List.foldl_cons]
    refine ⟨j1, fun z p hz => j2 z p (i2 z p hz), fun x' hx' y hy => ?_⟩
    rcases List.mem_cons.1 hx' with rfl | hx'
    · obtain ⟨p, hp⟩ := i3 y (sortNat_mem.2 hy)
      refine ⟨p, j2 y p hp, fun hn => ?_⟩
      rw [i4 y hn p hp, wayOf_some hq]; exact leW_refl _
    · obtain ⟨p, hp, hle⟩ := j3 x' hx' y hy
      refine ⟨p, hp, fun hn => ?_⟩
      cases e : (stepX l s x).1 y with
      | none => exact hle e
      | some p' =>
        have := j2 y p' e
        rw [this] at hp; cases hp
        rw [i4 y hn p e]
        have := ho'.1 x' hx'
        rw [wayOf_some hq] at this
        exact leW_of_less (lessW_snoc _ _ this)
theorem MinOk.next {l : Bytes} {k : Nat} {s : Ways × List Nat} {D : List Nat} (h : MinOk l k s) (hl : LvOk l s D) : MinOk l (k + 1) (lvl l s) := by
  obtain ⟨i1, i2, i3⟩ := MidOk.foldX (l := l) (k := k) (W0 := s.1) s.2 (s.1, []) ⟨fun _ _ hz => hz, (fun y hy hs => by dsimp only at hs; rw [hy] at hs; cases hs), (fun y hy => by cases hy), List.Pairwise.nil⟩ (fun x hx => by
      obtain ⟨h1, h2⟩ := h.row x hx
      obtain ⟨q, hq⟩ := Option.isSome_iff_exists.1 h2
      exact ⟨q, hq, by rw [wayOf_some hq] at h1; exact h1⟩) h.ord (fun z hz => by cases hz)
  have hlv : lvl l s = s.2.foldl (stepX l) (s.1, []) := rfl
  rw [← hlv] at i1 i2 i3
  dsimp only at i2 i3
  refine ⟨fun y p hp => ?_, fun x hx => ?_, i1.ord, fun y p hp hpl => ?_, fun p y hw hpl => ?_⟩
  · cases e : s.1 y with
    | some p' => rw [i2 y p' e] at hp; cases hp; have := h.len y _ e; omega
    | none =>
      obtain ⟨_, p', hp', hl'⟩ := i1.row y (i1.new y e (by rw [hp]; rfl))
      rw [hp'] at hp; cases hp; omega
  · obtain ⟨_, p, hp, hpl⟩ := i1.row x hx
    rw [wayOf_some hp, hp]; exact ⟨by omega, rfl⟩
  · cases e : s.1 y with
    | some p' => rw [i2 y p' e] at hp; cases hp; have := h.len y _ e; omega
    | none => exact i1.new y e (by rw [hp]; rfl)
  · by_cases hs : p.length ≤ k + 1
    · obtain ⟨p', h1, h2⟩ := h.least p y hw hs
      exact ⟨p', i2 y p' h1, h2⟩
    · cases hw with
      | root hr => simp at hs
      | @step q x _ hq hy =>
        simp only [List.length_append, List.length_cons, List.length_nil] at hpl hs
        obtain ⟨q', h1, h2⟩ := h.least q x hq (by omega)
        have hq1 := h.len x q' h1
        cases e : s.1 y with
        | some p' =>
          have := h.len y p' e
          exact ⟨p', i2 y p' e, leW_short (by simp; omega)⟩
        | none =>
          by_cases hx : x ∈ s.2
          · obtain ⟨p', h3, h4⟩ := i3 x hx y hy
            refine ⟨p', h3, leW_trans (h4 e) ?_⟩
            rw [wayOf_some h1]; exact leW_snoc y h2
          · exfalso
            have hxD : x ∈ D := (hl.ok.dk x).1 (by rw [h1]; rfl)
            have := (hl.ok.dk y).2 (hl.closed x hxD hx y hy)
            rw [e] at this; cases this
theorem MinOk.at_ {l : Bytes} (hg : Good l) : ∀ k, MinOk l k (lvlN l k)
  | 0 => MinOk.start
  | k + 1 => by
    obtain ⟨D, hD, -⟩ := LvOk.at_ hg k
    exact (MinOk.at_ hg k).next hD
/-- of all ways to an object the program's is the least -/
theorem fromW_least {l : Bytes} (hg : Good l) {p : List Nat} {y : Nat} (h : IsWay l p y) : ∃ p', fromW l y = some p' ∧ leW p' p ∧ IsWay l p' y := by
  obtain ⟨D, hD, hc⟩ := fromW_ok hg
  have hm := MinOk.at_ hg 41
  have hin : ∀ p y, IsWay l p y → y ∈ D := fun p y hw => by
    induction hw with
    | root hr => exact (hD.dk _).1 (by rw [hD.roots _ hr]; rfl)
    | step _ hy ih => exact hc _ ih _ hy
  obtain ⟨p', hp'⟩ := Option.isSome_iff_exists.1 ((hD.dk y).2 (hin p y h))
  refine ⟨p', hp', ?_, hD.isWay _ y p' (Nat.le_refl _) hp'⟩
  by_cases hl : p.length ≤ 42
  · obtain ⟨p2, h1, h2⟩ := hm.least p y h hl
    have : fromW l y = some p2 := h1
    rw [this] at hp'; cases hp'; exact h2
  · have := hm.len y p' hp'
    exact leW_short (by omega)
end Go.Proofs.YtcahgmnkphmnhaaGreatDoor
