/- The reference on images: PutRoot. -/
import Derived.Test.YtbcafgocachddaaDoorRefI4
namespace Go.Proofs.YtbcafgocachddaaDoor
open Go.RowKit

/-- the fault of a root that is put -/
def rootE (i : Int) (s : Bytes) (h : Int) : Nat := if i < 0 ∨ 8 ≤ i then 1 else if s = [] ∧ h = 0 then 0 else if handleB h = false then 1 else if isName s = false then 2 else 0
def rootF (l : Bytes) (i : Int) (s : Bytes) (h : Int) : Bytes := if rootE i s h = 0 then splice l (rootO i) (if s = [] ∧ h = 0 then List.replicate 11 0 else rootB s h) else []
theorem rootB_get (s : Bytes) (h : Int) (h8 : s.length ≤ 8) (q : Nat) : (rootB s h)[q]? = if q < s.length then s[q]? else if q < 10 then some 0 else if q = 10 then some (UInt8.ofNat h.toNat) else none := by
  unfold rootB nameB
  by_cases h1 : q < s.length
  · rw [if_pos h1, List.append_assoc, List.getElem?_append_left h1]
  · rw [if_neg h1, List.append_assoc, List.getElem?_append_right (by omega)]
    have he : ∀ r, r < 10 - s.length → ((List.replicate (8 - s.length) (0 : UInt8)) ++ [0, 0, UInt8.ofNat h.toNat])[r]? = some 0 := fun r hr => by
      by_cases h2 : r < 8 - s.length
      · rw [List.getElem?_append_left (by simpa using h2)]; simp [h2]
      · rw [List.getElem?_append_right (by simpa using h2), List.length_replicate]
        have : r - (8 - s.length) = 0 ∨ r - (8 - s.length) = 1 := by omega
        rcases this with h | h <;> rw [h] <;> rfl
    by_cases h2 : q < 10
    · rw [if_pos h2, he _ (by omega)]
    · rw [if_neg h2]
      by_cases h3 : q = 10
      · rw [if_pos h3, List.getElem?_append_right (by simp; omega), List.length_replicate, show q - s.length - (8 - s.length) = 2 by omega]; rfl
      · rw [if_neg h3, List.getElem?_append_right (by simp; omega), List.length_replicate]
        apply List.getElem?_eq_none
        simp; omega
theorem rootB_set (l s : Bytes) (o : Nat) (h : Int) (h8 : s.length ≤ 8) (ho : o + 11 ≤ l.length) : (splice (splice l o (List.replicate 11 0)) o s).set (o + 10) (UInt8.ofNat h.toNat) = splice l o (rootB s h) := by
  have hrl : (rootB s h).length = 11 := by unfold rootB nameB; simp; omega
  have hl1 : (splice l o (List.replicate 11 (0 : UInt8))).length = l.length := splice_len _ _ _ (by simpa using ho)
  have hl2 : (splice (splice l o (List.replicate 11 (0 : UInt8))) o s).length = l.length := by rw [splice_len _ _ _ (by rw [hl1]; omega)]; exact hl1
  apply List.ext_getElem?
  intro p
  rw [List.getElem?_set, hl2, splice_at _ _ _ _ (by rw [hl1]; omega), splice_at _ _ _ _ (by simpa using ho), splice_at _ _ _ _ (by rw [hrl]; exact ho), rootB_get s h h8, hrl, List.length_replicate]
  by_cases h1 : o ≤ p ∧ p < o + 11
  · simp only [if_pos h1]
    by_cases h2 : p - o < s.length
    · rw [if_pos h2, if_neg (by omega), if_pos (by omega)]
    · rw [if_neg h2]
      by_cases h3 : p - o < 10
      · rw [if_pos h3, if_neg (by omega), if_neg (by omega), List.getElem?_replicate, if_pos (by omega)]
      · rw [if_neg h3, if_pos (by omega), if_pos (by omega), if_pos (by omega)]
  · simp only [if_neg h1]
    rw [if_neg (by omega), if_neg (by omega)]
theorem refPutRoot_e1 (A : Option Addr) (n c : Nat) (i : Int) (s : Bytes) (h : Int) (w : World) (hi : i < 0 ∨ 8 ≤ i) :
    Calls Tryd.prog 20 #[.slice A n c, .int .i64 i, rootV s h] w fun e w' => e = .returned (.tuple #[.slice none 0 0, .int .i64 1]) ∧ Below w.heap.size w w' := by
  have hB : Below w.heap.size w (w.alloc (.cells #[sv s, .int .i64 h] 28)) := (Below.refl _ _).alloc (Nat.le_refl _) _
  unfold rootV
  by_cases h0 : i < 0
  · clear hi
    go_enter Tryd.func20, Tryd.ntmps20
    go_wp2_with fail
    go_ret2
    exact ⟨rfl, hB⟩
  · have h7 : 7 < i := by omega
    clear hi
    go_enter Tryd.func20, Tryd.ntmps20
    go_wp2_with fail
    go_ret2
    exact ⟨rfl, hB⟩
theorem two_cells {w w' : World} {a b : Value} {t : TypeId} (hb : Below (w.alloc (.cells #[a, b] t)).heap.size (w.alloc (.cells #[a, b] t)) w') : w'.cell? ⟨w.heap.size, 0, none⟩ = some a ∧ w'.cell? ⟨w.heap.size, 1, none⟩ = some b := by
  have h := (hb.block w.heap.size (by simp)).trans (heap_alloc_new w (.cells #[a, b] t))
  refine ⟨?_, ?_⟩ <;> simp [World.cell?, h]
set_option maxRecDepth 100000 in
theorem refPutRoot_in (pb ob n c : Nat) (l : Bytes) (k : Nat) (s : Bytes) (h : Int) (w : World) (hs : s.length ≤ 140737488351232) (hln : l.length = n) (hr : rightB n = true) (hrd : Rd w (some ⟨pb, ob, none⟩) l) (hk : k < 8) :
    Calls Tryd.prog 20 #[.slice (some ⟨pb, ob, none⟩) n c, .int .i64 (k : Int), rootV s h] w fun e w' => RowAns w w' e (rootF l (k : Int) s h) (.int .i64 (rootE (k : Int) s h)) := by
  have hnb := rightB_true.1 hr
  have hB : Below w.heap.size w (w.alloc (.cells #[sv s, .int .i64 h] 28)) := (Below.refl _ _).alloc (Nat.le_refl _) _
  have s1 : IntKind.i64.wrap (11 * (k : Int)) = 11 * (k : Int) := IntWalk.i64_in _ (by omega)
  obtain ⟨o, ho⟩ : ∃ o : Nat, o = 200 + 11 * k := ⟨_, rfl⟩
  have s2 : IntKind.i64.wrap (200 + 11 * (k : Int)) = (o : Int) := by rw [IntWalk.i64_in _ (by omega)]; omega
  have s3 : IntKind.i64.wrap (210 + 11 * (k : Int)) = ((o + 10 : Nat) : Int) := by rw [IntWalk.i64_in _ (by omega)]; omega
  have ho11 : o + 11 ≤ n := by omega
  have hn64 : n ≤ 6400 := by omega
  have hRO : rootO (k : Int) = o := by rw [rootO_k, ho]
  have k7 : decide (7 < (k : Int)) = false := by simp; omega
  have k7' : decide (7 < k) = false := by simp; omega
  have kneg : decide ((k : Int) < 0) = false := by simp
  have HW := Hidden.mk (refWipe_ok pb ob n c l o 11 _ hln (by omega) (by omega) ho11 (hrd.below hB))
  have hz0 : ¬ ((k : Int) < 0 ∨ 8 ≤ (k : Int)) := by omega
  have HLN := Hidden.mk hln
  have hwl : (splice l o (List.replicate 11 (0 : UInt8))).length = n := by rw [splice_len _ _ _ (by rw [List.length_replicate]; omega)]; exact hln
  have HWL := Hidden.mk hwl
  have HE : Hidden (rootE (k : Int) s h = if s = [] ∧ h = 0 then 0 else if handleB h = false then 1 else if isName s = false then 2 else 0) := ⟨by unfold rootE; rw [if_neg hz0]⟩
  have HF : Hidden (rootF l (k : Int) s h = if rootE (k : Int) s h = 0 then splice l o (if s = [] ∧ h = 0 then List.replicate 11 0 else rootB s h) else []) := ⟨by unfold rootF; rw [hRO]⟩
  generalize rootF l (k : Int) s h = FF at *
  generalize rootE (k : Int) s h = EE at *
  have HB0 : Hidden (FF = if EE = 0 then splice l o (if s = [] ∧ h = 0 then List.replicate 11 0 else rootB s h) else []) := ⟨HF.out⟩
  have HNO : Hidden (EE ≠ 0 → FF = []) := ⟨fun hx => by rw [HF.out, if_neg hx]⟩
  clear hnb ho hRO hz0 hln hrd hr hwl HF
  unfold rootV
  by_cases h0 : s = [] ∧ h = 0
  · obtain ⟨rfl, rfl⟩ := h0
    have hE0 : EE = 0 := by rw [HE.out]; simp
    have hF0 : FF = splice l o (List.replicate 11 0) := by rw [HB0.out, if_pos hE0, if_pos ⟨rfl, rfl⟩]
    subst hE0 hF0
    clear HE HB0 HNO
    go_enter Tryd.func20, Tryd.ntmps20
    go_wp2_with fail
    refine HW.out.mono ?_
    rintro e w1 ⟨g, cap, rfl, hg, hcap, hrow, hb1⟩
    obtain ⟨x0, x1⟩ := two_cells hb1
    have hB1 := hB.trans (hb1.mono hB.size)
    clear hb1 hg
    go_wp2_with fail
    go_ret2
    refine ⟨some ⟨g, 0, none⟩, cap, ?_, hrow.rd, hB1⟩
    rw [HWL.out]
    rfl
  · have hcase : s.isEmpty = false ∨ (s = [] ∧ (h == 0) = false) := by
      cases s with
      | nil => right; simpa using h0
      | cons x r => left; rfl
    have HE2 : Hidden (EE = if handleB h = false then 1 else if isName s = false then 2 else 0) := ⟨by rw [HE.out, if_neg h0]⟩
    have HFY : Hidden (EE = 0 → FF = splice l o (rootB s h)) := ⟨fun hx => by rw [HB0.out, if_pos hx, if_neg h0]⟩
    clear h0 HE HB0
    go_enter Tryd.func20, Tryd.ntmps20
    go_wp2_with fail
    refine HW.out.mono ?_
    rintro e w1 ⟨g, cap, rfl, hg, hcap, hrow, hb1⟩
    obtain ⟨x0, x1⟩ := two_cells hb1
    have HB1 := Hidden.mk (hB.trans (hb1.mono hB.size))
    have HG : Hidden (w.heap.size ≤ g) := ⟨by have := hg; simp at this; omega⟩
    have HC : Hidden (∀ W, Below (w.heap.size + 1) w1 W → W.cell? ⟨w.heap.size, 0, none⟩ = some (sv s) ∧ W.cell? ⟨w.heap.size, 1, none⟩ = some (.int .i64 h)) := ⟨fun W hW => two_cells (hb1.trans (by simpa using hW))⟩
    have HG1 : Hidden (w.heap.size + 1 ≤ g) := ⟨by have := hg; simp at this; omega⟩
    have HROW := Hidden.mk hrow
    clear hb1 hg hB hrow
    generalize w.alloc (.cells #[sv s, .int .i64 h] 28) = w0 at *
    rcases hcase with hse | ⟨rfl, hz⟩
    · go_wp2_with fail
      refine (ref_handle_any h _).mono ?_
      rintro e w2 ⟨rfl, rfl⟩
      cases hh : handleB h with
      | false =>
        have hE1 : EE = 1 := by rw [HE2.out, if_pos hh]
        have hF1 := HNO.out (by omega)
        subst hE1 hF1
        clear hh HE2 HFY HNO
        go_wp2_with fail
        go_ret2
        exact ⟨none, 0, rfl, Rd.nil_, HB1.out⟩
      | true =>
        have HHB := Hidden.mk (handleB_true.1 hh)
        have HE3 : Hidden (EE = if isName s = false then 2 else 0) := ⟨by rw [HE2.out, hh]; simp⟩
        clear hh HE2
        go_wp2_with fail
        refine (refName_any s _ hs).mono ?_
        rintro e w2 ⟨rfl, rfl⟩
        cases hnm : isName s with
        | false =>
          have hE1 : EE = 2 := by rw [HE3.out, if_pos hnm]
          have hF1 := HNO.out (by omega)
          subst hE1 hF1
          clear hnm HE3 HFY HNO
          go_wp2_with fail
          go_ret2
          exact ⟨none, 0, rfl, Rd.nil_, HB1.out⟩
        | true =>
          have hE0 : EE = 0 := by rw [HE3.out, hnm]; simp
          have hF0 := HFY.out hE0
          subst hE0
          have HFF := Hidden.mk hF0
          have h8' := nameB_len s hnm
          have h8 : s.length ≤ 8 := by unfold nameB at h8'; simp at h8'; omega
          clear hnm h8' hF0 HE3 HFY HNO
          have HD : Hidden ((splice (splice l o (List.replicate 11 0)) o s).set (o + 10) (UInt8.ofNat h.toNat) = splice l o (rootB s h)) := ⟨rootB_set l s o h h8 (by rw [HLN.out]; exact ho11)⟩
          have HDL : Hidden ((splice l o (rootB s h)).length = n) := ⟨by rw [← HD.out, List.length_set, splice_len _ _ _ (by rw [HWL.out]; omega)]; exact HWL.out⟩
          generalize splice l o (rootB s h) = LF at *
          generalize splice l o (List.replicate 11 0) = z0 at *
          have hst0 : Row w1 5 g cap (splice z0 o (s.take 0)) := by simpa [splice] using HROW.out
          have HB00 := Below.refl w1.heap.size w1
          go_wp2_with fail
          go_loopg [11] s.length (fun m i wr => ∃ q : Nat, q ≤ s.length ∧ m = s.length - q ∧ i = .int .i64 (q : Int) ∧ Below (w.heap.size + 1) w1 wr ∧ Row wr 5 g cap (splice z0 o (s.take q)))
          case atStart => exact ⟨0, by omega, rfl, rfl, Below.refl _ _, hst0⟩
          case round =>
            obtain ⟨q, hq, rfl, rfl, hbel, hrw⟩ := hrel
            obtain ⟨y0, y1⟩ := HC.out wr hbel
            have hsl : (splice z0 o (s.take q)).length = n := by rw [splice_len _ _ _ (by rw [List.length_take, HWL.out]; omega)]; exact HWL.out
            by_cases hlt : q < s.length
            · have hcell := hrw.cell (o + q) (by omega)
              have hfr := hrw.frozen (o + q)
              have hst := hrw.store (o + q) (by omega) s[q]
              rw [splice_take_succ z0 s o q hlt (by have := HWL.out; omega)] at hst
              have hbn := hbel.setCell (p := ⟨g, o + q, none⟩) HG1.out (bv s[q])
              have s4 : IntKind.i64.wrap ((o : Int) + q) = (o : Int) + q := IntWalk.i64_in _ (by omega)
              have k0 : (0 : Int) ≤ (o : Int) + q := by omega
              have k1 : (o : Int) + q < n := by omega
              have k2 : (0 : Int) ≤ q := by omega
              have k3 : (q : Int) < s.length := by omega
              have hix : ((⟨s.toArray⟩ : ByteArray)[q]'(by simpa [ByteArray.size] using hlt)) = s[q] := rfl
              generalize (splice z0 o (s.take q))[o + q] = u at hcell
              clear hrw hsl
              go_wp2_with fail
              go_roundg (s.length - (q + 1))
              case measure => omega
              case rel => exact ⟨q + 1, by omega, rfl, by go_num, hbn, hst⟩
            · obtain rfl : q = s.length := by omega
              rw [List.take_length] at hrw hsl
              have hhb := HHB.out
              have hcell := hrw.cell (o + 10) (by omega)
              have hfr := hrw.frozen (o + 10)
              have hst := hrw.store (o + 10) (by omega) (UInt8.ofNat h.toNat)
              rw [HD.out] at hst
              have hbn := hbel.setCell (p := ⟨g, o + 10, none⟩) HG1.out (bv (UInt8.ofNat h.toNat))
              have hbv : bv (UInt8.ofNat h.toNat) = .int .u8 h := by
                simp only [bv, UInt8.toNat_ofNat']
                congr 1
                omega
              rw [hbv] at hst hbn
              have w8 : IntKind.u8.wrap h = h := IntWalk.u8_in _ (by omega)
              have k0 : (0 : Int) ≤ (o : Int) + 10 := by omega
              have k1 : (o : Int) + 10 < n := by omega
              generalize (splice z0 o s)[o + 10] = u at hcell
              clear hrw hsl hhb hbv
              go_wp2_with fail
              go_ret2
              refine ⟨some ⟨g, 0, none⟩, cap, ?_, by rw [HFF.out]; exact hst.rd, HB1.out.trans (hbn.mono (Nat.le_succ _))⟩
              rw [HFF.out, HDL.out]
              rfl
    · go_wp2_with fail
      refine (ref_handle_any h _).mono ?_
      rintro e w2 ⟨rfl, rfl⟩
      cases hh : handleB h with
      | false =>
        have hE1 : EE = 1 := by rw [HE2.out, if_pos hh]
        have hF1 := HNO.out (by omega)
        subst hE1 hF1
        clear hh HE2 HFY HNO
        go_wp2_with fail
        go_ret2
        exact ⟨none, 0, rfl, Rd.nil_, HB1.out⟩
      | true =>
        have HE3 : Hidden (EE = if isName [] = false then 2 else 0) := ⟨by rw [HE2.out, hh]; simp⟩
        clear hh HE2
        go_wp2_with fail
        refine (refName_any [] _ hs).mono ?_
        rintro e w2 ⟨rfl, rfl⟩
        have hnm : isName [] = false := rfl
        have hE1 : EE = 2 := by rw [HE3.out, if_pos hnm]
        have hF1 := HNO.out (by omega)
        subst hE1 hF1
        rw [hnm]
        clear hnm HE3 HFY HNO
        go_wp2_with fail
        go_ret2
        exact ⟨none, 0, rfl, Rd.nil_, HB1.out⟩
theorem refPutRoot_any (A : Option Addr) (n c : Nat) (l : Bytes) (i : Int) (s : Bytes) (h : Int) (w : World) (hs : s.length ≤ 140737488351232) (hln : l.length = n) (hr : rightB n = true) (hrd : Rd w A l) :
    Calls Tryd.prog 20 #[.slice A n c, .int .i64 i, rootV s h] w fun e w' => RowAns w w' e (rootF l i s h) (.int .i64 (rootE i s h)) := by
  by_cases hi : i < 0 ∨ 8 ≤ i
  · have hE : rootE i s h = 1 := by unfold rootE; rw [if_pos hi]
    unfold rootF
    rw [hE]
    exact (refPutRoot_e1 A n c i s h w hi).mono fun e w' ⟨he, hb⟩ => ⟨none, 0, he, Rd.nil_, hb⟩
  · obtain ⟨k, rfl⟩ := Int.eq_ofNat_of_zero_le (show 0 ≤ i by omega)
    obtain ⟨p, off, rfl, _⟩ := hrd.lt (by have := rightB_true.1 hr; omega)
    exact refPutRoot_in p off n c l k s h w hs hln hr hrd (by omega)
/-- the program's PutRoot, told likewise -/
theorem iroot_ans (A : Option Addr) (n c : Nat) (l : Bytes) (i : Int) (s : Bytes) (h : Int) (w : World) (hs : s.length ≤ 140737488351232) (hln : l.length = n) (hnc : n ≤ c) (hr : rightB n = true) (hrd : Rd w A l) :
    Calls Tryd.prog 21 #[.slice A n c, .int .i64 i, rootV s h] w fun e w' => RowAns w w' e (rootF l i s h) (errV (rootE i s h)) := by
  have hnb := rightB_true.1 hr
  have hlen : ∀ X : Bytes, X.length = 11 → 0 ≤ i → i < 8 → (splice l (rootO i) X).length = n := fun X hX h1 h2 => by
    rw [splice_len _ _ _ (by unfold rootO; omega)]; exact hln
  unfold rootF
  by_cases hi : i < 0 ∨ 8 ≤ i
  · have hE : rootE i s h = 1 := by unfold rootE; rw [if_pos hi]
    rw [hE]
    exact (root_e1 A n c i s h w hr hi).mono fun e w' ⟨he, hb⟩ => ⟨none, 0, he, Rd.nil_, hb⟩
  by_cases h0 : s = [] ∧ h = 0
  · have hE : rootE i s h = 0 := by unfold rootE; rw [if_neg hi, if_pos h0]
    rw [hE, if_pos rfl, if_pos h0]
    obtain ⟨rfl, rfl⟩ := h0
    refine (root_zero A n c l i w hln hnc hrd hr (by omega) (by omega)).mono ?_
    rintro e w' ⟨g, cap, rfl, hg, hrow, hb⟩
    exact ⟨some ⟨g, 0, none⟩, cap, by rw [hlen _ (by simp) (by omega) (by omega)]; rfl, hrow.rd, hb⟩
  cases hh : handleB h with
  | false =>
    have hE : rootE i s h = 1 := by unfold rootE; rw [if_neg hi, if_neg h0, if_pos hh]
    rw [hE]
    exact (root_e1h A n c i s h w hr (by omega) (by omega) h0 hh).mono fun e w' ⟨he, hb⟩ => ⟨none, 0, he, Rd.nil_, hb⟩
  | true =>
    cases hnm : isName s with
    | false =>
      have hE : rootE i s h = 2 := by unfold rootE; rw [if_neg hi, if_neg h0, if_neg (by simp [hh]), if_pos hnm]
      rw [hE]
      exact (root_e2 A n c i s h w hs hr (by omega) (by omega) hh hnm).mono fun e w' ⟨he, hb⟩ => ⟨none, 0, he, Rd.nil_, hb⟩
    | true =>
      have hE : rootE i s h = 0 := by unfold rootE; rw [if_neg hi, if_neg h0, if_neg (by simp [hh]), if_neg (by simp [hnm])]
      rw [hE, if_pos rfl, if_neg h0]
      refine (root_ok A n c l i s h w hln hrd hr (by omega) (by omega) hh hnm).mono ?_
      rintro e w' ⟨g, cap, rfl, hg, hrow, hb⟩
      have hl11 : (rootB s h).length = 11 := by have := nameB_len s hnm; unfold rootB; simp; omega
      exact ⟨some ⟨g, 0, none⟩, cap, by rw [hlen _ hl11 (by omega) (by omega)]; rfl, hrow.rd, hb⟩
end Go.Proofs.YtbcafgocachddaaDoor
