/- Extents: plain words; the contract of extent.Check. -/
import Derived.Test.YtibogmoemohngaaChk1
import Derived.Test.YtibogmoemohngaaRows2
import Derived.Deep.LoopGhost
namespace Go.Proofs.Ytibogmoemohngaa
open Go.RowKit

abbrev Ext := Int × Int
def tcells (x : Ext) : List Value := [.int .i64 x.1, .int .i64 x.2]
theorem tcells_len (x : Ext) : (tcells x).length = 2 := rfl
def badX (n : Int) (e : Ext) : Bool := decide (e.2 < 1) || decide (e.1 < 0) || decide (n < e.2) || decide (n - e.2 < e.1)
def hitX (e o : Ext) : Bool := decide (e.1 < o.1 + o.2) && decide (o.1 < e.1 + e.2)
/-- the fault of the element k -/
def faultX (n : Int) (l : List Ext) (k : Nat) (e : Ext) : Nat := if badX n e = true then 1 else if (l.take k).any (hitX e) = true then 7 else 0
def loopX (n : Int) (l : List Ext) : Nat → Nat
  | 0 => 0
  | k + 1 => if loopX n l k = 0 then faultX n l k (l.getD k (0, 0)) else loopX n l k
/-- what is wrong with extents -/
def chkX (n : Int) (l : List Ext) : Nat := if n < 0 ∨ 6400 < n then 1 else if 200 < l.length then 4 else loopX n l l.length
theorem loopX_stop (n : Int) (l : List Ext) (k : Nat) (h : loopX n l k ≠ 0) : ∀ m, k ≤ m → loopX n l m = loopX n l k
  | 0, hm => by obtain rfl : k = 0 := by omega
                rfl
  | m + 1, hm => by
    by_cases hk : k = m + 1
    · rw [hk]
    · have := loopX_stop n l k h m (by omega)
      rw [loopX, if_neg (by rw [this]; exact h), this]
theorem loopX_zero (n : Int) (l : List Ext) : ∀ k, loopX n l k = 0 → ∀ j, j < k → faultX n l j (l.getD j (0, 0)) = 0
  | 0, _, j, hj => by omega
  | k + 1, h, j, hj => by
    rw [loopX] at h
    split at h
    · rename_i h0
      rcases Nat.lt_succ_iff_lt_or_eq.1 hj with h' | rfl
      · exact loopX_zero n l k h0 j h'
      · exact h
    · rename_i h0; exact absurd h h0
theorem badX_false {n : Int} {e : Ext} (h : badX n e = false) : 1 ≤ e.2 ∧ 0 ≤ e.1 ∧ e.2 ≤ n ∧ e.1 + e.2 ≤ n := by
  unfold badX at h
  simp only [Bool.or_eq_false_iff, decide_eq_false_iff_not] at h
  omega
theorem faultX_zero {n : Int} {l : List Ext} {k : Nat} {e : Ext} (h : faultX n l k e = 0) : badX n e = false ∧ (l.take k).any (hitX e) = false := by
  unfold faultX at h
  split at h
  · cases h
  · rename_i h1
    split at h
    · cases h
    · rename_i h2
      exact ⟨by simpa using h1, by simpa using h2⟩
theorem RdX.take {X : Type} {cells : X → List Value} {C : Nat} {w : World} {A : Option Addr} {L : List X} (h : RdX cells C w A L) (k : Nat) : RdX cells C w A (L.take k) := fun i hi => by
  have hi' : i < L.length := by rw [List.length_take] at hi; omega
  obtain ⟨b, off, hA, hc⟩ := h i hi'
  exact ⟨b, off, hA, fun q u hq => hc q u (by rwa [List.getElem_take] at hq)⟩
/-- the closure of Check -/
theorem hit1_any (e x : Ext) (Bx : Nat) (W : World) (h1 : W.cell? ⟨Bx, 0, none⟩ = some (.int .i64 e.1)) (h2 : W.cell? ⟨Bx, 1, none⟩ = some (.int .i64 e.2)) (he : 0 ≤ e.1 ∧ e.1 ≤ 6400 ∧ 0 ≤ e.2 ∧ e.2 ≤ 6400) (hx : 0 ≤ x.1 ∧ x.1 ≤ 6400 ∧ 0 ≤ x.2 ∧ x.2 ≤ 6400) :
    Calls Try.prog 43 #[.agg #[.int .i64 x.1, .int .i64 x.2], .pointer (some ⟨Bx, 0, none⟩)] W fun e' w' => e' = .returned (.bool (hitX e x)) ∧ Below W.heap.size W w' := by
  obtain ⟨e1, e2⟩ := e
  obtain ⟨x1, x2⟩ := x
  dsimp only at *
  have hlt := block_lt_of_cell h1
  have hW : Below W.heap.size W (W.alloc (.cells #[.int .i64 x1, .int .i64 x2] 38)) := (Below.refl _ _).alloc (Nat.le_refl _) _
  have s1 : IntKind.i64.wrap (x1 + x2) = x1 + x2 := IntWalk.i64_in _ (by omega)
  have s2 : IntKind.i64.wrap (e1 + e2) = e1 + e2 := IntWalk.i64_in _ (by omega)
  unfold hitX
  dsimp only
  by_cases hc : e1 < x1 + x2
  · have d1 : decide (e1 < x1 + x2) = true := by simpa using hc
    go_enter Try.func43, Try.ntmps43
    go_wp2_with fail
    go_ret
    exact ⟨by simp [d1], hW⟩
  · have d1 : decide (e1 < x1 + x2) = false := by simpa using hc
    go_enter Try.func43, Try.ntmps43
    go_wp2_with fail
    go_ret
    exact ⟨by simp [d1], hW⟩
theorem idxX_check (p : Ext → Bool) (A : Option Addr) (n c : Nat) (L : List Ext) (cap : Value) (w : World) (hn : L.length = n) (hl : n ≤ 1000) (hr : RdX tcells 2 w A L)
    (hP : ∀ x ∈ L, ∀ W, Below w.heap.size w W → Calls Try.prog 43 #[.agg #[.int .i64 x.1, .int .i64 x.2], cap] W fun e w' => e = .returned (.bool (p x)) ∧ Below W.heap.size W w') :
    Calls Try.prog 86 #[.slice A n c, .func (.func 43) #[] #[cap]] w fun e w' => ∃ z : Int, e = .returned (.int .i64 z) ∧ decide (0 ≤ z) = L.any p ∧ Below w.heap.size w w' := by
  subst hn
  have HP := Hidden.mk hP
  clear hP
  go_enter Try.func86, Try.ntmps86
  go_wp2_with fail
  go_loopw [8] (fun i wr => Below w.heap.size w wr ∧ ∃ k : Nat, k ≤ L.length ∧ i = .int .i64 k ∧ Hidden (∀ x ∈ L.take k, p x = false)) (fun i _ => L.length - (intOf i).toNat)
  case atStart => exact ⟨Below.refl _ _, 0, Nat.zero_le _, rfl, ⟨by simp⟩⟩
  case round =>
    obtain ⟨hbel, k, hk, rfl, hnot⟩ := hrel
    by_cases hlt : k < L.length
    · obtain ⟨b, off, rfl, hcx⟩ := (hr.below hbel) k hlt
      have c0 := hcx 0 _ rfl
      have c1 := hcx 1 _ rfl
      rw [Nat.add_zero] at c0
      have hp := HP.out L[k] (List.getElem_mem hlt) wr hbel
      have HPK := Hidden.mk hp
      have i0 : (0 : Int) ≤ k := by omega
      have i1 : (k : Int) < L.length := by omega
      clear hp hcx
      go_wp2_with fail
      refine (HPK.out).mono ?_
      rintro e w1 ⟨rfl, hb1⟩
      have hB1 := hbel.trans (hb1.mono hbel.size)
      cases he : p L[k] with
      | true =>
        have hi : Hidden (true = L.any p) := ⟨(List.any_eq_true.2 ⟨L[k], List.getElem_mem hlt, he⟩).symm⟩
        clear he hb1 hbel
        go_wp2_with fail
        go_ret
        exact ⟨_, rfl, by rw [← hi.out]; simp, hB1⟩
      | false =>
        have hnk : Hidden (∀ x ∈ L.take (k + 1), p x = false) := ⟨forall_take_succ' hlt hnot.out he⟩
        clear he hnot hb1 hbel
        go_wp2_with fail
        go_roundw
        case rel => exact ⟨hB1, k + 1, by omega, by go_num, hnk⟩
        case measure => simp [intOf]; omega
    · have hi : Hidden (false = L.any p) := ⟨by
        have := hnot.out
        rw [List.take_of_length_le (by omega)] at this
        symm; simpa using this⟩
      go_wp2_with fail
      go_ret
      exact ⟨-1, rfl, by rw [← hi.out]; rfl, hbel⟩
theorem cfX_check (p : Ext → Bool) (A : Option Addr) (n c : Nat) (L : List Ext) (cap : Value) (w : World) (hn : L.length = n) (hl : n ≤ 1000) (hr : RdX tcells 2 w A L)
    (hP : ∀ x ∈ L, ∀ W, Below w.heap.size w W → Calls Try.prog 43 #[.agg #[.int .i64 x.1, .int .i64 x.2], cap] W fun e w' => e = .returned (.bool (p x)) ∧ Below W.heap.size W w') :
    Calls Try.prog 42 #[.slice A n c, .func (.func 43) #[] #[cap]] w fun e w' => e = .returned (.bool (L.any p)) ∧ Below w.heap.size w w' := by
  have HC := Hidden.mk (idxX_check p A n c L cap w hn hl hr hP)
  clear hP
  go_enter Try.func42, Try.ntmps42
  go_wp2_with fail
  refine HC.out.mono ?_
  rintro e w1 ⟨z, rfl, hz, hb⟩
  have HZ := Hidden.mk hz
  clear hz
  go_wp2_with fail
  go_ret
  exact ⟨congrArg (fun b => Ending.returned (.bool b)) HZ.out, hb⟩
theorem run_headX (A : Option Addr) (n c k : Nat) (hkc : k ≤ c) (W : World) :
    (Instr.sliceAt 34 (.slice A n c) none (some (.int .i64 k)) none).run Try.prog W = .ok (.slice A k c) W := by
  obtain ⟨i0, hi0, hz0, hz1, hz2⟩ := info_parts (show (Try.prog.info? 38).map (fun i => (i.zero, i.size, i.bytes)) = some (some (.agg #[.int .i64 0, .int .i64 0]), 2, 16) by kernel_rfl)
  cases A <;> simp [Instr.sliceAt, Instr.slice, Instr.sliceBounds, Instr.sliceBound, run_underlying Try.underlying34, asIntOf, sizeOf, typeInfo, hi0, hkc, Addr.add]
set_option maxRecDepth 100000 in
theorem xcheck_any (n : Int) (A : Option Addr) (m c : Nat) (l : List Ext) (w : World) (hl : l.length = m) (hmc : m ≤ c) (hr : RdX tcells 2 w A l) :
    Calls Try.prog 14 #[.int .i64 n, .slice A m c] w fun e w' => e = .returned (errV (chkX n l)) ∧ Below w.heap.size w w' := by
  by_cases h1 : n < 0
  · have HC : Hidden (chkX n l = 1) := ⟨by unfold chkX; rw [if_pos (.inl h1)]⟩
    clear hr hl
    go_enter Try.func14, Try.ntmps14
    go_wp2_with fail
    go_ret
    exact ⟨by rw [HC.out]; rfl, Below.refl _ _⟩
  by_cases h2 : 6400 < n
  · have HC : Hidden (chkX n l = 1) := ⟨by unfold chkX; rw [if_pos (.inr h2)]⟩
    clear hr hl
    go_enter Try.func14, Try.ntmps14
    go_wp2_with fail
    go_ret
    exact ⟨by rw [HC.out]; rfl, Below.refl _ _⟩
  have d1 : decide (n < 0) = false := by simpa using h1
  have d2 : decide (6400 < n) = false := by simpa using h2
  by_cases h3 : 200 < m
  · have HC : Hidden (chkX n l = 4) := ⟨by unfold chkX; rw [if_neg (by omega), if_pos (by omega)]⟩
    have d3 : decide (200 < m) = true := by simpa using h3
    clear hr hl
    go_enter Try.func14, Try.ntmps14
    go_wp2_with fail
    go_ret
    exact ⟨by rw [HC.out]; rfl, Below.refl _ _⟩
  have d3 : decide (200 < m) = false := by simpa using h3
  have HC : Hidden (chkX n l = loopX n l m) := ⟨by unfold chkX; rw [if_neg (by omega), if_neg (by omega), hl]⟩
  have HL := Hidden.mk hl
  have HR := Hidden.mk hr
  clear hr hl
  go_enter Try.func14, Try.ntmps14
  go_wp2_with fail
  go_loopg [22] m (fun q i wr => ∃ k : Nat, k ≤ m ∧ q = m - k ∧ i = .int .i64 (k : Int) ∧ Hidden (Below w.heap.size w wr ∧ loopX n l k = 0))
  case atStart => exact ⟨0, by omega, rfl, rfl, ⟨Below.refl _ _, rfl⟩⟩
  case round =>
    obtain ⟨k, hk, rfl, rfl, hst⟩ := hrel
    by_cases hlt : k < m
    · have hkl : k < l.length := by have := HL.out; omega
      obtain ⟨p, off, rfl, hcx⟩ := (HR.out.below hst.out.1) k hkl
      have c0 := hcx 0 _ rfl
      have c1 := hcx 1 _ rfl
      rw [Nat.add_zero] at c0
      have HF : Hidden (loopX n l (k + 1) = faultX n l k l[k]) := ⟨by rw [loopX, if_pos hst.out.2]; simp [hkl]⟩
      have HG : Hidden (faultX n l k l[k] = if badX n l[k] = true then 1 else if (l.take k).any (hitX l[k]) = true then 7 else 0) := ⟨rfl⟩
      have HBX : Hidden (badX n l[k] = (decide (l[k].2 < 1) || decide (l[k].1 < 0) || decide (n < l[k].2) || decide (n - l[k].2 < l[k].1))) := ⟨rfl⟩
      have HEND : Hidden (∀ x, x ≠ 0 → loopX n l (k + 1) = x → chkX n l = x) := ⟨fun x hx he => by rw [HC.out, loopX_stop n l (k + 1) (by rw [he]; exact hx) m (by omega), he]⟩
      have k0 : (0 : Int) ≤ k := by omega
      have k1 : (k : Int) < m := by omega
      have HEL : Hidden (l[k].1 = l[k].1 ∧ l[k].2 = l[k].2) := ⟨rfl, rfl⟩
      have hall : ∀ j, j < k → badX n (l.getD j (0, 0)) = false := fun j hj => (faultX_zero (loopX_zero n l k hst.out.2 j hj)).1
      have hprev : ∀ x ∈ l.take k, 0 ≤ x.1 ∧ x.1 ≤ 6400 ∧ 0 ≤ x.2 ∧ x.2 ≤ 6400 := fun x hx => by
        obtain ⟨j, hj, rfl⟩ := List.getElem_of_mem hx
        rw [List.length_take] at hj
        have := hall j (by omega)
        rw [List.getElem_take]
        have he : l.getD j (0, 0) = l[j] := by simp [show j < l.length by omega]
        rw [he] at this
        have := badX_false this
        omega
      have HPREV := Hidden.mk hprev
      have hrt := (HR.out.below hst.out.1).take k
      have HRT := Hidden.mk hrt
      clear hcx hall hprev hrt
      have HHIT : Hidden (∀ x : Ext, hitX l[k] x = hitX (l[k].1, l[k].2) x) := ⟨fun _ => rfl⟩
      generalize hlk : l[k] = e at *
      obtain ⟨e1, e2⟩ := e
      dsimp only at HF HG HBX c0 c1 HHIT
      have hal : Below wr.heap.size wr (wr.alloc (.cells #[.int .i64 e1, .int .i64 e2] 38)) := (Below.refl _ _).alloc (Nat.le_refl _) _
      have HB2 : Hidden (Below w.heap.size w (wr.alloc (.cells #[.int .i64 e1, .int .i64 e2] 38))) := ⟨hst.out.1.trans (hal.mono hst.out.1.size)⟩
      have hbk : (wr.alloc (.cells #[.int .i64 e1, .int .i64 e2] 38)).heap[wr.heap.size]? = some (.cells #[.int .i64 e1, .int .i64 e2] 38 (0, 0)) := heap_alloc_new wr _
      have HBK := Hidden.mk hbk
      have HLK := Hidden.mk hlk
      have HRT2 := Hidden.mk (HRT.out.below hal)
      clear hal hbk hlk HEL HRT
      by_cases b1 : e2 < 1
      · have t1 : decide (e2 < 1) = true := by simpa using b1
        have HE := Hidden.mk (HEND.out 1 (by decide) (by rw [HF.out, HG.out, if_pos (by rw [HBX.out, t1]; rfl)]))
        go_wp2_with fail
        go_ret
        exact ⟨by rw [HE.out]; rfl, HB2.out⟩
      have t1 : decide (e2 < 1) = false := by simpa using b1
      by_cases b2 : e1 < 0
      · have t2 : decide (e1 < 0) = true := by simpa using b2
        have HE := Hidden.mk (HEND.out 1 (by decide) (by rw [HF.out, HG.out, if_pos (by rw [HBX.out, t1, t2]; rfl)]))
        go_wp2_with fail
        go_ret
        exact ⟨by rw [HE.out]; rfl, HB2.out⟩
      have t2 : decide (e1 < 0) = false := by simpa using b2
      by_cases b3 : n < e2
      · have t3 : decide (n < e2) = true := by simpa using b3
        have HE := Hidden.mk (HEND.out 1 (by decide) (by rw [HF.out, HG.out, if_pos (by rw [HBX.out, t1, t2, t3]; rfl)]))
        go_wp2_with fail
        go_ret
        exact ⟨by rw [HE.out]; rfl, HB2.out⟩
      have t3 : decide (n < e2) = false := by simpa using b3
      have s1 : IntKind.i64.wrap (n - e2) = n - e2 := IntWalk.i64_in _ (by omega)
      by_cases b4 : n - e2 < e1
      · have t4 : decide (n - e2 < e1) = true := by simpa using b4
        have HE := Hidden.mk (HEND.out 1 (by decide) (by rw [HF.out, HG.out, if_pos (by rw [HBX.out, t1, t2, t3, t4]; rfl)]))
        go_wp2_with fail
        go_ret
        exact ⟨by rw [HE.out]; rfl, HB2.out⟩
      have t4 : decide (n - e2 < e1) = false := by simpa using b4
      have HBAD : Hidden (badX n (e1, e2) = false) := ⟨by rw [HBX.out, t1, t2, t3, t4]; rfl⟩
      have hsl := run_headX (some ⟨p, off, none⟩) m c k (by omega)
      go_wp2_with fail
      generalize wr.alloc (.cells #[.int .i64 e1, .int .i64 e2] 38) = w2 at *
      generalize wr.heap.size = Bx at *
      clear c0 c1 b1 b2 b3 b4
      have y0 : ∀ W, Below w2.heap.size w2 W → W.cell? ⟨Bx, 0, none⟩ = some (.int .i64 e1) ∧ W.cell? ⟨Bx, 1, none⟩ = some (.int .i64 e2) := fun W hW => by
        have hb := (hW.block _ (Array.getElem?_eq_some_iff.1 HBK.out).1).trans HBK.out
        exact ⟨by simp [World.cell?, hb], by simp [World.cell?, hb]⟩
      have hb2 := badX_false HBAD.out
      have hcf := cfX_check (hitX (e1, e2)) (some ⟨p, off, none⟩) k c (l.take k) (.pointer (some ⟨Bx, 0, none⟩)) w2 (by rw [List.length_take]; omega) (by omega) HRT2.out
        (fun x hx W hW => hit1_any (e1, e2) x Bx W (y0 W hW).1 (y0 W hW).2 (by dsimp only at hb2 ⊢; omega) (HPREV.out x hx))
      have HCF := Hidden.mk hcf
      clear hcf y0 hb2
      refine HCF.out.mono ?_
      rintro e w3 ⟨rfl, hb⟩
      have HB3 := Hidden.mk (HB2.out.trans (hb.mono HB2.out.size))
      clear hb
      cases hq : (l.take k).any (hitX (e1, e2)) with
      | true =>
        have HE := Hidden.mk (HEND.out 7 (by decide) (by rw [HF.out, HG.out, if_neg (by rw [HBAD.out]; decide), if_pos hq]))
        clear hq
        go_wp2_with fail
        go_ret
        exact ⟨by rw [HE.out]; rfl, HB3.out⟩
      | false =>
        have HE : Hidden (loopX n l (k + 1) = 0) := ⟨by rw [HF.out, HG.out, if_neg (by rw [HBAD.out]; decide), if_neg (by rw [hq]; decide)]⟩
        have q1 : IntKind.i64.wrap ((k : Int) + 1) = (k : Int) + 1 := IntWalk.i64_in _ (by omega)
        clear hq
        go_wp2_with fail
        go_roundg (m - (k + 1))
        case measure => omega
        case rel => exact ⟨k + 1, by omega, rfl, by go_num, ⟨HB3.out, HE.out⟩⟩
    · obtain rfl : k = m := by omega
      have HF : Hidden (chkX n l = 0) := ⟨by rw [HC.out]; exact hst.out.2⟩
      go_wp2_with fail
      go_ret
      exact ⟨by rw [HF.out]; rfl, hst.out.1⟩
end Go.Proofs.Ytibogmoemohngaa
