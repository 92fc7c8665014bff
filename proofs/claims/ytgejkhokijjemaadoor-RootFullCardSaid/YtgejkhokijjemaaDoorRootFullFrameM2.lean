/- Contracts and plain laws, put together: RefM, RefNm, Keep, RefI1, RefI2, Diff0, Diff1, Diff2, ImageApart0, RefI3, RefI4, Chk3, Chk5, Chk6, Img6, GoodP, RefC, RefC2, Heap1, Chk7, Open, Open2, Rows2, Ext1, SortP, LayX, Ext2, Ext3, Heap2, Heap3, Heap4, Heap5, RefC3. -/
import Derived.Test.YtgejkhokijjemaaDoorRootFullFrameM1
import Derived.Deep.RegionHeld3
import Derived.Deep.AppendLies
import Derived.Deep.LoopGhost
import Derived.Deep.DeepCutAuto
import Derived.ProofKit
import Derived.OpenShut
import Derived.ShutString
import Derived.ChangeOld
import Derived.SizedLaws
import Derived.Lib.SmallJoins
import Derived.Deep.Slices
import Derived.Deep.Fields
import Derived.Shelf.SlSortCmp.WholeK
import Derived.Shelf.SlGeneric
import Derived.Ground.SlsfProg
import Derived.Shelf.SlSortCmp.NoneTotal
import Derived.StillTailTactics
/- The contract of the reference's Make. -/
namespace Go.Proofs.YtgejkhokijjemaaDoor
open Go.RowKit

theorem Row.keepB {B : Nat} {w w' : World} (hb : Below B w w') {g p : Nat} (hg : B ≤ g) (v : Value) : Below B w (w'.setCell ⟨g, p, none⟩ v) := hb.setCell (p := ⟨g, p, none⟩) hg v
/-- the sector as it is after k bytes of the stamp -/
def makeK (l1 : Bytes) (st k : Nat) : Bytes := splice (splice l1 0 (numB st k)) 28 (numB st k)
theorem makeK_len (l1 : Bytes) (st k : Nat) (h : l1.length = 32) (hk : k ≤ 4) : (makeK l1 st k).length = 32 := by
  unfold makeK
  have h1 : (splice l1 0 (numB st k)).length = 32 := by rw [splice_len _ _ _ (by rw [numB_length]; omega), h]
  rw [splice_len _ _ _ (by rw [numB_length]; omega), h1]
theorem makeK_get (l1 : Bytes) (st k p : Nat) (h : l1.length = 32) (hk : k ≤ 4) : (makeK l1 st k)[p]? = if p < k then some (UInt8.ofNat (st / 2 ^ (8 * p) % 256)) else if 28 ≤ p ∧ p < 28 + k then some (UInt8.ofNat (st / 2 ^ (8 * (p - 28)) % 256)) else l1[p]? := by
  unfold makeK
  have hn := numB_length st k
  have h1 : (splice l1 0 (numB st k)).length = 32 := by rw [splice_len _ _ _ (by omega), h]
  rw [splice_rd _ _ _ _ (by omega), splice_rd _ _ _ _ (by omega), hn]
  by_cases a : p < k
  · rw [if_neg (by omega), if_pos (by omega), if_pos a, Nat.sub_zero, numB_get k st p a]
  · rw [if_neg a]
    by_cases b : 28 ≤ p ∧ p < 28 + k
    · rw [if_pos b, if_pos b, numB_get k st (p - 28) (by omega)]
    · rw [if_neg b, if_neg b, if_neg (by omega)]
theorem makeK_step (l1 : Bytes) (st k : Nat) (h : l1.length = 32) (hk : k < 4) : ((makeK l1 st k).set k (UInt8.ofNat (st / 2 ^ (8 * k) % 256))).set (28 + k) (UInt8.ofNat (st / 2 ^ (8 * k) % 256)) = makeK l1 st (k + 1) := by
  have hl := makeK_len l1 st k h (by omega)
  apply List.ext_getElem?
  intro p
  rw [makeK_get l1 st (k + 1) p h (by omega), List.getElem?_set, List.getElem?_set, List.length_set, hl, makeK_get l1 st k p h (by omega)]
  by_cases a : 28 + k = p
  · subst a
    rw [if_pos rfl, if_pos (by omega), if_neg (by omega), if_pos (by omega), Nat.add_sub_cancel_left]
  · rw [if_neg a]
    by_cases b : k = p
    · subst b
      rw [if_pos rfl, if_pos (by omega), if_pos (by omega)]
    · rw [if_neg b]
      by_cases c : p < k
      · rw [if_pos c, if_pos (show p < k + 1 from by omega)]
      · rw [if_neg c, if_neg (show ¬ p < k + 1 from by omega)]
        by_cases d : 28 ≤ p ∧ p < 28 + k
        · rw [if_pos d, if_pos (show 28 ≤ p ∧ p < 28 + (k + 1) from by omega)]
        · rw [if_neg d, if_neg (show ¬ (28 ≤ p ∧ p < 28 + (k + 1)) from by omega)]
theorem splice_take_succ (z b : Bytes) (o k : Nat) (hk : k < b.length) (hz : o + b.length ≤ z.length) : (splice z o (b.take k)).set (o + k) b[k] = splice z o (b.take (k + 1)) := by
  have h1 : (b.take k).length = k := by simp; omega
  have h2 : (b.take (k + 1)).length = k + 1 := by simp; omega
  apply List.ext_getElem?
  intro p
  rw [List.getElem?_set, splice_len _ _ _ (by omega), splice_rd _ _ _ _ (by omega), splice_rd _ _ _ _ (by omega), h1, h2]
  by_cases a : o + k = p
  · subst a
    rw [if_pos rfl, if_pos (by omega), if_pos (by omega), Nat.add_sub_cancel_left, List.getElem?_take, if_pos (by omega), List.getElem?_eq_getElem hk]
  · rw [if_neg a]
    by_cases c : o ≤ p ∧ p < o + k
    · rw [if_pos c, if_pos (by omega), List.getElem?_take, List.getElem?_take, if_pos (by omega), if_pos (by omega)]
    · rw [if_neg c, if_neg (by omega)]
theorem makeK_done (st : Nat) (b : Bytes) (h : b.length ≤ 24) : makeK (splice (List.replicate 32 0) 4 b) st 4 = makeB st b := by
  rw [← makeB_steps st b h]
  unfold makeK
  have hn := numB_length st 4
  have hz : (List.replicate 32 (0 : UInt8)).length = 32 := by simp
  congr 1
  apply List.ext_getElem?
  intro p
  have h1 : (splice (List.replicate 32 (0 : UInt8)) 4 b).length = 32 := by rw [splice_len _ _ _ (by omega), hz]
  have h2 : (splice (List.replicate 32 (0 : UInt8)) 0 (numB st 4)).length = 32 := by rw [splice_len _ _ _ (by omega), hz]
  rw [splice_rd _ _ _ _ (by omega), splice_rd _ _ _ _ (by omega), splice_rd _ _ _ _ (by omega), splice_rd _ _ _ _ (by omega), hn]
  by_cases a : 0 ≤ p ∧ p < 0 + 4
  · rw [if_pos a, if_neg (by omega), if_pos a]
  · rw [if_neg a]
    by_cases c : 4 ≤ p ∧ p < 4 + b.length
    · rw [if_pos c, if_pos c]
    · rw [if_neg c, if_neg c, if_neg a]

theorem refMake_e1 (st : Int) (A : Option Addr) (n c : Nat) (w : World) (h : st < 1 ∨ 4294967295 < st) :
    Calls Tryd.prog 96 #[.int .i64 st, .slice A n c] w fun e w' => e = .returned (.tuple #[.slice none 0 0, .int .i64 1]) ∧ w = w' := by
  by_cases h1 : st < 1
  · clear h
    go_enter Tryd.func96, Tryd.ntmps96
    go_wp2
    go_ret2
    exact ⟨rfl, rfl⟩
  · have h2 : 4294967295 < st := by omega
    clear h
    go_enter Tryd.func96, Tryd.ntmps96
    go_wp2
    go_ret2
    exact ⟨rfl, rfl⟩
theorem refMake_e4 (st : Int) (A : Option Addr) (n c : Nat) (w : World) (h1 : 1 ≤ st) (h2 : st ≤ 4294967295) (hn : 24 < n) :
    Calls Tryd.prog 96 #[.int .i64 st, .slice A n c] w fun e w' => e = .returned (.tuple #[.slice none 0 0, .int .i64 4]) ∧ w = w' := by
  go_enter Tryd.func96, Tryd.ntmps96
  go_wp2
  go_ret2
  exact ⟨rfl, rfl⟩
set_option maxRecDepth 100000 in
theorem refMake_ok (st : Nat) (A : Option Addr) (n c : Nat) (b : Bytes) (w : World) (hbn : b.length = n) (h1 : 1 ≤ st) (h2 : st ≤ 4294967295) (hn : n ≤ 24) (hr : Rd w A b) :
    Calls Tryd.prog 96 #[.int .i64 st, .slice A n c] w fun e w' => ∃ g, e = .returned (.tuple #[.slice (some ⟨g, 0, none⟩) 32 32, .int .i64 0]) ∧ w.heap.size ≤ g ∧ Row w' 5 g 32 (makeB st b) ∧ Below w.heap.size w w' := by
  have hmk := mk_bytes 32 32 rfl (by omega) w
  have hz := row_zeros w 32 (by simp [maxLen])
  have hB1 : Below w.heap.size w (w.alloc (.cells (zeroRow 32) 5)) := (Below.refl _ _).alloc (Nat.le_refl _) _
  have hzl : (List.replicate 32 (0 : UInt8)).length = 32 := by simp
  have HZ := Hidden.mk hzl
  obtain ⟨z0, hz0⟩ : ∃ z0, z0 = List.replicate 32 (0 : UInt8) := ⟨_, rfl⟩
  rw [← hz0] at hz hzl HZ
  have HZZ := Hidden.mk hz0
  clear hz0
  subst hbn
  go_enter Tryd.func96, Tryd.ntmps96
  go_wp2_with fail
  generalize w.alloc (.cells (zeroRow 32) 5) = w1 at *
  go_loopw [7] (fun i wr => ∃ k : Nat, k ≤ b.length ∧ i = .int .i64 k ∧ Below w.heap.size w wr ∧ Row wr 5 w.heap.size 32 (splice z0 4 (b.take k))) (fun i _ => b.length - (intOf i).toNat)
  case atStart => exact ⟨0, Nat.zero_le _, rfl, hB1, by simpa [splice] using hz⟩
  case round =>
    obtain ⟨k, hk, rfl, hbel, hrow⟩ := hrel
    by_cases hlt : k < b.length
    · obtain ⟨q, off, rfl, hc⟩ := (hr.below hbel) k hlt
      have hsl : (splice z0 4 (b.take k)).length = 32 := by rw [splice_len _ _ _ (by simp; have := HZ.out; omega), HZ.out]
      have hcell := hrow.cell (4 + k) (by omega)
      have hfr := hrow.frozen (4 + k)
      have hst := hrow.store (4 + k) (by omega) b[k]
      rw [splice_take_succ z0 b 4 k hlt (by have := HZ.out; omega)] at hst
      have hbn := Row.keepB hbel (g := w.heap.size) (p := 4 + k) (Nat.le_refl _) (bv b[k])
      have k0 : (0 : Int) ≤ k := by omega
      have k1 : (k : Int) < b.length := by omega
      have s1 : IntKind.i64.wrap (4 + (k : Int)) = 4 + (k : Int) := IntWalk.i64_in _ (by omega)
      generalize (splice z0 4 (b.take k))[4 + k] = u at hcell
      clear hrow hsl
      go_wp2_with fail
      go_roundw
      case rel => exact ⟨k + 1, by omega, by go_num, hbn, hst⟩
      case measure => simp [intOf]; omega
    · obtain rfl : k = b.length := by omega
      rw [List.take_length] at hrow
      have hl1 : (splice z0 4 b).length = 32 := by rw [splice_len _ _ _ (by have := HZ.out; omega), HZ.out]
      have HD : Hidden (makeK (splice z0 4 b) st 4 = makeB st b) := ⟨by rw [HZZ.out]; exact makeK_done st b hn⟩
      generalize splice z0 4 b = l1 at *
      go_wp2_with fail
      go_loopw [8, 9] (fun nv iv w2 => ∃ k : Nat, k ≤ 4 ∧ iv = .int .i64 k ∧ nv = .int .i64 ((st / 2 ^ (8 * k) : Nat) : Int) ∧ Below w.heap.size w w2 ∧ Row w2 5 w.heap.size 32 (makeK l1 st k)) (fun _ iv _ => 4 - (intOf iv).toNat)
      case atStart => exact ⟨0, Nat.zero_le _, rfl, by simp, hbel, by simpa [makeK, numB, splice] using hrow⟩
      case round =>
        obtain ⟨k, hk, rfl, rfl, hbel2, hrow2⟩ := hrel
        by_cases hlt2 : k < 4
        · have hml := makeK_len l1 st k hl1 hk
          have hd := div_step st k
          have hms := makeK_step l1 st k hl1 hlt2
          have HD2 := Hidden.mk hd
          have hcell1 := hrow2.cell k (by omega)
          have hfr1 := hrow2.frozen k
          have hst1 := hrow2.store k (by omega) (UInt8.ofNat (st / 2 ^ (8 * k) % 256))
          have hbn1 := Row.keepB hbel2 (g := w.heap.size) (p := k) (Nat.le_refl _) (bv (UInt8.ofNat (st / 2 ^ (8 * k) % 256)))
          have hcell2 := hst1.cell (28 + k) (by rw [List.length_set]; omega)
          have hfr2 := hst1.frozen (28 + k)
          have hst2 := hst1.store (28 + k) (by rw [List.length_set]; omega) (UInt8.ofNat (st / 2 ^ (8 * k) % 256))
          have hbn2 := Row.keepB hbn1 (g := w.heap.size) (p := 28 + k) (Nat.le_refl _) (bv (UInt8.ofNat (st / 2 ^ (8 * k) % 256)))
          rw [hms] at hst2
          have hbv : bv (UInt8.ofNat (st / 2 ^ (8 * k) % 256)) = .int .u8 ((st / 2 ^ (8 * k) : Nat) % 256 : Int) := by simp only [bv, ofNat_mod]; rfl
          have hmle : st / 2 ^ (8 * k) ≤ 4294967295 := Nat.le_trans (Nat.div_le_self _ _) h2
          rw [hbv] at hst1 hbn1 hcell2 hfr2 hst2 hbn2
          generalize st / 2 ^ (8 * k) = m at *
          have s1 : IntKind.i64.wrap (28 + (k : Int)) = 28 + (k : Int) := IntWalk.i64_in _ (by omega)
          clear hms hd hbv
          go_wp2_with fail
          go_roundw
          case rel => exact ⟨k + 1, by omega, by go_num, int_i64 (by have := HD2.out; omega), hbn2, hst2⟩
          case measure => simp [intOf]; omega
        · obtain rfl : k = 4 := by omega
          go_wp2_with fail
          go_ret2
          exact ⟨w.heap.size, rfl, Nat.le_refl _, by rw [← HD.out]; exact hrow2, hbel2⟩
theorem refMake_any (st : Int) (A : Option Addr) (n c : Nat) (b : Bytes) (w : World) (hn : b.length = n) (hr : Rd w A b) :
    Calls Tryd.prog 96 #[.int .i64 st, .slice A n c] w fun e w' => ∃ A' c', e = .returned (.tuple #[.slice A' (makeF st b).1.length c', .int .i64 (makeF st b).2]) ∧ Rd w' A' (makeF st b).1 ∧ Below w.heap.size w w' := by
  unfold makeF
  by_cases h1 : st < 1 ∨ 4294967295 < st
  · rw [if_pos h1]
    refine (refMake_e1 st A n c w h1).mono ?_
    rintro e w' ⟨rfl, rfl⟩
    exact ⟨none, 0, rfl, Rd.nil_, Below.refl _ _⟩
  · rw [if_neg h1]
    by_cases h2 : 24 < b.length
    · rw [if_pos h2]
      refine (refMake_e4 st A n c w (by omega) (by omega) (by omega)).mono ?_
      rintro e w' ⟨rfl, rfl⟩
      exact ⟨none, 0, rfl, Rd.nil_, Below.refl _ _⟩
    · rw [if_neg h2]
      obtain ⟨s, rfl⟩ := Int.eq_ofNat_of_zero_le (show 0 ≤ st by omega)
      refine (refMake_ok s A n c b w hn (by omega) (by omega) (by omega) hr).mono ?_
      rintro e w' ⟨g, rfl, hg, hrow, hb⟩
      rw [Int.toNat_natCast]
      exact ⟨some ⟨g, 0, none⟩, 32, by rw [makeB_len _ _ (by omega)]; rfl, hrow.rd, hb⟩
end Go.Proofs.YtgejkhokijjemaaDoor
/- The contracts of the reference's Name, NameBytes and ReadName. -/
namespace Go.Proofs.YtgejkhokijjemaaDoor
open Go.RowKit

theorem isName_bad (s : Bytes) (k : Nat) (hk : k < s.length) (h : notLower s[k] = true) : isName s = false := by
  unfold isName
  rw [List.any_eq_true.2 ⟨s[k], List.getElem_mem hk, h⟩]
  simp
theorem idxOf_at (l : Bytes) (k : Nat) (hk : k ≤ l.length) (h : ∀ x ∈ l.take k, nonZero x = true) (he : k = l.length ∨ ∃ h' : k < l.length, l[k] = 0) : l.idxOf 0 = k := by
  have hn : (0 : UInt8) ∉ l.take k := fun h0 => by have := h 0 h0; simp [nonZero] at this
  rcases he with rfl | ⟨h', hz⟩
  · rw [List.take_length] at hn
    exact List.idxOf_eq_length hn
  · have := idxB_at l 0 k h' hn hz
    have hm : (0 : UInt8) ∈ l := by rw [← hz]; exact List.getElem_mem h'
    unfold idxB at this
    rw [if_pos hm] at this
    omega
end Go.Proofs.YtgejkhokijjemaaDoor
/- What stays: all but the blocks of a set. No program in sight. -/
namespace Go.Proofs.YtgejkhokijjemaaDoor
open Go.RowKit

/-- all that is not in F is as it was; F: the blocks that a device takes -/
structure Keep (F : Nat → Prop) (w w' : World) : Prop where
  os : w'.os = w.os
  tape : w'.tape = w.tape
  output : w'.output = w.output
  size : w.heap.size ≤ w'.heap.size
  block : ∀ k, k < w.heap.size → ¬ F k → w'.heap[k]? = w.heap[k]?
theorem Keep.refl (F : Nat → Prop) (w : World) : Keep F w w := ⟨rfl, rfl, rfl, Nat.le_refl _, fun _ _ _ => rfl⟩
theorem Keep.trans {F F' : Nat → Prop} {a b c : World} (h : Keep F a b) (k : Keep F' b c) (hF : ∀ x, F' x → F x ∨ a.heap.size ≤ x) : Keep F a c :=
  ⟨k.os.trans h.os, k.tape.trans h.tape, k.output.trans h.output, Nat.le_trans h.size k.size, fun x hx hn =>
    (k.block x (Nat.lt_of_lt_of_le hx h.size) (fun hf => by rcases hF x hf with h' | h'; exact hn h'; omega)).trans (h.block x hx hn)⟩
theorem Keep.of_below {F : Nat → Prop} {w w' : World} (h : Below w.heap.size w w') : Keep F w w' := ⟨h.os, h.tape, h.output, h.size, fun k hk _ => h.block k hk⟩
theorem Keep.below {F : Nat → Prop} {B : Nat} {w w' : World} (h : Keep F w w') (hB : B ≤ w.heap.size) (hF : ∀ k, F k → B ≤ k) : Below B w w' :=
  ⟨h.os, h.tape, h.output, h.size, fun k hk => h.block k (by omega) (fun hf => by have := hF k hf; omega)⟩
theorem Keep.rd {F : Nat → Prop} {w w' : World} {A : Option Addr} {l : Bytes} (h : Keep F w w') (hr : Rd w A l) (hA : ∀ ad, A = some ad → ¬ F ad.block) : Rd w' A l := fun j hj => by
  obtain ⟨b, off, rfl, hc⟩ := hr j hj
  exact ⟨b, off, rfl, (World.cell?_of_block (w := w) (h.block b (block_lt_of_cell hc) (hA _ rfl))).trans hc⟩
theorem Keep.row {F : Nat → Prop} {w w' : World} {e g cap : Nat} {l : Bytes} (h : Keep F w w') (hr : Row w e g cap l) (hg : ¬ F g) : Row w' e g cap l := by
  obtain ⟨cur, h0, h1⟩ := hr
  exact ⟨cur, (h.block g (Array.getElem?_eq_some_iff.1 h0).1 hg).trans h0, h1⟩
theorem Keep.drewN {F : Nat → Prop} {w w' : World} (h : Keep F w w') (n : Nat) : Keep F w (w'.drewN n) := ⟨h.os, h.tape, h.output, h.size, h.block⟩

section
variable {w w' : World}
theorem ownsRow_block {base : Nat} {e : TypeId} {size : Nat} {v : Value} {n : Nat} {xs : List Value} (h : w.ownsRow base e size v n xs) (hb : ∀ q, v.ownBlock = some q → w'.heap[q]? = w.heap[q]?) : w'.ownsRow base e size v n xs := by
  refine ⟨h.1, ?_⟩
  rcases h.2 with hn | ⟨g, cap, cur, rfl, hb0, hgg, rest⟩
  · exact .inl hn
  · exact .inr ⟨g, cap, cur, rfl, hb0, (hb g rfl).trans hgg, rest⟩
theorem Row.block {e g cap : Nat} {l : Bytes} (h : Row w e g cap l) (hb : w'.heap[g]? = w.heap[g]?) : Row w' e g cap l := by
  obtain ⟨cur, h0, h1⟩ := h
  exact ⟨cur, hb.trans h0, h1⟩
theorem ne_cells {g : Nat} {cur cur' : Array Value} {t t' : TypeId} (h1 : w.heap[g]? = some (.cells cur t (0, 0))) {g' : Nat} (h2 : w.heap[g']? = some (.cells cur' t' (0, 0))) (hne : t ≠ t') : g ≠ g' := fun e => by
  rw [e, h2] at h1
  injection h1 with h1
  injection h1 with _ h1
  exact hne h1.symm
theorem ne_row {g : Nat} {cur : Array Value} {t : TypeId} (h1 : w.heap[g]? = some (.cells cur t (0, 0))) {e g' cap : Nat} {l : Bytes} (h2 : Row w e g' cap l) (hne : t ≠ e) : g ≠ g' := by
  obtain ⟨cur', h0, _⟩ := h2
  exact ne_cells h1 h0 hne
end
theorem heap_setK {w : World} {d k : Nat} {cur : Array Value} {t : TypeId} (h : w.heap[d]? = some (.cells cur t (0, 0))) (v : Value) : (w.setCell ⟨d, k, none⟩ v).heap[d]? = some (.cells (cur.setIfInBounds k v) t (0, 0)) := by
  rw [setCell_eq_setRow w d k cur t _ _ h]
  exact setRow_heap w d cur _ t _ h
def FourAt (w : World) (p : Nat) (a b c d : Int) : Prop := w.cell? ⟨p, 0, none⟩ = some (.int .i64 a) ∧ w.cell? ⟨p, 1, none⟩ = some (.int .i64 b) ∧ w.cell? ⟨p, 2, none⟩ = some (.int .i64 c) ∧ w.cell? ⟨p, 3, none⟩ = some (.int .i64 d)
theorem fourAt_one (w : World) (a b c d : Int) (t : TypeId) : FourAt (w.alloc (.cells #[.int .i64 a, .int .i64 b, .int .i64 c, .int .i64 d] t)) w.heap.size a b c d := by
  have h := heap_alloc_new w (.cells #[.int .i64 a, .int .i64 b, .int .i64 c, .int .i64 d] t)
  unfold FourAt
  simp only [World.cell?]
  rw [h]
  exact ⟨rfl, rfl, rfl, rfl⟩
theorem FourAt.below {w w' : World} {p : Nat} {a b c d : Int} (h : FourAt w p a b c d) (hb : Below w.heap.size w w') : FourAt w' p a b c d := by
  have hlt := block_lt_of_cell h.1
  exact ⟨(hb.cell (p := ⟨p, 0, none⟩) hlt).trans h.1, (hb.cell (p := ⟨p, 1, none⟩) hlt).trans h.2.1, (hb.cell (p := ⟨p, 2, none⟩) hlt).trans h.2.2.1, (hb.cell (p := ⟨p, 3, none⟩) hlt).trans h.2.2.2⟩
end Go.Proofs.YtgejkhokijjemaaDoor
/- The reference on images: Image, Handle, Zero, RootAt, Entry, Wipe. -/
namespace Go.Proofs.YtgejkhokijjemaaDoor
open Go.RowKit

theorem zeroE_at (l : Bytes) (j : Nat) (hj : j < l.length) (h : nonZero l[j] = true) : zeroE l = false := by
  unfold zeroE
  rw [Bool.not_eq_false', List.any_eq_true]
  exact ⟨l[j], List.getElem_mem hj, h⟩
theorem zeroE_none (l : Bytes) (h : ∀ x ∈ l, nonZero x = false) : zeroE l = true := by
  unfold zeroE
  rw [Bool.not_eq_true', List.any_eq_false]
  intro x hx; rw [h x hx]; simp
theorem hd_get (r : Bytes) (h : 0 < r.length) : r[0] = rHd r := by
  cases r with
  | nil => simp at h
  | cons x y => rfl
theorem fourAt_new (w : World) (f : Obj) (a b c d : Int) (t : TypeId) : FourAt ((w.alloc f).alloc (.cells #[.int .i64 a, .int .i64 b, .int .i64 c, .int .i64 d] t)) (w.heap.size + 1) a b c d := by
  have h := heap_alloc_new (w.alloc f) (.cells #[.int .i64 a, .int .i64 b, .int .i64 c, .int .i64 d] t)
  rw [show (w.alloc f).heap.size = w.heap.size + 1 by simp] at h
  unfold FourAt
  simp only [World.cell?]
  rw [h]
  exact ⟨rfl, rfl, rfl, rfl⟩
end Go.Proofs.YtgejkhokijjemaaDoor
/- The reference on images: copied, Wipe. -/
namespace Go.Proofs.YtgejkhokijjemaaDoor
open Go.RowKit

set_option maxRecDepth 100000 in
theorem refCopied_ok (p off n c : Nat) (l : Bytes) (w : World) (hn : l.length = n) (h1 : 1 ≤ n) (hl : n ≤ 140737488351232) (hr : Rd w (some ⟨p, off, none⟩) l) :
    Calls Tryd.prog 83 #[.slice (some ⟨p, off, none⟩) n c] w fun e w' => ∃ g cap, e = .returned (.slice (some ⟨g, 0, none⟩) n cap) ∧ w.heap.size ≤ g ∧ n ≤ cap ∧ Row w' 5 g cap l ∧ Below w.heap.size w w' := by
  obtain ⟨i0, hi0, hz0, hz1, hz2⟩ := info_parts byte_info
  go_enter Tryd.func83, Tryd.ntmps83
  go_wp2_with (at_builtin; refine wpList_append_own _ rfl (.tmp 4) (.tmp 5) _ rfl w.heap.size 5 i0 _ 1 1 Tryd.underlying48 hi0 hz0 hz1 hz2 rfl (by decide) (.slice none 0 0) 0 [] rfl (World.ownsRow_nil _ _ _ _) ⟨p, off, none⟩ n c (l.map bv) rfl (by simp; omega) hr.cells one_bv (by simp only [maxLen]; omega) (by omega) (Nat.le_refl _) ?_; intro v1 w1 hown1 hg1 hnn1)
  have hb1 : Below w.heap.size w w1 := (Below.refl _ _).grown hg1 (Nat.le_refl _) (fun k hk => by simp [Value.ownBlock] at hk)
  have hO : Own w1 w.heap.size 5 v1 l := by unfold Own; simpa [hn] using hown1
  have hne : v1 ≠ .slice none 0 0 := fun h => by
    subst h
    rcases hO.2 with ⟨_, h0⟩ | ⟨g, cap, cur, h, _⟩
    · omega
    · cases h
  obtain ⟨g, cap, hv, hbg, hrow⟩ := Row.of_own hO hne
  rw [hn] at hv
  subst hv
  have hcap := hrow.le.1
  clear hO hne hown1 hg1 hnn1
  go_ret
  exact ⟨g, cap, rfl, hbg, by omega, hrow, hb1⟩
end Go.Proofs.YtgejkhokijjemaaDoor
/- The region of diff.Diff that appends a change: in whatever order. -/
namespace Go.Proofs.YtgejkhokijjemaaDoor
open Go.RowKit

theorem Row.grown {w w' : World} {e g cap : Nat} {l : Bytes} {r : Option Nat} (h : Row w e g cap l) (hg : w.grownBy w' r) (hr : r ≠ some g) : Row w' e g cap l := by
  obtain ⟨cur, h0, h1⟩ := h
  exact ⟨cur, (hg.block g (Array.getElem?_eq_some_iff.1 h0).1 (fun e => hr e.symm)).trans h0, h1⟩
theorem change_info : (Tryd.prog.info? 160).map (fun i => (i.zero, i.size, i.bytes)) = some (some (.agg #[.int .i64 0, .slice none 0 0, .slice none 0 0]), 3, 56) := by kernel_rfl

/-- the region with a number, in a body -/
def findReg (id : Nat) : Code → Option Code
  | .region i ops d => if i = id then some (.region i ops d) else none
  | .seq a b => match findReg id a with
    | some c => some c
    | none => findReg id b
  | .cond _ a b => match findReg id a with
    | some c => some c
    | none => findReg id b
  | .block _ c => findReg id c
  | .loop c => findReg id c
  | .scope c => findReg id c
  | _ => none
noncomputable def diffReg : Code := ((Tryd.f44.body.bind (findReg 12)).getD .skip)

set_option maxRecDepth 100000 in
set_option maxHeartbeats 1000000 in
theorem diff_region (Q : Exit → Act → World → Prop) (p off q off2 n c d i k : Nat) (v : Value) (m : Nat) (xs : List Value) (base : Nat) (a b : Bytes) (w : World) (u2 u3 u4 u5 u9 u10 u11 u12 u13 u14 u15 u16 u17 u18 u19 u20 u21 u22 u23 u24 u25 u26 u27 u28 u29 u30 u31 u32 u33 u34 u35 u36 u37 u38 u39 u40 u41 u42 u43 u44 u45 u46 u47 u48 u49 u50 u51 u52 u53 u54 u55 u56 u57 u58 u59 u60 u61 u62 u63 : Value)
    (han : a.length = n) (hbn : b.length = n) (ha : Rd w (some ⟨p, off, none⟩) a) (hb : Rd w (some ⟨q, off2, none⟩) b) (hik : i < k) (hkn : k ≤ n) (hn : n ≤ 6400) (hkc : k ≤ c) (hkd : k ≤ d) (hci : ¬ c = i) (hdi : ¬ d = i)
    (hown : w.ownsRow base 160 3 v m xs) (hbase : base ≤ w.heap.size) (hm : m ≤ 100000)
    (h : ∀ v' w' g1 c1 g2 c2 (x46 x47 x48 x49 x50 x51 x52 x53 x54 x55 x56 x57 x58 x59 x60 : Value), w'.ownsRow base 160 3 v' (m + 1) (xs ++ [.int .i64 i, .slice (some ⟨g1, 0, none⟩) (k - i) c1, .slice (some ⟨g2, 0, none⟩) (k - i) c2]) →
      w.heap.size ≤ g1 → w.heap.size ≤ g2 → Row w' 5 g1 c1 ((a.drop i).take (k - i)) → Row w' 5 g2 c2 ((b.drop i).take (k - i)) → w.grownBy w' v.ownBlock → Q .normal ⟨#[.slice (some ⟨p, off, none⟩) n c, .slice (some ⟨q, off2, none⟩) n d, u2, u3, u4, u5, v', .int .i64 i, .int .i64 k, u9, u10, u11, u12, u13, u14, u15, u16, u17, u18, u19, u20, u21, u22, u23, u24, u25, u26, u27, u28, u29, u30, u31, u32, u33, u34, u35, u36, u37, u38, u39, u40, u41, u42, u43, u44, u45, x46, x47, x48, x49, x50, x51, x52, x53, x54, x55, x56, x57, x58, x59, x60, u61, u62, u63], []⟩ w') :
    Code.wp Tryd.prog diffReg Q ⟨#[.slice (some ⟨p, off, none⟩) n c, .slice (some ⟨q, off2, none⟩) n d, u2, u3, u4, u5, v, .int .i64 i, .int .i64 k, u9, u10, u11, u12, u13, u14, u15, u16, u17, u18, u19, u20, u21, u22, u23, u24, u25, u26, u27, u28, u29, u30, u31, u32, u33, u34, u35, u36, u37, u38, u39, u40, u41, u42, u43, u44, u45, u46, u47, u48, u49, u50, u51, u52, u53, u54, u55, u56, u57, u58, u59, u60, u61, u62, u63], []⟩ w := by
  obtain ⟨i0, hi0, hz0, hz1, hz2⟩ := info_parts change_info
  have cA : ∀ W, Below w.heap.size w W → Calls Tryd.prog 81 #[.slice (some ⟨p, off + i, none⟩) (k - i) (c - i)] W fun e w' => ∃ g cap, e = .returned (.slice (some ⟨g, 0, none⟩) (k - i) cap) ∧ W.heap.size ≤ g ∧ Row w' 5 g cap ((a.drop i).take (k - i)) ∧ Below W.heap.size W w' := fun W hW =>
    clone_some _ (k - i) _ ((a.drop i).take (k - i)) W (by simp; omega) (by omega) (by have := (ha.below hW).cut i (k - i) (by omega); simpa [Addr.add_lit] using this)
  have cB : ∀ W, Below w.heap.size w W → Calls Tryd.prog 81 #[.slice (some ⟨q, off2 + i, none⟩) (k - i) (d - i)] W fun e w' => ∃ g cap, e = .returned (.slice (some ⟨g, 0, none⟩) (k - i) cap) ∧ W.heap.size ≤ g ∧ Row w' 5 g cap ((b.drop i).take (k - i)) ∧ Below W.heap.size W w' := fun W hW =>
    clone_some _ (k - i) _ ((b.drop i).take (k - i)) W (by simp; omega) (by omega) (by have := (hb.below hW).cut i (k - i) (by omega); simpa [Addr.add_lit] using this)
  have HA := Hidden.mk cA
  have HB := Hidden.mk cB
  have hik' : i ≤ k := by omega
  clear cA cB ha hb han hbn
  conv => arg 2; whnf
  go_region_held3 (fun _ => True) (first | trivial)
    (first
      | (go_at_call 81; refine (HA.out _ (by exact (Below.refl _ _).drew)).mono ?_; rintro e w1 ⟨g1, cap1, rfl, hg1, hrow1, hb1⟩)
      | (go_at_call 81; refine (HB.out w1 (by exact ((Below.refl _ _).drew).trans hb1)).mono ?_; rintro e w2 ⟨g2, cap2, rfl, hg2, hrow2, hb2⟩; have hB2 : Below w.heap.size w w2 := (((Below.refl _ _).drew).trans hb1).trans (hb2.mono hb1.size))
      | (refine step_append_lies _ (by rfl) _ _ _ (by rfl) base 160 i0 _ 3 56 Tryd.underlying85 hi0 hz0 hz1 hz2 rfl (by omega) v m xs (by rfl) (own_below hown (hB2.alloc hB2.size _))
          ⟨w2.heap.size, 0, none⟩ 1 1 [.int .i64 i, .slice (some ⟨g1, 0, none⟩) (k - i) cap1, .slice (some ⟨g2, 0, none⟩) (k - i) cap2] (by rfl) (by rfl) (World.news_of_block (cs := #[.int .i64 i, .slice (some ⟨g1, 0, none⟩) (k - i) cap1, .slice (some ⟨g2, 0, none⟩) (k - i) cap2]) (t := 160) (fr := (0, 0)) (heap_alloc_new w2 _)) (by simp [Value.oneCell'])
          (by omega) (by simp only [maxLen]; omega) (by omega) (by simp; have := hB2.size; omega) (w2.heap.size + 1) (by simp) ?_; intro gg cap w3 hown3 hgrow hat hlt))
  have hal : Below w2.heap.size w2 (w2.alloc (.cells #[.int .i64 i, .slice (some ⟨g1, 0, none⟩) (k - i) cap1, .slice (some ⟨g2, 0, none⟩) (k - i) cap2] 160)) := (Below.refl _ _).alloc (Nat.le_refl _) _
  have hg1' : w.heap.size ≤ g1 := hg1
  have hg2' : w.heap.size ≤ g2 := Nat.le_trans hb1.size hg2
  have hne1 : v.ownBlock ≠ some g1 := fun e => by have := (hown.lt _ e).2; omega
  have hne2 : v.ownBlock ≠ some g2 := fun e => by have := (hown.lt _ e).2; omega
  refine h _ _ g1 cap1 g2 cap2 _ _ _ _ _ _ _ _ _ _ _ _ _ _ _ hown3 hg1' hg2' (((hrow1.below hb2 hrow1.lt).below hal (Nat.lt_of_lt_of_le hrow1.lt hb2.size)).grown hgrow hne1) ((hrow2.below hal hrow2.lt).grown hgrow hne2) (grown_trans' (hB2.trans (hal.mono hB2.size)) hgrow)
end Go.Proofs.YtgejkhokijjemaaDoor
/- The contract of diff.Diff. -/
namespace Go.Proofs.YtgejkhokijjemaaDoor
open Go.RowKit

/-- one change, as it lies in a row of the call's own -/
def ChAt (w : World) (base : Nat) (xs : List Value) (i : Nat) (c : Chg) : Prop :=
  ∃ go co gn cn, base ≤ go ∧ base ≤ gn ∧ xs[3 * i]? = some (.int .i64 c.at_) ∧ xs[3 * i + 1]? = some (.slice (some ⟨go, 0, none⟩) c.old.length co) ∧ xs[3 * i + 2]? = some (.slice (some ⟨gn, 0, none⟩) c.new.length cn) ∧
    Row w 5 go co c.old ∧ Row w 5 gn cn c.new
/-- the slice v is the call's own, and has the changes L -/
def OwnC (w : World) (base : Nat) (v : Value) (L : List Chg) : Prop :=
  ∃ xs, w.ownsRow base 160 3 v L.length xs ∧ ∀ i (h : i < L.length), ChAt w base xs i L[i]

theorem own_row_ne {w : World} {base : Nat} {e e' : TypeId} {size : Nat} {v : Value} {n : Nat} {xs : List Value} {g cap : Nat} {l : Bytes} (h : w.ownsRow base e size v n xs) (hr : Row w e' g cap l) (hne : e ≠ e') : v.ownBlock ≠ some g := by
  rcases h.2 with ⟨rfl, _⟩ | ⟨g', cap', cur, rfl, _, hh, _⟩
  · simp [Value.ownBlock]
  · intro he
    have : g' = g := by simpa [Value.ownBlock] using he
    subst this
    obtain ⟨cur', h0, _⟩ := hr
    rw [hh] at h0
    injection h0 with h0
    injection h0 with _ ht
    exact hne ht
theorem OwnC.snoc {w w' : World} {base : Nat} {v v' : Value} {L : List Chg} {xs : List Value} {at_ : Int} {g1 c1 g2 c2 n m : Nat} {old new : Bytes} (h : w.ownsRow base 160 3 v L.length xs) (hat : ∀ i (h : i < L.length), ChAt w base xs i L[i])
    (h' : w'.ownsRow base 160 3 v' (L.length + 1) (xs ++ [.int .i64 at_, .slice (some ⟨g1, 0, none⟩) n c1, .slice (some ⟨g2, 0, none⟩) m c2])) (hg : w.grownBy w' v.ownBlock)
    (hr1 : Row w' 5 g1 c1 old) (hr2 : Row w' 5 g2 c2 new) (ho : old.length = n) (hn : new.length = m) (hb1 : base ≤ g1) (hb2 : base ≤ g2) : OwnC w' base v' (L ++ [⟨at_, old, new⟩]) := by
  subst ho hn
  have hlen : xs.length = L.length * 3 := h.1
  refine ⟨_, by simpa using h', fun i hi => ?_⟩
  rw [List.length_append, List.length_singleton] at hi
  by_cases hlt : i < L.length
  · obtain ⟨go, co, gn, cn, h1, h2, e0, e1, e2, r1, r2⟩ := hat i hlt
    rw [List.getElem_append_left hlt]
    refine ⟨go, co, gn, cn, h1, h2, ?_, ?_, ?_, r1.grown hg (own_row_ne h r1 (by decide)), r2.grown hg (own_row_ne h r2 (by decide))⟩
    · rw [List.getElem?_append_left (by omega)]; exact e0
    · rw [List.getElem?_append_left (by omega)]; exact e1
    · rw [List.getElem?_append_left (by omega)]; exact e2
  · obtain rfl : i = L.length := by omega
    rw [List.getElem_append_right (Nat.le_refl _)]
    refine ⟨g1, c1, g2, c2, hb1, hb2, ?_, ?_, ?_, by simpa using hr1, by simpa using hr2⟩
    · rw [List.getElem?_append_right (by omega), show 3 * L.length - xs.length = 0 from by omega]; simp
    · rw [List.getElem?_append_right (by omega), show 3 * L.length + 1 - xs.length = 1 from by omega]; simp
    · rw [List.getElem?_append_right (by omega), show 3 * L.length + 2 - xs.length = 2 from by omega]; simp

theorem diff_e3 (A B : Option Addr) (n m c d : Nat) (w : World) (h : n ≠ m) :
    Calls Tryd.prog 44 #[.slice A n c, .slice B m d] w fun e w' => e = .returned (.tuple #[.slice none 0 0, .iface 121 (.int .i64 3)]) ∧ w = w' := by
  have h' : ((n : Int) != (m : Int)) = true := by simp; omega
  clear h
  go_enter Tryd.func44, Tryd.ntmps44
  go_wp2
  go_ret2
  exact ⟨rfl, rfl⟩
theorem diff_e4 (A B : Option Addr) (n c d : Nat) (w : World) (h : 6400 < n) :
    Calls Tryd.prog 44 #[.slice A n c, .slice B n d] w fun e w' => e = .returned (.tuple #[.slice none 0 0, .iface 121 (.int .i64 4)]) ∧ w = w' := by
  go_enter Tryd.func44, Tryd.ntmps44
  go_wp2
  go_ret2
  exact ⟨rfl, rfl⟩

set_option maxRecDepth 100000 in
theorem diff_ok (A B : Option Addr) (n c d : Nat) (a b : Bytes) (w : World) (hn : a.length = n) (hm : b.length = n) (hle : n ≤ 6400) (hc : n ≤ c) (hd : n ≤ d) (ha : Rd w A a) (hb : Rd w B b) :
    Calls Tryd.prog 44 #[.slice A n c, .slice B n d] w fun e w' => ∃ v, e = .returned (.tuple #[v, .nilIface]) ∧ OwnC w' w.heap.size v (diffL a b) ∧ Below w.heap.size w w' := by
  subst hn
  obtain ⟨i0, hi0, hz0, hz1, hz2⟩ := info_parts change_info
  go_enter Tryd.func44, Tryd.ntmps44
  go_wp2_with fail
  go_loopw [6, 7] (fun v i wr => ∃ (k : Nat) (L : List Chg), k ≤ a.length + 1 ∧ i = .int .i64 k ∧ Below w.heap.size w wr ∧ OwnC wr w.heap.size v L ∧ L.length ≤ k ∧ Hidden (L ++ diffF a b (a.length - k) k = diffL a b)) (fun _ i _ => a.length + 1 - (intOf i).toNat)
  case atStart => exact ⟨0, [], by omega, rfl, Below.refl _ _, ⟨[], World.ownsRow_nil _ _ _ _, by simp⟩, by simp, ⟨by simp [diffL]⟩⟩
  case round =>
    obtain ⟨i, L, hi, rfl, hbel, hown, hLi, HL⟩ := hrel
    by_cases hlt : i < a.length
    · have hrl := runAt_le a b i hm.symm (by omega)
      have hstep := diffF_step a b i hlt
      obtain ⟨wo, rfl⟩ : ∃ wo : World, wo = wr := ⟨_, rfl⟩
      have ha1 := ha.below hbel
      have hb1 := hb.below hbel
      obtain ⟨p, off, rfl, _⟩ := ha1 i hlt
      obtain ⟨q, off2, rfl, _⟩ := hb1 i (by omega)
      have HS := Hidden.mk hstep
      have HI := Hidden.mk hi
      clear hstep
      go_wp2_with fail
      go_loopw [8] (fun kk w2 => (∃ nq, w2 = wo.drewN nq) ∧ ∃ k : Nat, i ≤ k ∧ k ≤ a.length ∧ kk = .int .i64 k ∧ Hidden (∀ j, i ≤ j → j < k → a[j]? ≠ b[j]?)) (fun kk _ => a.length - (intOf kk).toNat)
      case atStart => exact ⟨⟨0, rfl⟩, i, by omega, by omega, rfl, ⟨fun j h1 h2 => by omega⟩⟩
      case round =>
        obtain ⟨⟨nq, rfl⟩, k, hik, hk, rfl, hne⟩ := hrel
        by_cases hk2 : k < a.length
        · have hcp := ha1.at_ k hk2
          have hcq := hb1.at_ k (by omega)
          by_cases he : a[k] = b[k]
          · have hbq : ((a[k].toNat : Int) != (b[k].toNat : Int)) = false := by simp [he]
            have HR : Hidden (runAt a b i = k - i) := ⟨runAt_at a b i k hm.symm hik hk hne.out (.inr (by rw [List.getElem?_eq_getElem hk2, List.getElem?_eq_getElem (by omega), he]))⟩
            clear hne
            go_wp2_with fail
            go_quiet (fail)
            by_cases hki : i < k
            · obtain ⟨xs, hxs, hat⟩ := hown
              go_wp2_with fail
              refine diff_region _ p off q off2 a.length c d i k u6 L.length xs w.heap.size a b _ _ _ _ _ _ _ _ _ _ _ _ _ _ _ _ _ _ _ _ _ _ _ _ _ _ _ _ _ _ _ _ _ _ _ _ _ _ _ _ _ _ _ _ _ _ _ _ _ _ _ _ _ _ _ _ _ _ _ _ rfl hm ha1 hb1 hki hk hle (by omega) (by omega) (by omega) (by omega) hxs hbel.size (by omega) ?_
              intro v' w3 g1 c1 g2 c2 x46 x47 x48 x49 x50 x51 x52 x53 x54 x55 x56 x57 x58 x59 x60 hown3 hg1 hg2 hrow1 hrow2 hgrow
              have hrun := HR.out
              have hst := HS.out
              rw [hrun, if_pos (by omega), show i + (k - i) + 1 = k + 1 from by omega] at hst
              have HL2 : Hidden ((L ++ [⟨i, (a.drop i).take (k - i), (b.drop i).take (k - i)⟩]) ++ diffF a b (a.length - (k + 1)) (k + 1) = diffL a b) := ⟨by rw [List.append_assoc, ← hst]; exact HL.out⟩
              have hOC : OwnC w3 w.heap.size v' (L ++ [⟨i, (a.drop i).take (k - i), (b.drop i).take (k - i)⟩]) := OwnC.snoc (w := wo.drewN _) hxs hat hown3 hgrow hrow1 hrow2 (by simp; omega) (by simp; omega) (Nat.le_trans hbel.size hg1) (Nat.le_trans hbel.size hg2)
              have hB3 : Below w.heap.size w w3 := hbel.trans ((below_drewN (Below.refl _ _) _).grown hgrow hbel.size (fun q hq => (hxs.lt q hq).1))
              clear hrun hst HR HS HL hgrow hown3
              go_wp2_with fail
              go_roundw
              case rel => exact ⟨k + 1, _, by omega, by go_num, hB3, hOC, by simp; omega, HL2⟩
              case measure => simp [intOf]; omega
            · obtain rfl : k = i := by omega
              have hrun : runAt a b k = 0 := by have := HR.out; omega
              have hst := HS.out
              rw [hrun, if_neg (by omega), show k + 0 + 1 = k + 1 from by omega, List.nil_append] at hst
              have HL2 : Hidden (L ++ diffF a b (a.length - (k + 1)) (k + 1) = diffL a b) := ⟨by rw [← hst]; exact HL.out⟩
              have hOC : ∀ N, OwnC (wo.drewN N) w.heap.size u6 L := fun _ => hown
              clear hrun hst HR HS HL
              go_wp2_with fail
              go_roundw
              case rel => exact ⟨k + 1, L, by omega, by go_num, below_drewN hbel _, hOC _, by omega, HL2⟩
              case measure => simp [intOf]; omega
          · have hbq : ((a[k].toNat : Int) != (b[k].toNat : Int)) = true := by
              simp only [bne_iff_ne, ne_eq]; intro h; apply he; rw [← UInt8.toNat_inj]; omega
            have hnk : Hidden (∀ j, i ≤ j → j < k + 1 → a[j]? ≠ b[j]?) := ⟨fun j h1 h2 => by
              rcases Nat.lt_or_ge j k with h | h
              · exact hne.out j h1 h
              · obtain rfl : j = k := by omega
                rw [List.getElem?_eq_getElem hk2, List.getElem?_eq_getElem (by omega)]
                simpa using he⟩
            clear he hne
            go_wp2_with fail
            go_quiet (fail)
            go_wp2_with fail
            go_roundw
            case rel => exact ⟨⟨_, rfl⟩, k + 1, by omega, by omega, by go_num, hnk⟩
            case measure => simp [intOf]; omega
        · have hk2' : decide ((k : Int) < a.length) = false := by simp; omega
          have HR : Hidden (runAt a b i = k - i) := ⟨runAt_at a b i k hm.symm hik hk hne.out (.inl (by omega))⟩
          clear hne
          go_wp2_with fail
          go_quiet (fail)
          by_cases hki : i < k
          · obtain ⟨xs, hxs, hat⟩ := hown
            go_wp2_with fail
            refine diff_region _ p off q off2 a.length c d i k u6 L.length xs w.heap.size a b _ _ _ _ _ _ _ _ _ _ _ _ _ _ _ _ _ _ _ _ _ _ _ _ _ _ _ _ _ _ _ _ _ _ _ _ _ _ _ _ _ _ _ _ _ _ _ _ _ _ _ _ _ _ _ _ _ _ _ _ rfl hm ha1 hb1 hki hk hle (by omega) (by omega) (by omega) (by omega) hxs hbel.size (by omega) ?_
            intro v' w3 g1 c1 g2 c2 x46 x47 x48 x49 x50 x51 x52 x53 x54 x55 x56 x57 x58 x59 x60 hown3 hg1 hg2 hrow1 hrow2 hgrow
            have hrun := HR.out
            have hst := HS.out
            rw [hrun, if_pos (by omega), show i + (k - i) + 1 = k + 1 from by omega] at hst
            have HL2 : Hidden ((L ++ [⟨i, (a.drop i).take (k - i), (b.drop i).take (k - i)⟩]) ++ diffF a b (a.length - (k + 1)) (k + 1) = diffL a b) := ⟨by rw [List.append_assoc, ← hst]; exact HL.out⟩
            have hOC : OwnC w3 w.heap.size v' (L ++ [⟨i, (a.drop i).take (k - i), (b.drop i).take (k - i)⟩]) := OwnC.snoc (w := wo.drewN _) hxs hat hown3 hgrow hrow1 hrow2 (by simp; omega) (by simp; omega) (Nat.le_trans hbel.size hg1) (Nat.le_trans hbel.size hg2)
            have hB3 : Below w.heap.size w w3 := hbel.trans ((below_drewN (Below.refl _ _) _).grown hgrow hbel.size (fun q hq => (hxs.lt q hq).1))
            clear hrun hst HR HS HL hgrow hown3
            go_wp2_with fail
            go_roundw
            case rel => exact ⟨k + 1, _, by omega, by go_num, hB3, hOC, by simp; omega, HL2⟩
            case measure => simp [intOf]; omega
          · obtain rfl : k = i := by omega
            have hrun : runAt a b k = 0 := by have := HR.out; omega
            have hst := HS.out
            rw [hrun, if_neg (by omega), show k + 0 + 1 = k + 1 from by omega, List.nil_append] at hst
            have HL2 : Hidden (L ++ diffF a b (a.length - (k + 1)) (k + 1) = diffL a b) := ⟨by rw [← hst]; exact HL.out⟩
            have hOC : ∀ N, OwnC (wo.drewN N) w.heap.size u6 L := fun _ => hown
            clear hrun hst HR HS HL
            go_wp2_with fail
            go_roundw
            case rel => exact ⟨k + 1, L, by omega, by go_num, below_drewN hbel _, hOC _, by omega, HL2⟩
            case measure => simp [intOf]; omega
    · go_wp2_with fail
      go_ret2
      have hfin : Hidden (L = diffL a b) := ⟨by
        have := HL.out
        rw [show a.length - i = 0 from by omega] at this
        simpa [diffF] using this⟩
      exact ⟨_, rfl, by rw [← hfin.out]; exact hown, hbel⟩
end Go.Proofs.YtgejkhokijjemaaDoor
/- Reading what diff.Diff gave. -/
namespace Go.Proofs.YtgejkhokijjemaaDoor
open Go.RowKit

/-- the cells of one change of a slice that lies at A -/
structure ChCells (w : World) (g off i : Nat) (c : Chg) (go co gn cn : Nat) : Prop where
  at_ : w.cell? ⟨g, off + i * 3, none⟩ = some (.int .i64 c.at_)
  old : w.cell? ⟨g, off + i * 3 + 1, none⟩ = some (.slice (some ⟨go, 0, none⟩) c.old.length co)
  new : w.cell? ⟨g, off + i * 3 + 2, none⟩ = some (.slice (some ⟨gn, 0, none⟩) c.new.length cn)
  rowO : Row w 5 go co c.old
  rowN : Row w 5 gn cn c.new
/-- the slice at A has the changes L -/
def RdC (w : World) (A : Option Addr) (L : List Chg) : Prop := ∀ i (h : i < L.length), ∃ g off go co gn cn, A = some ⟨g, off, none⟩ ∧ ChCells w g off i L[i] go co gn cn
theorem OwnC.rd {w : World} {base : Nat} {v : Value} {L : List Chg} (h : OwnC w base v L) : ∃ A c, v = .slice A L.length c ∧ L.length ≤ c ∧ c ≤ maxLen ∧ RdC w A L := by
  obtain ⟨xs, hown, hat⟩ := h
  rcases hown.2 with ⟨rfl, h0⟩ | ⟨g, cap, cur, rfl, _, hh, hc, hm, hz, ht⟩
  · rw [h0]
    exact ⟨none, 0, rfl, by omega, by simp, fun i hi => by omega⟩
  · refine ⟨_, cap, rfl, hc, hm, fun i hi => ?_⟩
    obtain ⟨go, co, gn, cn, _, _, e0, e1, e2, r1, r2⟩ := hat i hi
    have hcell : ∀ j u, xs[j]? = some u → w.cell? ⟨g, 0 + j, none⟩ = some u := fun j u hu => by
      have := hown.cells (g := g) rfl j u hu
      rw [Addr.add_lit] at this
      exact this
    rw [Nat.mul_comm 3 i] at e0 e1 e2
    exact ⟨g, 0, go, co, gn, cn, rfl, hcell _ _ e0, (Nat.add_assoc 0 (i * 3) 1) ▸ hcell _ _ e1, (Nat.add_assoc 0 (i * 3) 2) ▸ hcell _ _ e2, r1, r2⟩
theorem ChCells.below {w w' : World} {g off i : Nat} {c : Chg} {go co gn cn : Nat} (h : ChCells w g off i c go co gn cn) (hb : Below w.heap.size w w') : ChCells w' g off i c go co gn cn :=
  ⟨(hb.cell (block_lt_of_cell h.at_)).trans h.at_, (hb.cell (block_lt_of_cell h.old)).trans h.old, (hb.cell (block_lt_of_cell h.new)).trans h.new, h.rowO.below hb h.rowO.lt, h.rowN.below hb h.rowN.lt⟩
theorem RdC.below {w w' : World} {A : Option Addr} {L : List Chg} (h : RdC w A L) (hb : Below w.heap.size w w') : RdC w' A L := fun i hi => by
  obtain ⟨g, off, go, co, gn, cn, hA, hc⟩ := h i hi
  exact ⟨g, off, go, co, gn, cn, hA, hc.below hb⟩
end Go.Proofs.YtgejkhokijjemaaDoor
/- PutRoot at any arguments, and what the difference to the empty image is. -/
namespace Go.Proofs.YtgejkhokijjemaaDoor
open Go.RowKit

/-- the eleven bytes that stand for a root -/
structure RootX (s X : Bytes) : Prop where
  len : X.length = 11
  zero : s = [] → X = List.replicate 11 0
  some_ : s ≠ [] → X[0]? ≠ some 0
theorem rootX_ok (s : Bytes) (h : Int) (hnm : isName s = true) : RootX s (rootB s h) := by
  cases s with
  | nil => simp [isName] at hnm
  | cons x xs =>
    simp only [isName, Bool.and_eq_true, List.any_cons, Bool.not_eq_true', Bool.or_eq_false_iff, decide_eq_true_eq] at hnm
    obtain ⟨⟨_, h8⟩, hx, _⟩ := hnm
    refine ⟨?_, by simp, fun _ => ?_⟩
    · simp only [rootB, nameB, List.length_append, List.length_replicate, List.length_cons, List.length_nil] at h8 ⊢
      omega
    · simp only [rootB, nameB, List.cons_append, List.getElem?_cons_zero, ne_eq, Option.some.injEq]
      rintro rfl
      simp [notLower] at hx
theorem root_all (A : Option Addr) (n c : Nat) (l : Bytes) (i : Int) (s : Bytes) (h : Int) (w : World) (hs : s.length ≤ 140737488351232) (hn : l.length = n) (hnc : n ≤ c) (hrd : Rd w A l) (hr : rightB n = true) :
    Calls Tryd.prog 118 #[.slice A n c, .int .i64 i, rootV s h] w fun e w' => (∃ x, e = .returned (.tuple #[.slice none 0 0, .iface 121 (.int .i64 x)]) ∧ Below w.heap.size w w') ∨
      (∃ g cap X, 0 ≤ i ∧ i < 8 ∧ RootX s X ∧ e = .returned (.tuple #[.slice (some ⟨g, 0, none⟩) n cap, .nilIface]) ∧ w.heap.size ≤ g ∧ Row w' 5 g cap (splice l (rootO i) X) ∧ Below w.heap.size w w') := by
  by_cases hi : i < 0 ∨ 8 ≤ i
  · exact (root_e1 A n c i s h w hr hi).mono fun e w' he => .inl ⟨1, he⟩
  have hi1 : 0 ≤ i := by omega
  have hi2 : i < 8 := by omega
  by_cases h0 : s = [] ∧ h = 0
  · obtain ⟨rfl, rfl⟩ := h0
    refine (root_zero A n c l i w hn hnc hrd hr hi1 hi2).mono ?_
    rintro e w' ⟨g, cap, he, hg, hrow, hb⟩
    exact .inr ⟨g, cap, _, hi1, hi2, ⟨by simp, fun _ => rfl, fun hh => absurd rfl hh⟩, he, hg, hrow, hb⟩
  cases hh : handleB h with
  | false => exact (root_e1h A n c i s h w hr hi1 hi2 h0 hh).mono fun e w' he => .inl ⟨1, he⟩
  | true =>
    cases hnm : isName s with
    | false => exact (root_e2 A n c i s h w hs hr hi1 hi2 hh hnm).mono fun e w' he => .inl ⟨2, he⟩
    | true =>
      refine (root_ok A n c l i s h w hn hrd hr hi1 hi2 hh hnm).mono ?_
      rintro e w' ⟨g, cap, he, hg, hrow, hb⟩
      exact .inr ⟨g, cap, _, hi1, hi2, rootX_ok s h hnm, he, hg, hrow, hb⟩
/-- the difference is empty exactly where the root is -/
theorem rootX_diff (m o : Nat) (s X : Bytes) (hX : RootX s X) (hfit : o + 11 ≤ m) : decide (0 < (diffL (List.replicate m 0) (splice (List.replicate m 0) o X)).length) = !decide (s = []) := by
  have hzl : (List.replicate m (0 : UInt8)).length = m := by simp
  have hf : o + X.length ≤ (List.replicate m (0 : UInt8)).length := by rw [hX.len, hzl]; exact hfit
  by_cases hs : s = []
  · have he : splice (List.replicate m (0 : UInt8)) o X = List.replicate m 0 := by
      rw [hX.zero hs]
      simp only [splice, List.take_replicate, List.drop_replicate, List.length_replicate, List.replicate_append_replicate]
      congr 1
      omega
    rw [he, diffL_self]
    simp [hs]
  · have hpos : 0 < (diffL (List.replicate m 0) (splice (List.replicate m 0) o X)).length := by
      rcases Nat.eq_zero_or_pos (diffL (List.replicate m 0) (splice (List.replicate m 0) o X)).length with h0 | h0
      · exfalso
        have hlen : (splice (List.replicate m (0 : UInt8)) o X).length = m := by rw [splice_len _ _ _ hf, hzl]
        have := diffL_eq_nil _ _ (hzl.trans hlen.symm) (List.eq_nil_of_length_eq_zero h0)
        have h1 := splice_get (List.replicate m (0 : UInt8)) X o 0 hf (by rw [hX.len]; omega)
        rw [← this, Nat.add_zero, List.getElem?_replicate, if_pos (by omega)] at h1
        exact hX.some_ hs h1.symm
      · exact h0
    simp [hs, hpos]
end Go.Proofs.YtgejkhokijjemaaDoor
/- The reference on images: Entries, Roots. -/
namespace Go.Proofs.YtgejkhokijjemaaDoor
open Go.RowKit

end Go.Proofs.YtgejkhokijjemaaDoor
/- The reference on images: PutEntry. -/
namespace Go.Proofs.YtgejkhokijjemaaDoor
open Go.RowKit

theorem entV_cells (h a b t : Int) : (entV h a b t) = .agg #[.int .i64 h, .int .i64 a, .int .i64 b, .int .i64 t] := rfl
/-- the fault of an entry that is put -/
def entE (n : Nat) (h a len tag : Int) : Nat := if handleB h = false ∨ tagB tag = false ∨ lenB len = false then 1 else if withinB n a len = false then 3 else 0
def entF (l : Bytes) (h a len tag : Int) : Bytes := if entE l.length h a len tag = 0 then putEnt l h a len tag else []
theorem putEnt_three (l : Bytes) (k t b m : Nat) (h : 5 * k + 5 ≤ l.length) (ht : t ≤ 15) : putEnt l ((k : Int) + 1) (b : Int) (m : Int) (t : Int) = splice (splice (splice l (5 * k) (numB (t + 1) 1)) (5 * k + 1) (numB b 2)) (5 * k + 3) (numB m 2) := by
  have e1 := splice_join l (numB (t + 1) 1) (numB b 2) (5 * k) (by rw [numB_length, numB_length]; omega)
  have e2 := splice_join l (numB (t + 1) 1 ++ numB b 2) (numB m 2) (5 * k) (by rw [List.length_append, numB_length, numB_length, numB_length]; omega)
  rw [List.length_append, numB_length, numB_length] at e2
  rw [numB_length] at e1
  rw [e1, show 5 * k + 3 = 5 * k + (1 + 2) by omega, e2]
  unfold putEnt entB
  rw [entO_k]
  have hm : numB (t + 1) 1 = [UInt8.ofNat (t + 1)] := by
    show [UInt8.ofNat ((t + 1) % 256)] = _
    rw [Nat.mod_eq_of_lt (by omega)]
  rw [hm]
  rfl
/-- the program's Put, told likewise -/
theorem iput_ans (A : Option Addr) (n c : Nat) (l : Bytes) (h a len tag : Int) (w : World) (hln : l.length = n) (hnc : n ≤ c) (hr : rightB n = true) (hrd : Rd w A l) :
    Calls Tryd.prog 112 #[.slice A n c, entV h a len tag] w fun e w' => RowAns w w' e (entF l h a len tag) (errV (entE n h a len tag)) := by
  unfold entF
  rw [hln]
  by_cases hbad : handleB h = false ∨ tagB tag = false ∨ lenB len = false
  · have hE : entE n h a len tag = 1 := by unfold entE; rw [if_pos hbad]
    rw [hE]
    exact (iput_e1 A n c h a len tag w hr hbad).mono fun e w' ⟨he, hb⟩ => ⟨none, 0, he, Rd.nil_, hb⟩
  · have h1 : handleB h = true := by cases hx : handleB h <;> simp_all
    have h2 : tagB tag = true := by cases hx : tagB tag <;> simp_all
    have h3 : lenB len = true := by cases hx : lenB len <;> simp_all
    cases hw : withinB n a len with
    | false =>
      have hE : entE n h a len tag = 3 := by unfold entE; rw [if_neg hbad, if_pos hw]
      rw [hE]
      exact (iput_e3w A n c h a len tag w hr h1 h2 h3 hw).mono fun e w' ⟨he, hb⟩ => ⟨none, 0, he, Rd.nil_, hb⟩
    | true =>
      have hE : entE n h a len tag = 0 := by unfold entE; rw [if_neg hbad, if_neg (by simp [hw])]
      have hL : (putEnt l h a len tag).length = n := by rw [putEnt_len _ _ _ _ _ (handleB_true.1 h1).1 (handleB_true.1 h1).2 (by have := rightB_true.1 hr; omega)]; exact hln
      rw [hE, if_pos rfl]
      refine (iput_ok A n c l h a len tag w hln hnc hrd hr h1 h2 h3 hw).mono ?_
      rintro e w' ⟨g, cap, rfl, hg, hrow, hb⟩
      exact ⟨some ⟨g, 0, none⟩, cap, by rw [hL]; rfl, hrow.rd, hb⟩
end Go.Proofs.YtgejkhokijjemaaDoor
/- The contract of check.handles: the walk. -/
namespace Go.Proofs.YtgejkhokijjemaaDoor
open Go.RowKit

end Go.Proofs.YtgejkhokijjemaaDoor
/- The contract of check.Check. -/
namespace Go.Proofs.YtgejkhokijjemaaDoor
open Go.RowKit

theorem flt_one (F : List Flt) : ∀ u ∈ F.flatMap fcells, u.oneCell' = true := by
  intro u hu
  obtain ⟨f, _, h⟩ := List.mem_flatMap.1 hu
  simp only [fcells, List.mem_cons, List.not_mem_nil, or_false] at h
  rcases h with rfl | rfl <;> rfl
theorem right_leads (n : Nat) (R : Nat → Bytes) (x : UInt8) : ((rightL n R 40).any fun e => e.1 == (x.toNat : Int)) = leadsE n R x := by
  unfold rightL entsL leadsE
  rw [List.any_map, List.any_filter]
  congr 1
  funext k
  simp only [Function.comp]
  congr 1
  rw [Bool.eq_iff_iff]; simp; omega
end Go.Proofs.YtgejkhokijjemaaDoor
/- The contract of check.Mend. -/
namespace Go.Proofs.YtgejkhokijjemaaDoor
open Go.RowKit

/-- the slice at A has the faults L -/
def RdFs (w : World) (A : Option Addr) (L : List Flt) : Prop := ∀ i (h : i < L.length), ∃ g off, A = some ⟨g, off, none⟩ ∧ w.cell? ⟨g, off + i * 2, none⟩ = some (.int .i64 L[i].what) ∧ w.cell? ⟨g, off + i * 2 + 1, none⟩ = some (.int .i64 L[i].which)
theorem RdFs.below {w w' : World} {A : Option Addr} {L : List Flt} (h : RdFs w A L) (hb : Below w.heap.size w w') : RdFs w' A L := fun i hi => by
  obtain ⟨g, off, hA, c0, c1⟩ := h i hi
  exact ⟨g, off, hA, (hb.cell (block_lt_of_cell c0)).trans c0, (hb.cell (block_lt_of_cell c1)).trans c1⟩
theorem fcells_at (L : List Flt) (q : Nat) (hq : q < 2) : ∀ i (h : i < L.length), (L.flatMap fcells)[i * 2 + q]? = (fcells L[i])[q]? := by
  induction L with
  | nil => intro i h; simp at h
  | cons x L ih =>
    intro i h
    rw [List.flatMap_cons]
    have hl : (fcells x).length = 2 := rfl
    cases i with
    | zero => rw [List.getElem?_append_left (by omega)]; simp
    | succ i =>
      rw [List.getElem?_append_right (by omega), hl, show (i + 1) * 2 + q - 2 = i * 2 + q from by omega, ih i (by simpa using h)]
      simp
theorem flt_range {l : Bytes} {f : Flt} (h : f ∈ checkL l) : ((f.what = 4 ∨ f.what = 5) ∧ f.which < 8) ∨ (f.what ≠ 4 ∧ f.what ≠ 5 ∧ 1 ≤ f.which ∧ f.which ≤ 40) := by
  rcases mem_checkL.1 h with ⟨k, hk, hn, rfl⟩ | ⟨i, hi, hn, rfl⟩
  · have := kindH_cases l.length (rawE l) k
    right; simp only; omega
  · have := kindR_cases (leadsE l.length (rawE l)) (rawR l) i
    left; simp only; omega
theorem clearAll_snoc (l : Bytes) (F : List Flt) (j : Nat) (hj : j < F.length) : clearAll l (F.take (j + 1)) = clearF (clearAll l (F.take j)) F[j] := by
  rw [List.take_succ_eq_append_getElem hj]
  unfold clearAll
  rw [List.foldl_append]
  rfl
theorem checkL_len (l : Bytes) : (checkL l).length ≤ 48 := by
  unfold checkL
  have h1 := faultsH_len l.length (rawE l) 40
  have h2 := faultsR_len (leadsE l.length (rawE l)) (rawR l) 8
  rw [List.length_append]; omega
end Go.Proofs.YtgejkhokijjemaaDoor
/- The contract of image.Drop; what puts leave of an image, in plain words. -/
namespace Go.Proofs.YtgejkhokijjemaaDoor
open Go.RowKit

theorem splice_get_ (l x : Bytes) (o p : Nat) (h : o + x.length ≤ l.length) : (splice l o x)[p]? = if o ≤ p ∧ p < o + x.length then x[p - o]? else l[p]? := splice_at l x o p h
theorem rawE_splice (l x : Bytes) (k j : Nat) (hx : x.length = 5) (hk : k < 40) (_hj : j < 40) (hl : 200 ≤ l.length) : rawE (splice l (5 * k) x) j = if j = k then x else rawE l j := by
  apply List.ext_getElem?
  intro q
  unfold rawE
  rw [List.getElem?_take, List.getElem?_drop, splice_at _ _ _ _ (by omega)]
  by_cases hq : q < 5
  · rw [if_pos hq]
    by_cases hjk : j = k
    · subst hjk
      rw [if_pos (by omega), if_pos rfl]
      congr 1; omega
    · rw [if_neg (by omega), if_neg hjk, List.getElem?_take, if_pos hq, List.getElem?_drop]
  · rw [if_neg hq]
    by_cases hjk : j = k
    · rw [if_pos hjk, List.getElem?_eq_none (by omega)]
    · rw [if_neg hjk, List.getElem?_take, if_neg hq]
theorem rawR_splice (l x : Bytes) (i j : Nat) (hx : x.length = 11) (hi : i < 8) (_hj : j < 8) (hl : 288 ≤ l.length) : rawR (splice l (200 + 11 * i) x) j = if j = i then x else rawR l j := by
  apply List.ext_getElem?
  intro q
  unfold rawR
  rw [List.getElem?_take, List.getElem?_drop, splice_at _ _ _ _ (by omega)]
  by_cases hq : q < 11
  · rw [if_pos hq]
    by_cases hji : j = i
    · subst hji
      rw [if_pos (by omega), if_pos rfl]
      congr 1; omega
    · rw [if_neg (by omega), if_neg hji, List.getElem?_take, if_pos hq, List.getElem?_drop]
  · rw [if_neg hq]
    by_cases hji : j = i
    · rw [if_pos hji, List.getElem?_eq_none (by omega)]
    · rw [if_neg hji, List.getElem?_take, if_neg hq]
theorem rawR_head (l x : Bytes) (o j : Nat) (hx : o + x.length ≤ 200) (hl : 200 ≤ l.length) : rawR (splice l o x) j = rawR l j := by
  apply List.ext_getElem?
  intro q
  unfold rawR
  rw [List.getElem?_take, List.getElem?_drop, List.getElem?_take, List.getElem?_drop]
  by_cases hq : q < 11
  · rw [if_pos hq, if_pos hq, splice_at _ _ _ _ (by omega), if_neg (by omega)]
  · rw [if_neg hq, if_neg hq]
theorem ofB_two (n : Nat) (h : n < 65536) : ofB (numB n 2) = n := by
  have h1 := ofNat_mod n
  have h2 := ofNat_mod (n / 256)
  simp only [numB, ofB, h1, h2]
  omega
theorem entB_rd (a b t : Nat) (ha : a < 65536) (hb : b < 65536) (ht : t ≤ 15) : hasE (entB a b t) = true ∧ rAt (entB a b t) = a ∧ rLen (entB a b t) = b ∧ rTag (entB a b t) = t := by
  have hd : (UInt8.ofNat (t + 1)).toNat = t + 1 := by rw [UInt8.toNat_ofNat', Nat.mod_eq_of_lt (by omega)]
  have h2 : (numB a 2).length = 2 := numB_length a 2
  have h3 : (numB b 2).length = 2 := numB_length b 2
  refine ⟨?_, ?_, ?_, ?_⟩
  · unfold hasE rHd entB
    simp only [List.headD_cons]
    rw [bne_iff_ne]
    intro e
    rw [e] at hd
    simp at hd
  · unfold rAt entB
    rw [List.drop_one, List.tail_cons, List.take_append_of_le_length (by omega), List.take_of_length_le (by omega), ofB_two a ha]
  · unfold rLen entB
    rw [List.drop_succ_cons, List.drop_append, List.drop_of_length_le (by omega), h2, List.nil_append, List.drop_zero, List.take_of_length_le (by omega), ofB_two b hb]
  · unfold rTag rHd entB
    simp only [List.headD_cons]
    omega
/-- an image in which the roots from i on are none -/
def NoRoots (l : Bytes) (i : Nat) : Prop := ∀ j, i ≤ j → j < 8 → rawR l j = List.replicate 11 0
theorem rootsF_zeros (S : Nat → Bytes) (i : Nat) (h : ∀ j, i ≤ j → j < 8 → S j = List.replicate 11 0) : ∀ m, i ≤ m → m ≤ 8 → rootsF S m = rootsF S i
  | 0, h0, _ => by rw [show i = 0 by omega]
  | m + 1, h0, h8 => by
    by_cases hm : i = m + 1
    · rw [hm]
    · rw [rootsF_succ, h m (by omega) (by omega), zeros_zero, rootsF_zeros S i h m (by omega) (by omega)]
      simp
theorem rootsF_congr (S S' : Nat → Bytes) : ∀ m, (∀ j, j < m → S j = S' j) → rootsF S m = rootsF S' m
  | 0, _ => rfl
  | m + 1, h => by rw [rootsF_succ, rootsF_succ, h m (by omega), rootsF_congr S S' m (fun j hj => h j (by omega))]
theorem roots_put (l X : Bytes) (i : Nat) (hX : X.length = 11) (hi : i < 8) (hl : 288 ≤ l.length) (hz : NoRoots l i) :
    rootsL (splice l (200 + 11 * i) X) = rootsL l ++ (if zeroE X = true then [] else [rootP X]) ∧ NoRoots (splice l (200 + 11 * i) X) (i + 1) := by
  have hS : ∀ j, j < 8 → rawR (splice l (200 + 11 * i) X) j = if j = i then X else rawR l j := fun j hj => rawR_splice l X i j hX hi hj hl
  refine ⟨?_, fun j h1 h2 => by rw [hS j h2, if_neg (by omega)]; exact hz j (by omega) h2⟩
  unfold rootsL
  rw [rootsF_zeros (rawR l) i hz 8 (by omega) (by omega), rootsF_zeros (rawR (splice l (200 + 11 * i) X)) (i + 1) (fun j h1 h2 => by rw [hS j h2, if_neg (by omega)]; exact hz j (by omega) h2) 8 (by omega) (by omega),
    rootsF_succ, hS i hi, if_pos rfl, rootsF_congr (rawR (splice l (200 + 11 * i) X)) (rawR l) i (fun j hj => by rw [hS j (by omega), if_neg (by omega)])]
end Go.Proofs.YtgejkhokijjemaaDoor
/- An image that is right, plainly: its handles, its roots; what stays right. No walk here. -/
namespace Go.Proofs.YtgejkhokijjemaaDoor
open Go.RowKit

/-- which handles have an object -/
def leadsS (R : Nat → Bytes) (x : UInt8) : Bool := (List.range 40).any fun k => hasE (R k) && x.toNat == k + 1
/-- an image of n bytes that is right: R its handles, S its roots -/
structure GoodS (n : Nat) (R S : Nat → Bytes) : Prop where
  none : ∀ k, k < 40 → hasE (R k) = false → zeroE (R k) = true
  fit : ∀ k, k < 40 → hasE (R k) = true → strayE n (R k) = false
  apart : ∀ k, k < 40 → ∀ j, j < k → hasE (R k) = true → hasE (R j) = true → overE (R k) (R j) = false
  root : ∀ i, i < 8 → zeroE (S i) = false → badR (leadsS R) (S i) = false
  name : ∀ i, i < 8 → ∀ j, j < i → zeroE (S i) = false → zeroE (S j) = false → nmR (S i) ≠ nmR (S j)
structure Good (l : Bytes) : Prop where
  len : rightB l.length = true
  chk : checkL l = []
theorem checkL_nil {l : Bytes} : checkL l = [] ↔ (∀ k, k < 40 → kindH l.length (rawE l) k = 0 ∨ kindH l.length (rawE l) k = 6) ∧ (∀ i, i < 8 → kindR (leadsE l.length (rawE l)) (rawR l) i = 0 ∨ kindR (leadsE l.length (rawE l)) (rawR l) i = 6) := by
  constructor
  · intro h
    have hn : ∀ f, f ∉ checkL l := fun f hf => by rw [h] at hf; cases hf
    refine ⟨fun k hk => ?_, fun i hi => ?_⟩
    · exact Classical.byContradiction fun hc => hn _ (mem_checkL.2 (.inl ⟨k, hk, hc, rfl⟩))
    · exact Classical.byContradiction fun hc => hn _ (mem_checkL.2 (.inr ⟨i, hi, hc, rfl⟩))
  · rintro ⟨h1, h2⟩
    refine List.eq_nil_iff_forall_not_mem.2 fun f hf => ?_
    rcases mem_checkL.1 hf with ⟨k, hk, hn, _⟩ | ⟨i, hi, hn, _⟩
    · exact hn (h1 k hk)
    · exact hn (h2 i hi)
theorem overE_symm (r s : Bytes) : overE r s = overE s r := by unfold overE; rw [Bool.and_comm]
theorem kindH_has {n : Nat} {R : Nat → Bytes} {k : Nat} (h : kindH n R k = 0 ∨ kindH n R k = 6) : (hasE (R k) = true → kindH n R k = 6 ∧ strayE n (R k) = false ∧ (List.range k).any (fun j => wholeE n (R j) && overE (R k) (R j)) = false) ∧ (hasE (R k) = false → kindH n R k = 0 ∧ zeroE (R k) = true) := by
  unfold kindH at h ⊢
  constructor
  · intro hh
    rw [if_pos hh] at h ⊢
    cases hs : strayE n (R k) with
    | true => rw [hs] at h; simp at h
    | false =>
      rw [hs] at h
      cases ha : (List.range k).any (fun j => wholeE n (R j) && overE (R k) (R j)) with
      | true => rw [ha] at h; simp at h
      | false => simp
  · intro hh
    rw [if_neg (by rw [hh]; decide)] at h ⊢
    cases hz : zeroE (R k) with
    | true => simp
    | false => rw [hz] at h; simp at h
theorem leads_eq {n : Nat} {R : Nat → Bytes} (h : ∀ k, k < 40 → (kindH n R k = 6 ↔ hasE (R k) = true)) : leadsE n R = leadsS R := by
  funext x
  unfold leadsE leadsS
  have : ∀ k ∈ List.range 40, (kindH n R k == 6 && x.toNat == k + 1) = (hasE (R k) && x.toNat == k + 1) := fun k hk => by
    have := h k (List.mem_range.1 hk)
    congr 1
    rw [Bool.eq_iff_iff, beq_iff_eq]
    exact this
  rw [Bool.eq_iff_iff, List.any_eq_true, List.any_eq_true]
  constructor
  · rintro ⟨k, hk, h⟩; exact ⟨k, hk, (this k hk) ▸ h⟩
  · rintro ⟨k, hk, h⟩; exact ⟨k, hk, (this k hk).symm ▸ h⟩
theorem kinds_good {n : Nat} {R S : Nat → Bytes} : ((∀ k, k < 40 → kindH n R k = 0 ∨ kindH n R k = 6) ∧ (∀ i, i < 8 → kindR (leadsE n R) S i = 0 ∨ kindR (leadsE n R) S i = 6)) ↔ GoodS n R S := by
  constructor
  · rintro ⟨hH, hR⟩
    have hle : leadsE n R = leadsS R := leads_eq fun k hk => by
      have := kindH_has (hH k hk)
      constructor
      · intro h6
        cases hh : hasE (R k) with
        | true => rfl
        | false => have := (this.2 hh).1; omega
      · intro hh; exact (this.1 hh).1
    rw [hle] at hR
    have hr : ∀ i, i < 8 → zeroE (S i) = false → badR (leadsS R) (S i) = false ∧ (List.range i).any (fun j => okR (leadsS R) (S j) && (nmR (S i) == nmR (S j))) = false := fun i hi hz => by
      have h := hR i hi
      unfold kindR at h
      rw [if_neg (by rw [hz]; decide)] at h
      cases hb : badR (leadsS R) (S i) with
      | true => rw [hb] at h; simp at h
      | false =>
        rw [hb] at h
        cases ha : (List.range i).any (fun j => okR (leadsS R) (S j) && (nmR (S i) == nmR (S j))) with
        | true => rw [ha] at h; simp at h
        | false => simp
    refine ⟨fun k hk hh => ((kindH_has (hH k hk)).2 hh).2, fun k hk hh => ((kindH_has (hH k hk)).1 hh).2.1, fun k hk j hj hh hh' => ?_, fun i hi hz => (hr i hi hz).1, fun i hi j hj hz hz' => ?_⟩
    · have h1 := ((kindH_has (hH k hk)).1 hh).2.2
      have h2 := ((kindH_has (hH j (by omega))).1 hh').2.1
      rw [List.any_eq_false] at h1
      have h3 := h1 j (List.mem_range.2 hj)
      unfold wholeE at h3
      rw [hh', h2] at h3
      simpa using h3
    · have h1 := (hr i hi hz).2
      have h2 := (hr j (by omega) hz').1
      rw [List.any_eq_false] at h1
      have h3 := h1 j (List.mem_range.2 hj)
      unfold okR at h3
      rw [hz', h2] at h3
      simpa using h3
  · intro g
    have hH : ∀ k, k < 40 → (hasE (R k) = true → kindH n R k = 6) ∧ (hasE (R k) = false → kindH n R k = 0) := fun k hk => by
      unfold kindH
      constructor
      · intro hh
        rw [if_pos hh, if_neg (by rw [g.fit k hk hh]; decide), if_neg]
        rw [Bool.not_eq_true, List.any_eq_false]
        intro j hj
        have hj := List.mem_range.1 hj
        cases hh' : hasE (R j) with
        | false => simp [wholeE, hh']
        | true => rw [g.apart k hk j hj hh hh']; simp
      · intro hh
        rw [if_neg (by rw [hh]; decide), if_pos (g.none k hk hh)]
    have hle : leadsE n R = leadsS R := leads_eq fun k hk => by
      constructor
      · intro h6
        cases hh : hasE (R k) with
        | true => rfl
        | false => have := (hH k hk).2 hh; omega
      · intro hh; exact (hH k hk).1 hh
    rw [hle]
    refine ⟨fun k hk => ?_, fun i hi => ?_⟩
    · cases hh : hasE (R k) with
      | true => exact .inr ((hH k hk).1 hh)
      | false => exact .inl ((hH k hk).2 hh)
    · unfold kindR
      cases hz : zeroE (S i) with
      | true => left; simp
      | false =>
        right
        rw [if_neg (by decide), if_neg (by rw [g.root i hi hz]; decide), if_neg]
        rw [Bool.not_eq_true, List.any_eq_false]
        intro j hj
        have hj := List.mem_range.1 hj
        cases hz' : zeroE (S j) with
        | true => simp [okR, hz']
        | false =>
          have := g.name i hi j hj hz hz'
          simp [this]
theorem good_iff {l : Bytes} : Good l ↔ rightB l.length = true ∧ GoodS l.length (rawE l) (rawR l) := by
  constructor
  · rintro ⟨h1, h2⟩; exact ⟨h1, kinds_good.1 (checkL_nil.1 h2)⟩
  · rintro ⟨h1, h2⟩; exact ⟨h1, checkL_nil.2 (kinds_good.2 h2)⟩
theorem Good.s {l : Bytes} (h : Good l) : GoodS l.length (rawE l) (rawR l) := (good_iff.1 h).2
theorem Good.bd {l : Bytes} (h : Good l) : 288 ≤ l.length ∧ l.length ≤ 6400 := by have := rightB_true.1 h.len; omega
section
variable {n : Nat} {R R' S S' : Nat → Bytes}
theorem leadsS_iff {x : UInt8} : leadsS R x = true ↔ ∃ k, k < 40 ∧ hasE (R k) = true ∧ x.toNat = k + 1 := by
  unfold leadsS
  rw [List.any_eq_true]
  simp only [List.mem_range, Bool.and_eq_true, beq_iff_eq]
theorem badR_mono {L L' : UInt8 → Bool} {r : Bytes} (h : badR L r = false) (hm : L (r.getD 10 0) = true → L' (r.getD 10 0) = true) : badR L' r = false := by
  unfold badR at h ⊢
  simp only [Bool.or_eq_false_iff, Bool.not_eq_false'] at h ⊢
  exact ⟨h.1, hm h.2⟩
theorem badR_lead {L : UInt8 → Bool} {r : Bytes} (h : badR L r = false) : L (r.getD 10 0) = true := by
  unfold badR at h
  simp only [Bool.or_eq_false_iff, Bool.not_eq_false'] at h
  exact h.2
/-- an entry that is put -/
theorem GoodS.putE (g : GoodS n R S) (k : Nat) (hk : k < 40) (r : Bytes) (h' : ∀ j, j < 40 → R' j = if j = k then r else R j) (hr : hasE r = true) (hs : strayE n r = false) (ho : ∀ j, j < 40 → j ≠ k → hasE (R j) = true → overE r (R j) = false) : GoodS n R' S where
  none j hj hh := by
    rw [h' j hj] at hh ⊢
    by_cases e : j = k
    · rw [if_pos e, hr] at hh; cases hh
    · rw [if_neg e] at hh ⊢; exact g.none j hj hh
  fit j hj hh := by
    rw [h' j hj] at hh ⊢
    by_cases e : j = k
    · rw [if_pos e]; exact hs
    · rw [if_neg e] at hh ⊢; exact g.fit j hj hh
  apart i hi j hj hh hh' := by
    rw [h' i hi] at hh ⊢
    rw [h' j (by omega)] at hh' ⊢
    by_cases e : i = k
    · rw [if_pos e, if_neg (by omega)]
      rw [if_neg (by omega)] at hh'
      exact ho j (by omega) (by omega) hh'
    · rw [if_neg e] at hh ⊢
      by_cases e' : j = k
      · rw [if_pos e', overE_symm]
        exact ho i hi (by omega) hh
      · rw [if_neg e'] at hh' ⊢
        exact g.apart i hi j hj hh hh'
  root i hi hz := badR_mono (g.root i hi hz) fun hl => by
    obtain ⟨j, hj, hh, hx⟩ := leadsS_iff.1 hl
    refine leadsS_iff.2 ⟨j, hj, ?_, hx⟩
    rw [h' j hj]
    by_cases e : j = k
    · rw [if_pos e]; exact hr
    · rw [if_neg e]; exact hh
  name := g.name
/-- an entry that is dropped: no root leads to it -/
theorem GoodS.dropE (g : GoodS n R S) (k : Nat) (_hk : k < 40) (h' : ∀ j, j < 40 → R' j = if j = k then List.replicate 5 0 else R j) (hno : ∀ i, i < 8 → zeroE (S i) = false → ((S i).getD 10 0).toNat ≠ k + 1) : GoodS n R' S where
  none j hj hh := by
    rw [h' j hj] at hh ⊢
    by_cases e : j = k
    · rw [if_pos e]; exact zeros_zero 5
    · rw [if_neg e] at hh ⊢; exact g.none j hj hh
  fit j hj hh := by
    rw [h' j hj] at hh ⊢
    by_cases e : j = k
    · rw [if_pos e, zeros_has] at hh; cases hh
    · rw [if_neg e] at hh ⊢; exact g.fit j hj hh
  apart i hi j hj hh hh' := by
    rw [h' i hi] at hh ⊢
    rw [h' j (by omega)] at hh' ⊢
    by_cases e : i = k
    · rw [if_pos e, zeros_has] at hh; cases hh
    · by_cases e' : j = k
      · rw [if_pos e', zeros_has] at hh'; cases hh'
      · rw [if_neg e] at hh ⊢
        rw [if_neg e'] at hh' ⊢
        exact g.apart i hi j hj hh hh'
  root i hi hz := badR_mono (g.root i hi hz) fun hl => by
    obtain ⟨j, hj, hh, hx⟩ := leadsS_iff.1 hl
    refine leadsS_iff.2 ⟨j, hj, ?_, hx⟩
    rw [h' j hj]
    by_cases e : j = k
    · exact absurd (by omega) (hno i hi hz)
    · rw [if_neg e]; exact hh
  name := g.name
/-- a root that is put, or nothing in its place -/
theorem GoodS.putR (g : GoodS n R S) (i : Nat) (r : Bytes) (h' : ∀ j, j < 8 → S' j = if j = i then r else S j) (hr : zeroE r = true ∨ (badR (leadsS R) r = false ∧ ∀ j, j < 8 → j ≠ i → zeroE (S j) = false → nmR r ≠ nmR (S j))) : GoodS n R S' where
  none := g.none
  fit := g.fit
  apart := g.apart
  root j hj hz := by
    rw [h' j hj] at hz ⊢
    by_cases e : j = i
    · rw [if_pos e] at hz ⊢
      rcases hr with h | h
      · rw [h] at hz; cases hz
      · exact h.1
    · rw [if_neg e] at hz ⊢; exact g.root j hj hz
  name a ha b hb hz hz' := by
    rw [h' a ha] at hz ⊢
    rw [h' b (by omega)] at hz' ⊢
    by_cases e : a = i
    · rw [if_pos e] at hz ⊢
      rw [if_neg (by omega)] at hz' ⊢
      rcases hr with h | h
      · rw [h] at hz; cases hz
      · exact h.2 b (by omega) (by omega) hz'
    · rw [if_neg e] at hz ⊢
      by_cases e' : b = i
      · rw [if_pos e'] at hz' ⊢
        rcases hr with h | h
        · rw [h] at hz'; cases hz'
        · exact (h.2 a ha e hz).symm
      · rw [if_neg e'] at hz' ⊢; exact g.name a ha b hb hz hz'
end
theorem zeros_cut' (n a m : Nat) (h : a + m ≤ n) : ((List.replicate n (0 : UInt8)).drop a).take m = List.replicate m 0 := by
  rw [List.drop_replicate, List.take_replicate]; congr 1; omega
/-- an image of nothing -/
theorem good_zero' {n : Nat} (h : rightB n = true) : Good (List.replicate n 0) := by
  have hb := rightB_true.1 h
  have hE : ∀ k, k < 40 → rawE (List.replicate n 0) k = List.replicate 5 0 := fun k hk => zeros_cut' n (5 * k) 5 (by omega)
  have hR : ∀ i, i < 8 → rawR (List.replicate n 0) i = List.replicate 11 0 := fun i hi => zeros_cut' n (200 + 11 * i) 11 (by omega)
  refine good_iff.2 ⟨by rw [List.length_replicate]; exact h, ⟨fun k hk _ => by rw [hE k hk]; exact zeros_zero 5, fun k hk hh => ?_, fun k hk j hj hh _ => ?_, fun i hi hz => ?_, fun i hi j hj hz _ => ?_⟩⟩
  · rw [hE k hk, zeros_has] at hh; cases hh
  · rw [hE k hk, zeros_has] at hh; cases hh
  · rw [hR i hi, zeros_zero] at hz; cases hz
  · rw [hR i hi, zeros_zero] at hz; cases hz
end Go.Proofs.YtgejkhokijjemaaDoor
/- The reference's Check: a row of numbers in memory; what is wrong with handles. -/
namespace Go.Proofs.YtgejkhokijjemaaDoor
open Go.RowKit

def updI (f : Nat → Int) (i : Nat) (v : Int) (j : Nat) : Int := if j = i then v else f j
/-- block g is a row of N numbers -/
structure IRow (w : World) (g N : Nat) (f : Nat → Int) : Prop where
  out : ∃ cur, w.heap[g]? = some (.cells cur 3 (0, 0)) ∧ cur.size = N ∧ ∀ i, i < N → cur[i]? = some (.int .i64 (f i))
section
variable {w w' : World} {g N : Nat} {f : Nat → Int}
theorem IRow.cell (h : IRow w g N f) (i : Nat) (hi : i < N) : w.cell? ⟨g, i, none⟩ = some (.int .i64 (f i)) := by
  obtain ⟨cur, h0, h1, h2⟩ := h.out
  rw [cell_of_row w g i cur _ _ h0]; exact h2 i hi
theorem IRow.frozen (h : IRow w g N f) (i : Nat) : w.frozen? ⟨g, i, none⟩ = false := by
  obtain ⟨cur, h0, _⟩ := h.out
  exact frozen_of_row w g i _ _ h0
theorem IRow.set (h : IRow w g N f) (i : Nat) (v : Int) : IRow (w.setCell ⟨g, i, none⟩ (.int .i64 v)) g N (updI f i v) := by
  obtain ⟨cur, h0, h1, h2⟩ := h.out
  refine ⟨cur.setIfInBounds i (.int .i64 v), heap_setK h0 _, by simpa using h1, fun j hj => ?_⟩
  rw [Array.getElem?_setIfInBounds]
  unfold updI
  by_cases hij : i = j
  · rw [if_pos hij, if_pos (by omega), if_pos hij.symm]
  · rw [if_neg hij, if_neg (fun e => hij e.symm)]; exact h2 j hj
theorem IRow.block (h : IRow w g N f) (hb : w'.heap[g]? = w.heap[g]?) : IRow w' g N f := by
  obtain ⟨cur, h0, h1⟩ := h.out
  exact ⟨cur, hb.trans h0, h1⟩
theorem IRow.lt (h : IRow w g N f) : g < w.heap.size := by
  obtain ⟨cur, h0, _⟩ := h.out
  exact (Array.getElem?_eq_some_iff.1 h0).1
theorem IRow.below (h : IRow w g N f) (hb : Below w.heap.size w w') : IRow w' g N f := h.block (hb.block _ h.lt)
theorem IRow.congr {f' : Nat → Int} (h : IRow w g N f) (he : ∀ i, i < N → f i = f' i) : IRow w g N f' := by
  obtain ⟨cur, h0, h1, h2⟩ := h.out
  exact ⟨cur, h0, h1, fun i hi => by rw [h2 i hi, he i hi]⟩
theorem IRow.ne (h : IRow w g N f) {base : Nat} {e : TypeId} {size n : Nat} {v : Value} {xs : List Value} (h2 : w.ownsRow base e size v n xs) (hne : e ≠ 3) : v.ownBlock ≠ some g := fun he => by
  obtain ⟨cur, h0, _⟩ := h.out
  rcases h2.2 with ⟨rfl, _⟩ | ⟨g', cap', cur', rfl, _, hh', _⟩
  · simp [Value.ownBlock] at he
  · obtain rfl : g' = g := by simpa [Value.ownBlock] using he
    rw [h0] at hh'
    injection hh' with hh'
    injection hh' with _ hh'
    exact hne hh'.symm
theorem IRow.grown (h : IRow w g N f) {v : Value} (hg : w.grownBy w' v.ownBlock) (hne : v.ownBlock ≠ some g) : IRow w' g N f := h.block (hg.block g h.lt (fun e => hne e.symm))
end
theorem int_info : (Tryd.prog.info? 3).map (fun i => (i.zero, i.size, i.bytes)) = some (some (.int .i64 0), 1, 8) := by kernel_rfl
/-- make([]int, n) -/
theorem mk_ints (n : Nat) (hn : n ≤ 35184372088832) (w : World) :
    (Instr.makeSlice 47 (.int .i64 n) (.int .i64 n)).run Tryd.prog w = .ok (.slice (some ⟨w.heap.size, 0, none⟩) n n) (w.alloc (.cells (Array.replicate n (.int .i64 0)) 3)) := by
  obtain ⟨i0, hi0, hz0, hz1, hz2⟩ := info_parts int_info
  have hr := run_make (P := Tryd.prog) w 47 3 i0 _ Tryd.underlying47 hi0 hz0 .i64 .i64 n n (by omega) (by omega) (by rw [hz2]; omega) (by omega)
  simp only [Int.toNat_natCast, hz1, Nat.mul_one] at hr
  have hcells : madeCells (Value.int IntKind.i64 0).cells n = Array.replicate n (.int .i64 0) := by
    apply Array.ext'
    rw [show (Value.int IntKind.i64 0).cells = #[Value.int IntKind.i64 0] from rfl, toList_madeCells_one]
    simp
  rw [hcells] at hr
  exact hr
theorem IRow.new (w : World) (n : Nat) : IRow (w.alloc (.cells (Array.replicate n (.int .i64 0)) 3)) w.heap.size n (fun _ => 0) :=
  ⟨_, heap_alloc_new w _, by simp, fun i hi => by simp [hi]⟩
/-- what the reference notes of a handle -/
def wvK (k : Nat) : Int := if k = 6 then 1 else if k = 2 then 2 else if k = 1 then 3 else 0
def whatF (n : Nat) (R : Nat → Bytes) (m i : Nat) : Int := if 1 ≤ i ∧ i ≤ m then wvK (kindH n R (i - 1)) else 0
theorem whatF_succ (n : Nat) (R : Nat → Bytes) (k i : Nat) : whatF n R (k + 1) i = updI (whatF n R k) (k + 1) (wvK (kindH n R k)) i := by
  unfold whatF updI
  by_cases h : i = k + 1
  · rw [if_pos (by omega), if_pos h, h]; rfl
  · rw [if_neg h]
    dsimp only
    by_cases h2 : 1 ≤ i ∧ i ≤ k
    · rw [if_pos (by omega), if_pos h2]
    · rw [if_neg (by omega), if_neg h2]
theorem whatF_zero (n : Nat) (R : Nat → Bytes) (k : Nat) (h : wvK (kindH n R k) = 0) (i : Nat) : whatF n R (k + 1) i = whatF n R k i := by
  rw [whatF_succ]
  unfold updI
  by_cases hi : i = k + 1
  · rw [if_pos hi, h, hi]; unfold whatF; rw [if_neg (by omega)]
  · rw [if_neg hi]
theorem whatF_at (n : Nat) (R : Nat → Bytes) (k j : Nat) (h : j < k) : whatF n R k (j + 1) = wvK (kindH n R j) := by
  unfold whatF; rw [if_pos (by omega)]; rfl
theorem wv_whole (n : Nat) (R : Nat → Bytes) (j : Nat) : wholeE n (R j) = (decide (wvK (kindH n R j) = 1) || decide (wvK (kindH n R j) = 2)) := by
  obtain ⟨b, hb⟩ : ∃ b, (List.range j).any (fun i => wholeE n (R i) && overE (R j) (R i)) = b := ⟨_, rfl⟩
  unfold kindH
  rw [hb]
  unfold wholeE wvK
  cases hasE (R j) <;> cases strayE n (R j) <;> cases b <;> cases zeroE (R j) <;> simp
theorem updI_same (f : Nat → Int) (i : Nat) (a b : Int) (j : Nat) : updI (updI f i a) i b j = updI f i b j := by
  unfold updI; split <;> rfl
theorem zero5 (r : Bytes) (h5 : r.length = 5) (h0 : hasE r = false) : zeroE r = (decide (rAt r = 0) && decide (rLen r = 0)) := by
  match r, h5 with
  | [a, b, c, d, e], _ =>
    have hz : ∀ x : UInt8, x = 0 ↔ x.toNat = 0 := fun x => by rw [← UInt8.toNat_inj]; rfl
    have ha : a = 0 := by simpa [hasE, rHd] using h0
    subst ha
    have hA : rAt [0, b, c, d, e] = b.toNat + 256 * c.toNat := by simp [rAt, ofB]
    have hL : rLen [0, b, c, d, e] = d.toNat + 256 * e.toNat := by simp [rLen, ofB]
    rw [hA, hL]
    by_cases h : b = 0 ∧ c = 0 ∧ d = 0 ∧ e = 0
    · obtain ⟨rfl, rfl, rfl, rfl⟩ := h
      decide
    · have h' : ¬ (b.toNat = 0 ∧ c.toNat = 0 ∧ d.toNat = 0 ∧ e.toNat = 0) := fun hh => h ⟨(hz b).2 hh.1, (hz c).2 hh.2.1, (hz d).2 hh.2.2.1, (hz e).2 hh.2.2.2⟩
      have e1 : zeroE [0, b, c, d, e] = false := by
        cases hq : zeroE [0, b, c, d, e] with
        | false => rfl
        | true =>
          exfalso
          apply h
          simpa [zeroE, nonZero] using hq
      rw [e1]
      symm
      rw [Bool.and_eq_false_iff, decide_eq_false_iff_not, decide_eq_false_iff_not]
      omega
theorem stray_entE (n : Nat) (k : Nat) (hk : k < 40) (r : Bytes) : (entE n ((k : Int) + 1) (rAt r) (rLen r) (rTag r) = 0 ↔ strayE n r = false) := by
  have hh : handleB ((k : Int) + 1) = true := handleB_true.2 (by omega)
  unfold entE strayE
  rw [hh]
  cases tagB (rTag r) <;> cases lenB (rLen r) <;> cases withinB n (rAt r) (rLen r) <;> simp
/-- over one of the first j -/
def anyO (n : Nat) (R : Nat → Bytes) (k j : Nat) : Bool := (List.range j).any fun i => wholeE n (R i) && overE (R k) (R i)
theorem anyO_succ (n : Nat) (R : Nat → Bytes) (k j : Nat) : anyO n R k (j + 1) = (anyO n R k j || (wholeE n (R j) && overE (R k) (R j))) := by
  unfold anyO; rw [List.range_succ, List.any_append]; simp
theorem wvK_one {k : Nat} (n : Nat) (R : Nat → Bytes) : wvK (kindH n R k) = 1 ↔ kindH n R k = 6 := by
  rcases kindH_cases n R k with h | h | h | h | h <;> rw [h] <;> decide
theorem leads_what (n : Nat) (R : Nat → Bytes) (x : UInt8) : leadsE n R x = (handleB (x.toNat : Int) && decide (whatF n R 40 x.toNat = 1)) := by
  rw [Bool.eq_iff_iff, Bool.and_eq_true, decide_eq_true_eq, handleB_true]
  unfold leadsE
  rw [List.any_eq_true]
  constructor
  · rintro ⟨k, hk, h⟩
    have hk := List.mem_range.1 hk
    simp only [Bool.and_eq_true, beq_iff_eq] at h
    rw [h.2]
    exact ⟨by omega, by rw [whatF_at n R 40 k hk]; exact (wvK_one n R).2 h.1⟩
  · rintro ⟨hx, h⟩
    refine ⟨x.toNat - 1, List.mem_range.2 (by omega), ?_⟩
    have e : x.toNat = x.toNat - 1 + 1 := by omega
    rw [e, whatF_at n R 40 (x.toNat - 1) (by omega)] at h
    simp only [Bool.and_eq_true, beq_iff_eq]
    exact ⟨(wvK_one n R).1 h, e⟩
set_option maxRecDepth 100000 in
/-- the loop over the overlaps of one handle, told as a step -/
theorem any_next (n : Nat) (R : Nat → Bytes) (k j : Nat) (f : Nat → Int) (i : Nat) :
    updI f (k + 1) (if anyO n R k (j + 1) = true then 2 else 1) i = if (wholeE n (R j) && overE (R k) (R j)) = true then updI (updI f (k + 1) (if anyO n R k j = true then 2 else 1)) (k + 1) 2 i else updI f (k + 1) (if anyO n R k j = true then 2 else 1) i := by
  rw [anyO_succ]
  cases (wholeE n (R j) && overE (R k) (R j)) with
  | true => rw [Bool.or_true, if_pos rfl, if_pos rfl, updI_same]
  | false => rw [Bool.or_false, if_neg (show ¬ false = true by decide)]
end Go.Proofs.YtgejkhokijjemaaDoor
/- The reference's Check: its contract. -/
namespace Go.Proofs.YtgejkhokijjemaaDoor
open Go.RowKit

theorem FourAt.block {w w' : World} {p : Nat} {a b c d : Int} (h : FourAt w p a b c d) (hb : w'.heap[p]? = w.heap[p]?) : FourAt w' p a b c d :=
  ⟨(World.cell?_of_block (w := w) (a := ⟨p, 0, none⟩) hb).trans h.1, (World.cell?_of_block (w := w) (a := ⟨p, 1, none⟩) hb).trans h.2.1, (World.cell?_of_block (w := w) (a := ⟨p, 2, none⟩) hb).trans h.2.2.1, (World.cell?_of_block (w := w) (a := ⟨p, 3, none⟩) hb).trans h.2.2.2⟩
theorem size_setC (w : World) (a : Addr) (v : Value) : (w.setCell a v).heap.size = w.heap.size := by simp [World.setCell]
section
variable {w wr w' : World} {g : Nat} {v v' : Value} {F : List Flt} {f : Nat → Int}
end
end Go.Proofs.YtgejkhokijjemaaDoor
/- A heap in memory; the contracts of heap.New and Bytes. -/
namespace Go.Proofs.YtgejkhokijjemaaDoor
open Go.RowKit

/-- block h is a heap that was made behind w0: its image is l -/
structure Hp (w0 w : World) (F : Nat → Prop) (h : Nat) (l : Bytes) : Prop where
  hd : ∃ g cap, w.heap[h]? = some (.cells #[.slice (some ⟨g, 0, none⟩) l.length cap] 119 (0, 0)) ∧ Row w 5 g cap l ∧ F g
  fh : F h
  len : rightB l.length = true
  new : ∀ k, F k → w0.heap.size ≤ k
  flt : ∀ k, F k → k < w.heap.size
  bel : Below w0.heap.size w0 w
section
variable {w0 w w' : World} {F : Nat → Prop} {h : Nat} {l : Bytes}
theorem Hp.below (hp : Hp w0 w F h l) (hb : Below w.heap.size w w') : Hp w0 w' F h l := by
  obtain ⟨g, cap, h1, h2, h3⟩ := hp.hd
  exact ⟨⟨g, cap, (hb.block _ (hp.flt _ hp.fh)).trans h1, h2.block (hb.block _ (hp.flt _ h3)), h3⟩, hp.fh, hp.len, hp.new, fun k hk => Nat.lt_of_lt_of_le (hp.flt k hk) hb.size, hp.bel.trans (hb.mono hp.bel.size)⟩
theorem Hp.keep {G : Nat → Prop} (hp : Hp w0 w F h l) (hk : Keep G w w') (hG : ∀ k, F k → ¬ G k) (hn : ∀ k, G k → w0.heap.size ≤ k) : Hp w0 w' F h l := by
  obtain ⟨g, cap, h1, h2, h3⟩ := hp.hd
  exact ⟨⟨g, cap, (hk.block _ (hp.flt _ hp.fh) (hG _ hp.fh)).trans h1, h2.block (hk.block _ (hp.flt _ h3) (hG _ h3)), h3⟩, hp.fh, hp.len, hp.new, fun k hk' => Nat.lt_of_lt_of_le (hp.flt k hk') hk.size, hp.bel.trans (hk.below hp.bel.size hn)⟩
/-- what a walk wants of it -/
theorem Hp.open_ (hp : Hp w0 w F h l) : ∃ g cap, w.cell? ⟨h, 0, none⟩ = some (.slice (some ⟨g, 0, none⟩) l.length cap) ∧ l.length ≤ cap ∧ Row w 5 g cap l ∧ F g := by
  obtain ⟨g, cap, h1, h2, h3⟩ := hp.hd
  exact ⟨g, cap, by simp [World.cell?, h1], h2.le.1, h2, h3⟩
end
theorem hnew_no (n : Int) (w : World) (hr : rightB n = false) :
    Calls Tryd.prog 12 #[.int .i64 n] w fun e w' => e = .returned (.tuple #[.pointer none, .iface 121 (.int .i64 1)]) ∧ w = w' := by
  go_enter Tryd.func12, Tryd.ntmps12
  go_wp2_with fail
  refine (new_e1 n w hr).mono ?_
  rintro e w1 ⟨rfl, rfl⟩
  go_wp2_with fail
  go_ret2
  exact ⟨rfl, rfl⟩
theorem hnew_ok (n : Nat) (w : World) (hr : rightB n = true) :
    Calls Tryd.prog 12 #[.int .i64 (n : Int)] w fun e w' => ∃ h F, e = .returned (.tuple #[.pointer (some ⟨h, 0, none⟩), .nilIface]) ∧ Hp w w' F h (List.replicate n 0) := by
  have HR := Hidden.mk hr
  have HN := Hidden.mk (new_ok (n : Int) w hr)
  rw [Int.toNat_natCast] at HN
  clear hr
  go_enter Tryd.func12, Tryd.ntmps12
  go_wp2_with fail
  refine HN.out.mono ?_
  rintro e w1 ⟨g, rfl, hg, hrow, hb⟩
  have hlt := hrow.lt
  have hP : Hp w (w1.alloc (.cells #[.slice (some ⟨g, 0, none⟩) n n] 119)) (fun k => k = w1.heap.size ∨ k = g) w1.heap.size (List.replicate n 0) :=
    ⟨⟨g, n, by rw [List.length_replicate]; exact heap_alloc_new w1 _, hrow.block (Below.heap_alloc _ _ _ hlt), .inr rfl⟩, .inl rfl, by rw [List.length_replicate]; exact HR.out,
      fun k hk => by rcases hk with rfl | rfl; exact hb.size; exact hg, fun k hk => by simp; omega, hb.alloc hb.size _⟩
  have HP := Hidden.mk hP
  clear hP hrow hb HN
  go_wp2_with fail
  go_ret2
  exact ⟨_, _, rfl, HP.out⟩
theorem hbytes_ok (w0 w : World) (F : Nat → Prop) (h : Nat) (l : Bytes) (hp : Hp w0 w F h l) :
    Calls Tryd.prog 114 #[.pointer (some ⟨h, 0, none⟩)] w fun e w' => ∃ g cap, e = .returned (.slice (some ⟨g, 0, none⟩) l.length cap) ∧ w.heap.size ≤ g ∧ Row w' 5 g cap l ∧ Below w.heap.size w w' := by
  obtain ⟨g, cap, c0, hcap, hrow, hF⟩ := hp.open_
  have hb := rightB_true.1 hp.len
  have HC := Hidden.mk (clone_some ⟨g, 0, none⟩ l.length cap l w rfl (by omega) hrow.rd)
  clear hp hrow
  go_enter Tryd.func114, Tryd.ntmps114
  go_wp2_with fail
  refine HC.out.mono ?_
  rintro e w1 ⟨g1, cap1, rfl, hg, hrow, hb1⟩
  clear HC
  go_wp2_with fail
  go_ret
  exact ⟨g1, cap1, rfl, hg, hrow, hb1⟩
end Go.Proofs.YtgejkhokijjemaaDoor
/- The contracts of check.Fine and check.Object. -/
namespace Go.Proofs.YtgejkhokijjemaaDoor
open Go.RowKit

theorem strayE_false {n : Nat} {r : Bytes} (h : strayE n r = false) : (0 ≤ rTag r ∧ rTag r ≤ 15) ∧ (1 ≤ rLen r ∧ rLen r ≤ 1000) ∧ 288 ≤ rAt r ∧ rLen r ≤ n ∧ rAt r + rLen r ≤ n := by
  unfold strayE at h
  simp only [Bool.not_eq_false', Bool.and_eq_true] at h
  obtain ⟨⟨h1, h2⟩, h3⟩ := h
  have h1 := tagB_true.1 h1
  have h2 := lenB_true.1 h2
  have h3 := withinB_true.1 h3
  omega
/-- an object's tag and bytes, behind each other -/
def objB (l r : Bytes) : Bytes := UInt8.ofNat (rTag r).toNat :: (l.drop (rAt r)).take (rLen r)
end Go.Proofs.YtgejkhokijjemaaDoor
/- What comes in: arguments opened to the words of the text Base. No program in sight. -/
namespace Go.Proofs.YtgejkhokijjemaaDoor
open Go.RowKit Go.ChangeShapes Go.WideShapes Go.ChangeAt
open Go.ChangeMaps (open_string shut_string)

section
variable {H : Type} {enc : TypeId × Value → H} {P : Program} {w : World}
theorem wf_u8 {n : Int} (h : (Lit.int .u8 n).wf = true) : 0 ≤ n ∧ n ≤ 255 := by
  simpa [Lit.wf, IntKind.min, IntKind.max, IntKind.bits, IntKind.signed] using h
theorem wf_i64' {n : Int} (h : (Lit.int .i64 n).wf = true) : -9223372036854775808 ≤ n ∧ n ≤ 9223372036854775807 := by
  simpa [Lit.wf, IntKind.min, IntKind.max, IntKind.bits, IntKind.signed] using h

def toBytes (zs : List Int) : Bytes := zs.map fun z => UInt8.ofNat z.toNat
theorem toBytes_at {zs : List Int} (hz : ∀ n ∈ zs, (Lit.int .u8 n).wf = true) (j : Nat) (hj : j < zs.length) : .int .u8 (zs.getD j 0) = bv ((toBytes zs)[j]'(by simpa [toBytes] using hj)) := by
  have h1 : zs.getD j 0 = zs[j] := by simp [hj]
  have h2 := wf_u8 (hz _ (List.getElem_mem hj))
  have h3 : (zs[j].toNat % 256 : Nat) = zs[j].toNat := Nat.mod_eq_of_lt (by omega)
  rw [h1]
  simp only [toBytes, List.getElem_map, bv]
  congr 1
  rw [UInt8.toNat_ofNat', show 2 ^ 8 = 256 from rfl, h3]
  omega

/-- a slice of bytes that came in -/
theorem open_bytes {t e : TypeId} {v : Value} {d : DataW H} {ps : List MemPlace} {base : Nat} {r : Reach} (ht : P.underlying t = some (.slice e)) (he : P.underlying e = some (.int .u8)) (hc : P.cellsOf e = 1) (hb : P.bytesOf e = 1)
    (hv : Value.okWide P w r base t v) (h : DataW.Trod enc P w 0 (fun _ => true) true t v d ps) (hz : (d.weights P t).all (· ≤ reachBytes) = true) :
    ∃ (A : Option Addr) (c : Nat) (l : Bytes), v = .slice A l.length c ∧ l.length ≤ c ∧ c ≤ 140737488351232 ∧ Rd w A l := by
  obtain ⟨a0, len0, cap0, rfl⟩ := okWide_slice ht hv
  obtain ⟨fuel, hf⟩ := h
  rcases open_ints ht he hc hf with ⟨hcs, _⟩ | ⟨x, l, c, zs, hcs, _, hl, hm, hlen, hx, hcell, hwz⟩
  · simp [Value.cells] at hcs
    obtain ⟨rfl, rfl, rfl⟩ := hcs
    exact ⟨none, 0, [], rfl, by simp, by omega, Rd.nil_⟩
  · simp [Value.cells] at hcs
    obtain ⟨rfl, rfl, rfl⟩ := hcs
    simp only [Prod.mk.injEq] at hx
    obtain ⟨rfl, rfl⟩ := hx
    have hlen' : zs.length = cap0 := by simpa using hlen
    have hreach : cap0 ≤ 140737488351232 := by
      have := List.all_eq_true.1 hz ((zs.take len0).length * 1 + (zs.drop len0).length * 1) (by
        simp [DataW.weights, ht, hb, lits, Nat.mul_one, hlen'])
      have h2 := of_decide_eq_true this
      simp [hlen'] at h2
      have h3 : reachBytes = 140737488351232 := by decide
      omega
    have hlt : len0 ≤ zs.length := by omega
    refine ⟨some x, cap0, (toBytes zs).take len0, ?_, ?_, hreach, ?_⟩
    · simp [toBytes]; omega
    · simp [toBytes]; omega
    · intro j hj
      have hj' : j < len0 := by simp [toBytes] at hj; omega
      have hc0 := hcell j (by omega)
      obtain ⟨b, off, spot⟩ := x
      have hs : spot = none := by
        have hc1 := hcell 0 (by omega)
        simpa [Addr.add] using World.cell?_spot hc1
      subst hs
      refine ⟨b, off, rfl, ?_⟩
      rw [Addr.add_lit] at hc0
      rw [hc0, toBytes_at hwz j (by omega)]
      simp
/-- a text that came in -/
theorem open_str {t : TypeId} {v : Value} {d : DataW H} {ps : List MemPlace} {base : Nat} {r : Reach} (ht : P.underlying t = some .string)
    (hv : Value.okWide P w r base t v) (h : DataW.Trod enc P w 0 (fun _ => true) true t v d ps) (hz : (d.weights P t).all (· ≤ reachBytes) = true) :
    ∃ (s : Bytes), v = sv s ∧ s.length ≤ 140737488351232 := by
  obtain ⟨s, rfl, rfl, rfl, hs⟩ := open_string ht hv h
  refine ⟨s.data.toList, rfl, ?_⟩
  have h2 := of_decide_eq_true (List.all_eq_true.1 hz s.data.toList.length (by simp [DataW.weights]))
  have h3 : reachBytes = 140737488351232 := by decide
  omega
/-- a struct of four whole numbers that came in, the two in the middle a struct of their own -/
theorem open_entry {t : TypeId} {f0 f1 f2 g0 g1 : Field} {v : Value} {d : DataW H} {ps : List MemPlace} {base : Nat} {r : Reach} (hs : P.underlying t = some (.struct #[f0, f1, f2])) (hs1 : P.underlying f1.type = some (.struct #[g0, g1])) (hC : P.cellsOf t = 4)
    (o0 : f0.offset = 0 ∧ P.cellsOf f0.type = 1) (o1 : f1.offset = 1 ∧ P.cellsOf f1.type = 2) (o2 : f2.offset = 3 ∧ P.cellsOf f2.type = 1) (p0 : g0.offset = 0 ∧ P.cellsOf g0.type = 1) (p1 : g1.offset = 1 ∧ P.cellsOf g1.type = 1)
    (i0 : P.underlying f0.type = some (.int .i64)) (i1 : P.underlying g0.type = some (.int .i64)) (i2 : P.underlying g1.type = some (.int .i64)) (i3 : P.underlying f2.type = some (.int .i64))
    (hv : Value.okWide P w r base t v) (h : DataW.Trod enc P w 0 (fun _ => true) true t v d ps) :
    ∃ a b c e : Int, v = .agg #[.int .i64 a, .int .i64 b, .int .i64 c, .int .i64 e] ∧ (-9223372036854775808 ≤ a ∧ a ≤ 9223372036854775807) ∧ (-9223372036854775808 ≤ b ∧ b ≤ 9223372036854775807) ∧ (-9223372036854775808 ≤ c ∧ c ≤ 9223372036854775807) ∧ (-9223372036854775808 ≤ e ∧ e ≤ 9223372036854775807) := by
  obtain ⟨cs, rfl, hsz⟩ := okWide_struct hs hv
  obtain ⟨l⟩ := cs
  match l, hsz.trans hC with
  | [c0, c1, c2, c3], _ =>
    obtain ⟨fuel, hf⟩ := h
    obtain ⟨xs, n, _, hx, _, hlen, hg⟩ := DataW.trod_struct hs hf
    match xs, hlen with
    | [y0, y1, y2], _ =>
      have t0 : DataW.trod enc P w 0 (fun _ => true) true n f0.type [c0] = some y0 := by simpa [Value.cells, o0.1, o0.2] using hg 0 f0 rfl
      have t1 : DataW.trod enc P w 0 (fun _ => true) true n f1.type [c1, c2] = some y1 := by simpa [Value.cells, o1.1, o1.2] using hg 1 f1 rfl
      have t2 : DataW.trod enc P w 0 (fun _ => true) true n f2.type [c3] = some y2 := by simpa [Value.cells, o2.1, o2.2] using hg 2 f2 rfl
      obtain ⟨ys, n', _, hx', _, hlen', hg'⟩ := DataW.trod_struct hs1 t1
      match ys, hlen' with
      | [z0, z1], _ =>
        have u0 : DataW.trod enc P w 0 (fun _ => true) true n' g0.type [c1] = some z0 := by simpa [Value.cells, p0.1, p0.2] using hg' 0 g0 rfl
        have u1 : DataW.trod enc P w 0 (fun _ => true) true n' g1.type [c2] = some z1 := by simpa [Value.cells, p1.1, p1.2] using hg' 1 g1 rfl
        obtain ⟨a, ha, -, wa⟩ := DataW.trod_int i0 t0
        obtain ⟨b, hb, -, wb⟩ := DataW.trod_int i1 u0
        obtain ⟨c, hc, -, wc⟩ := DataW.trod_int i2 u1
        obtain ⟨e, he, -, we⟩ := DataW.trod_int i3 t2
        simp only [List.cons.injEq, and_true] at ha hb hc he
        subst ha hb hc he
        exact ⟨a, b, c, e, rfl, wf_i64' wa, wf_i64' wb, wf_i64' wc, wf_i64' we⟩
/-- a struct of a string and a whole number that came in -/
theorem open_root {t : TypeId} {f0 f1 : Field} {v : Value} {d : DataW H} {ps : List MemPlace} {base : Nat} {r : Reach} (hs : P.underlying t = some (.struct #[f0, f1])) (hone : Go.Deep.oneCellFields P #[f0, f1] = true) (hC : P.cellsOf t = 2)
    (i0 : P.underlying f0.type = some .string) (i1 : P.underlying f1.type = some (.int .i64))
    (hv : Value.okWide P w r base t v) (h : DataW.Trod enc P w 0 (fun _ => true) true t v d ps) (hz : (d.weights P t).all (· ≤ reachBytes) = true) :
    ∃ (s : Bytes) (b : Int), v = .agg #[sv s, .int .i64 b] ∧ s.length ≤ 140737488351232 ∧ (-9223372036854775808 ≤ b ∧ b ≤ 9223372036854775807) := by
  obtain ⟨v0, v1, y0, y1, n, rfl, rfl, -, t0, t1⟩ := Go.Joins.open_agg2 hs hone hC hv h
  obtain ⟨s, ha, hy, -⟩ := DataW.trod_string i0 t0
  obtain ⟨b, hb, -, wb⟩ := DataW.trod_int i1 t1
  simp only [List.cons.injEq, and_true] at ha hb
  subst ha hb hy
  have h2 := of_decide_eq_true (List.all_eq_true.1 hz s.data.toList.length (by simp [DataW.weights, hs, DataW.weightsEach]))
  have h3 : reachBytes = 140737488351232 := by decide
  exact ⟨s.data.toList, b, rfl, by omega, wf_i64' wb⟩
end
end Go.Proofs.YtgejkhokijjemaaDoor
/- What comes in: slices of structs, of booleans. No program in sight. -/
namespace Go.Proofs.YtgejkhokijjemaaDoor
open Go.RowKit Go.ChangeShapes Go.WideShapes Go.ChangeAt

/-- the slice at A has these elements, C cells each -/
def RdX {X : Type} (cells : X → List Value) (C : Nat) (w : World) (A : Option Addr) (L : List X) : Prop :=
  ∀ i (h : i < L.length), ∃ b off, A = some ⟨b, off, none⟩ ∧ ∀ q u, (cells L[i])[q]? = some u → w.cell? ⟨b, off + i * C + q, none⟩ = some u
section
variable {X : Type} {cells : X → List Value} {C : Nat} {w w' : World} {A : Option Addr} {L : List X}
theorem RdX.block (h : RdX cells C w A L) (hb : ∀ ad, A = some ad → ad.block < w.heap.size → w'.heap[ad.block]? = w.heap[ad.block]?) : RdX cells C w' A L := fun i hi => by
  obtain ⟨b, off, hA, hc⟩ := h i hi
  exact ⟨b, off, hA, fun q u hq => (World.cell?_of_block (w := w) (a := ⟨b, off + i * C + q, none⟩) (hb ⟨b, off, none⟩ hA (show b < w.heap.size from block_lt_of_cell (hc q u hq)))).trans (hc q u hq)⟩
theorem RdX.below (h : RdX cells C w A L) (hb : Below w.heap.size w w') : RdX cells C w' A L := h.block fun _ _ hlt => hb.block _ hlt
end
section
variable {H : Type} {enc : TypeId × Value → H} {P : Program} {w : World}
theorem weights_all {e : TypeId} : ∀ (l : List (DataW H)) (n : Nat), (DataW.weightsAll P e l).all (· ≤ n) = true → ∀ d ∈ l, (d.weights P e).all (· ≤ n) = true
  | [], _, _, d, hd => by simp at hd
  | x :: r, n, h, d, hd => by
    rw [DataW.weightsAll, List.all_append, Bool.and_eq_true] at h
    rcases List.mem_cons.1 hd with rfl | hd
    · exact h.1
    · exact weights_all r n h.2 d hd
theorem open_seq {X : Type} [Inhabited X] (cells : X → List Value) (C : Nat) (ok : World → X → Prop) {t e : TypeId} {v : Value} {d : DataW H} {ps : List MemPlace} {base : Nat} {r : Reach} (ht : P.underlying t = some (.slice e)) (hC : P.cellsOf e = C) (hC0 : 0 < C) (hb : 1 ≤ P.bytesOf e)
    (hel : ∀ n cs x, cs.length = C → DataW.trod enc P w 0 (fun _ => true) true n e cs = some x → (x.1.weights P e).all (· ≤ reachBytes) = true → ∃ y : X, cs = cells y ∧ ok w y)
    (hv : Value.okWide P w r base t v) (h : DataW.Trod enc P w 0 (fun _ => true) true t v d ps) (hz : (d.weights P t).all (· ≤ reachBytes) = true) :
    ∃ (A : Option Addr) (c : Nat) (L : List X), v = .slice A L.length c ∧ L.length ≤ c ∧ c ≤ 140737488351232 ∧ (∀ x ∈ L, ok w x) ∧ RdX cells C w A L := by
  obtain ⟨a0, len0, cap0, rfl⟩ := okWide_slice ht hv
  obtain ⟨fuel, hf⟩ := h
  rcases Go.Deep.open_slice ht hf with ⟨hcs, _⟩ | ⟨a, len, cap, m, n, D, Pl, hcs, _, hl, hm, hmm, hx, hi⟩
  · simp [Value.cells] at hcs
    obtain ⟨rfl, rfl, rfl⟩ := hcs
    exact ⟨none, 0, [], rfl, by simp, by omega, fun x hx => by simp at hx, fun i hi => by simp at hi⟩
  · simp [Value.cells] at hcs
    obtain ⟨rfl, rfl, rfl⟩ := hcs
    simp only [if_true] at hmm
    subst hmm
    simp only [Prod.mk.injEq] at hx
    obtain ⟨rfl, rfl⟩ := hx
    rw [DataW.weights, ht] at hz
    simp only [List.all_cons, List.all_append, Bool.and_eq_true, decide_eq_true_eq, List.length_map, List.length_range] at hz
    have hreach : m ≤ 140737488351232 := by
      have h3 : reachBytes = 140737488351232 := by decide
      have h4 := hz.1
      rw [h3] at h4
      have h5 : (len0 + (m - len0)) * 1 ≤ (len0 + (m - len0)) * P.bytesOf e := Nat.mul_le_mul_left _ hb
      omega
    have hex : ∀ i, i < len0 → ∃ y : X, ok w y ∧ w.cells? 0 (a.add (i * C)) C = some (cells y) := fun i hil => by
      obtain ⟨cs', h1, h2⟩ := hi i (by omega)
      obtain ⟨y, hy, hok⟩ := hel n cs' _ (by rw [← hC]; exact (World.cells?_some h1).2.1) h2 (weights_all _ _ hz.2.1 _ (List.mem_map.2 ⟨i, List.mem_range.2 hil, rfl⟩))
      refine ⟨y, hok, ?_⟩
      rw [← hy, ← hC]; exact h1
    obtain ⟨Y, hY⟩ := Go.Deep.choose_lt (α := X) (p := fun i y => ok w y ∧ w.cells? 0 (a.add (i * C)) C = some (cells y)) hex
    have hlen : ((List.range len0).map Y).length = len0 := by simp
    refine ⟨some a, m, (List.range len0).map Y, by rw [hlen], by rw [hlen]; exact hl, hreach, fun x hx => ?_, fun i hil => ?_⟩
    · obtain ⟨i, hi', rfl⟩ := List.mem_map.1 hx
      exact (hY i (List.mem_range.1 hi')).1
    · rw [hlen] at hil
      obtain ⟨_, h2⟩ := hY i hil
      obtain ⟨_, hcl, hat⟩ := World.cells?_some h2
      have hYi : ((List.range len0).map Y)[i]'(by rw [hlen]; exact hil) = Y i := by simp
      rw [hYi]
      obtain ⟨b, off, spot⟩ := a
      have hcell : ∀ q u, (cells (Y i))[q]? = some u → w.cell? ((⟨b, off, spot⟩ : Addr).add (i * C + q)) = some u := fun q u hq => by
        have hql : q < C := by have := (List.getElem?_eq_some_iff.1 hq).1; omega
        rw [← Go.Deep.add_add, hat q hql, hq]
      have hs : spot = none := by
        obtain ⟨_, h20⟩ := hY 0 (by omega)
        obtain ⟨_, hcl0, hat0⟩ := World.cells?_some h20
        have h0 := hat0 0 hC0
        rw [List.getElem?_eq_getElem (by omega), Nat.zero_mul] at h0
        simpa [Addr.add] using World.cell?_spot h0
      subst hs
      refine ⟨b, off, rfl, fun q u hq => ?_⟩
      have := hcell q u hq
      rw [Addr.add_lit, ← Nat.add_assoc] at this
      exact this
/-- a page: its number, its bytes -/
structure PgX where
  num : Int
  A : Option Addr
  cap : Nat
  body : Bytes
  deriving Inhabited
def pcells (x : PgX) : List Value := [.int .i64 x.num, .slice x.A x.body.length x.cap]
structure PgOk (w : World) (x : PgX) : Prop where
  lo : -9223372036854775808 ≤ x.num
  hi : x.num ≤ 9223372036854775807
  cap : x.body.length ≤ x.cap
  le : x.cap ≤ 140737488351232
  rd : Rd w x.A x.body
/-- an entry; a root -/
structure EntX where
  h : Int
  at_ : Int
  len : Int
  tag : Int
  deriving Inhabited
def xcells (x : EntX) : List Value := [.int .i64 x.h, .int .i64 x.at_, .int .i64 x.len, .int .i64 x.tag]
structure EntOk (_w : World) (x : EntX) : Prop where
  h : -9223372036854775808 ≤ x.h ∧ x.h ≤ 9223372036854775807
  a : -9223372036854775808 ≤ x.at_ ∧ x.at_ ≤ 9223372036854775807
  l : -9223372036854775808 ≤ x.len ∧ x.len ≤ 9223372036854775807
  t : -9223372036854775808 ≤ x.tag ∧ x.tag ≤ 9223372036854775807
structure RotX where
  s : Bytes
  h : Int
  deriving Inhabited
def ycells (x : RotX) : List Value := [sv x.s, .int .i64 x.h]
structure RotOk (_w : World) (x : RotX) : Prop where
  s : x.s.length ≤ 140737488351232
  h : -9223372036854775808 ≤ x.h ∧ x.h ≤ 9223372036854775807
/-- bytes within something else -/
theorem open_bytes_in {t e : TypeId} {v : Value} {y : DataW H × List MemPlace} {n : Nat} (ht : P.underlying t = some (.slice e)) (he : P.underlying e = some (.int .u8)) (hc : P.cellsOf e = 1) (hb : P.bytesOf e = 1)
    (h : DataW.trod enc P w 0 (fun _ => true) true n t [v] = some y) (hz : (y.1.weights P t).all (· ≤ reachBytes) = true) :
    ∃ (A : Option Addr) (c : Nat) (l : Bytes), v = .slice A l.length c ∧ l.length ≤ c ∧ c ≤ 140737488351232 ∧ Rd w A l := by
  rcases open_ints ht he hc h with ⟨hcs, _⟩ | ⟨x, l, c, zs, hcs, _, hl, hm, hlen, hx, hcell, hwz⟩
  · simp at hcs
    exact ⟨none, 0, [], by simpa using hcs, by simp, by omega, Rd.nil_⟩
  · simp at hcs
    subst hcs
    have hd := congrArg Prod.fst hx
    simp only at hd
    rw [hd] at hz
    have hlen' : zs.length = c := by simpa using hlen
    have hreach : c ≤ 140737488351232 := by
      have := List.all_eq_true.1 hz ((zs.take l).length * 1 + (zs.drop l).length * 1) (by
        simp [DataW.weights, ht, hb, lits, Nat.mul_one, hlen'])
      have h2 := of_decide_eq_true this
      simp [hlen'] at h2
      have h3 : reachBytes = 140737488351232 := by decide
      omega
    refine ⟨some x, c, (toBytes zs).take l, ?_, ?_, hreach, ?_⟩
    · simp [toBytes]; omega
    · simp [toBytes]; omega
    · intro j hj
      have hj' : j < l := by simp [toBytes] at hj; omega
      have hc0 := hcell j (by omega)
      obtain ⟨b, off, spot⟩ := x
      have hs : spot = none := by
        have hc1 := hcell 0 (by omega)
        simpa [Addr.add] using World.cell?_spot hc1
      subst hs
      refine ⟨b, off, rfl, ?_⟩
      rw [Addr.add_lit] at hc0
      rw [hc0, toBytes_at hwz j (by omega)]
      simp
/-- two fields of one cell each -/
theorem open_two {e : TypeId} {f0 f1 : Field} {n : Nat} {cs : List Value} {x : DataW H × List MemPlace} (hs : P.underlying e = some (.struct #[f0, f1])) (o0 : f0.offset = 0 ∧ P.cellsOf f0.type = 1) (o1 : f1.offset = 1 ∧ P.cellsOf f1.type = 1) (hl : cs.length = 2)
    (h : DataW.trod enc P w 0 (fun _ => true) true n e cs = some x) (hz : (x.1.weights P e).all (· ≤ reachBytes) = true) :
    ∃ v0 v1 y0 y1 m, cs = [v0, v1] ∧ DataW.trod enc P w 0 (fun _ => true) true m f0.type [v0] = some y0 ∧ DataW.trod enc P w 0 (fun _ => true) true m f1.type [v1] = some y1 ∧ (y0.1.weights P f0.type).all (· ≤ reachBytes) = true ∧ (y1.1.weights P f1.type).all (· ≤ reachBytes) = true := by
  match cs, hl with
  | [c0, c1], _ =>
    obtain ⟨xs, m, _, hx, _, hlen, hg⟩ := DataW.trod_struct hs h
    match xs, hlen with
    | [y0, y1], _ =>
      have t0 : DataW.trod enc P w 0 (fun _ => true) true m f0.type [c0] = some y0 := by simpa [o0.1, o0.2] using hg 0 f0 rfl
      have t1 : DataW.trod enc P w 0 (fun _ => true) true m f1.type [c1] = some y1 := by simpa [o1.1, o1.2] using hg 1 f1 rfl
      rw [hx] at hz
      simp [DataW.weights, hs, DataW.weightsEach, List.all_append] at hz
      exact ⟨c0, c1, y0, y1, m, rfl, t0, t1, by simpa using hz.1, by simpa using hz.2⟩
end
end Go.Proofs.YtgejkhokijjemaaDoor
/- Slices of the call's own, element by element. -/
namespace Go.Proofs.YtgejkhokijjemaaDoor
open Go.RowKit

theorem flat_at {X : Type} (f : X → List Value) (C : Nat) (hC : ∀ x, (f x).length = C) : ∀ (L : List X) (i : Nat) (h : i < L.length) (q : Nat), q < C → (L.flatMap f)[i * C + q]? = (f L[i])[q]?
  | [], i, h, _, _ => absurd h (by simp)
  | x :: r, 0, _, q, hq => by
    rw [List.flatMap_cons, Nat.zero_mul, Nat.zero_add, List.getElem?_append_left (by rw [hC]; exact hq)]; rfl
  | x :: r, i + 1, h, q, hq => by
    have hx := hC x
    rw [List.flatMap_cons, List.getElem?_append_right (by rw [hx, Nat.succ_mul]; omega), hx, show (i + 1) * C + q - C = i * C + q by rw [Nat.succ_mul]; omega]
    exact flat_at f C hC r i (by simpa using h) q hq
section
variable {X : Type} {f : X → List Value} {C : Nat} {w : World} {base : Nat} {e : TypeId} {v : Value} {A : Option Addr} {n c : Nat} {L : List X}
theorem own_at (hC : ∀ x, (f x).length = C) (h : w.ownsRow base e C (.slice A n c) n (L.flatMap f)) (k : Nat) (hk : k < L.length) (h0 : 0 < n) :
    ∃ g off, A = some ⟨g, off, none⟩ ∧ base ≤ g ∧ g < w.heap.size ∧ ∀ q u, (f L[k])[q]? = some u → w.cell? ⟨g, off + k * C + q, none⟩ = some u := by
  rcases h.2 with ⟨he, hn0⟩ | ⟨g, cap, cur, he, hb, hh, _⟩
  · omega
  · injection he with he
    subst he
    refine ⟨g, 0, rfl, hb, (Array.getElem?_eq_some_iff.1 hh).1, fun q u hq => ?_⟩
    have hqC : q < C := by rw [← hC L[k]]; exact (List.getElem?_eq_some_iff.1 hq).1
    have := h.cells (g := g) rfl (k * C + q) u (by rw [flat_at f C hC L k hk q hqC]; exact hq)
    rw [Addr.add_lit] at this
    rw [Nat.add_assoc]
    exact this
theorem own_split (h : w.ownsRow base e C v n (L.flatMap f)) : ∃ A c, v = .slice A n c ∧ n ≤ c ∧ c ≤ maxLen := by
  rcases h.2 with ⟨rfl, rfl⟩ | ⟨g, cap, cur, rfl, _, hh, hc, hm, _⟩
  · exact ⟨none, 0, rfl, Nat.le_refl _, by simp [maxLen]⟩
  · exact ⟨_, cap, rfl, hc, hm⟩
theorem own_rdX3 (hC : ∀ x, (f x).length = C) (hn : L.length = n) (h : w.ownsRow base e C (.slice A n c) n (L.flatMap f)) : RdX f C w A L := fun i hi => by
  obtain ⟨g, off, hA, _, _, hc⟩ := own_at hC h i hi (by omega)
  exact ⟨g, off, hA, hc⟩
end
structure Bel (w0 w : World) : Prop where
  out : Below w0.heap.size w0 w
theorem Bel.below {w0 w w' : World} (h : Bel w0 w) (hb : Below w.heap.size w w') : Bel w0 w' := ⟨h.out.trans (hb.mono h.out.size)⟩
structure RowW (w : World) (e g cap : Nat) (l : Bytes) : Prop where
  row : Row w e g cap l
theorem RowW.below {w w' : World} {e g cap : Nat} {l : Bytes} (h : RowW w e g cap l) (hb : Below w.heap.size w w') : RowW w' e g cap l := ⟨h.row.below hb h.row.lt⟩
structure OwnR (w : World) (base e size : Nat) (v : Value) (n : Nat) (xs : List Value) : Prop where
  own : w.ownsRow base e size v n xs
theorem OwnR.below {w w' : World} {base e size : Nat} {v : Value} {n : Nat} {xs : List Value} (h : OwnR w base e size v n xs) (hb : Below w.heap.size w w') : OwnR w' base e size v n xs := ⟨own_below h.own hb⟩
end Go.Proofs.YtgejkhokijjemaaDoor
/- Extents: plain words; the contract of extent.Check. -/
namespace Go.Proofs.YtgejkhokijjemaaDoor
open Go.RowKit

abbrev Ext := Int × Int
def tcells (x : Ext) : List Value := [.int .i64 x.1, .int .i64 x.2]
theorem tcells_len (x : Ext) : (tcells x).length = 2 := rfl
def badX (n : Int) (e : Ext) : Bool := decide (e.2 < 1) || decide (e.1 < 0) || decide (n < e.2) || decide (n - e.2 < e.1)
def hitX (e o : Ext) : Bool := decide (e.1 < o.1 + o.2) && decide (o.1 < e.1 + e.2)
/-- the fault of the element k -/
def faultX (n : Int) (l : List Ext) (k : Nat) (e : Ext) : Nat := if badX n e = true then 1 else if (l.take k).any (hitX e) = true then 7 else 0
def loopX (n : Int) (l : List Ext) : Nat → Nat
  | 0 => 0
  | k + 1 => if loopX n l k = 0 then faultX n l k (l.getD k (0, 0)) else loopX n l k
/-- what is wrong with extents -/
def chkX (n : Int) (l : List Ext) : Nat := if n < 0 ∨ 6400 < n then 1 else if 200 < l.length then 4 else loopX n l l.length
theorem loopX_stop (n : Int) (l : List Ext) (k : Nat) (h : loopX n l k ≠ 0) : ∀ m, k ≤ m → loopX n l m = loopX n l k
  | 0, hm => by obtain rfl : k = 0 := by omega
                rfl
  | m + 1, hm => by
    by_cases hk : k = m + 1
    · rw [hk]
    · have := loopX_stop n l k h m (by omega)
      rw [loopX, if_neg (by rw [this]; exact h), this]
theorem loopX_zero (n : Int) (l : List Ext) : ∀ k, loopX n l k = 0 → ∀ j, j < k → faultX n l j (l.getD j (0, 0)) = 0
  | 0, _, j, hj => by omega
  | k + 1, h, j, hj => by
    rw [loopX] at h
    split at h
    · rename_i h0
      rcases Nat.lt_succ_iff_lt_or_eq.1 hj with h' | rfl
      · exact loopX_zero n l k h0 j h'
      · exact h
    · rename_i h0; exact absurd h h0
theorem badX_false {n : Int} {e : Ext} (h : badX n e = false) : 1 ≤ e.2 ∧ 0 ≤ e.1 ∧ e.2 ≤ n ∧ e.1 + e.2 ≤ n := by
  unfold badX at h
  simp only [Bool.or_eq_false_iff, decide_eq_false_iff_not] at h
  omega
theorem faultX_zero {n : Int} {l : List Ext} {k : Nat} {e : Ext} (h : faultX n l k e = 0) : badX n e = false ∧ (l.take k).any (hitX e) = false := by
  unfold faultX at h
  split at h
  · cases h
  · rename_i h1
    split at h
    · cases h
    · rename_i h2
      exact ⟨by simpa using h1, by simpa using h2⟩
theorem RdX.take {X : Type} {cells : X → List Value} {C : Nat} {w : World} {A : Option Addr} {L : List X} (h : RdX cells C w A L) (k : Nat) : RdX cells C w A (L.take k) := fun i hi => by
  have hi' : i < L.length := by rw [List.length_take] at hi; omega
  obtain ⟨b, off, hA, hc⟩ := h i hi'
  exact ⟨b, off, hA, fun q u hq => hc q u (by rwa [List.getElem_take] at hq)⟩
/-- the closure of Check -/
theorem hit1_any (e x : Ext) (Bx : Nat) (W : World) (h1 : W.cell? ⟨Bx, 0, none⟩ = some (.int .i64 e.1)) (h2 : W.cell? ⟨Bx, 1, none⟩ = some (.int .i64 e.2)) (he : 0 ≤ e.1 ∧ e.1 ≤ 6400 ∧ 0 ≤ e.2 ∧ e.2 ≤ 6400) (hx : 0 ≤ x.1 ∧ x.1 ≤ 6400 ∧ 0 ≤ x.2 ∧ x.2 ≤ 6400) :
    Calls Tryd.prog 102 #[.agg #[.int .i64 x.1, .int .i64 x.2], .pointer (some ⟨Bx, 0, none⟩)] W fun e' w' => e' = .returned (.bool (hitX e x)) ∧ Below W.heap.size W w' := by
  obtain ⟨e1, e2⟩ := e
  obtain ⟨x1, x2⟩ := x
  dsimp only at *
  have hlt := block_lt_of_cell h1
  have hW : Below W.heap.size W (W.alloc (.cells #[.int .i64 x1, .int .i64 x2] 123)) := (Below.refl _ _).alloc (Nat.le_refl _) _
  have s1 : IntKind.i64.wrap (x1 + x2) = x1 + x2 := IntWalk.i64_in _ (by omega)
  have s2 : IntKind.i64.wrap (e1 + e2) = e1 + e2 := IntWalk.i64_in _ (by omega)
  unfold hitX
  dsimp only
  by_cases hc : e1 < x1 + x2
  · have d1 : decide (e1 < x1 + x2) = true := by simpa using hc
    go_enter Tryd.func102, Tryd.ntmps102
    go_wp2_with fail
    go_ret
    exact ⟨by simp, hW⟩
  · have d1 : decide (e1 < x1 + x2) = false := by simpa using hc
    go_enter Tryd.func102, Tryd.ntmps102
    go_wp2_with fail
    go_ret
    exact ⟨by simp, hW⟩
theorem idxX_check (p : Ext → Bool) (A : Option Addr) (n c : Nat) (L : List Ext) (cap : Value) (w : World) (hn : L.length = n) (hl : n ≤ 1000) (hr : RdX tcells 2 w A L)
    (hP : ∀ x ∈ L, ∀ W, Below w.heap.size w W → Calls Tryd.prog 102 #[.agg #[.int .i64 x.1, .int .i64 x.2], cap] W fun e w' => e = .returned (.bool (p x)) ∧ Below W.heap.size W w') :
    Calls Tryd.prog 127 #[.slice A n c, .func (.func 102) #[] #[cap]] w fun e w' => ∃ z : Int, e = .returned (.int .i64 z) ∧ decide (0 ≤ z) = L.any p ∧ Below w.heap.size w w' := by
  subst hn
  have HP := Hidden.mk hP
  clear hP
  go_enter Tryd.func127, Tryd.ntmps127
  go_wp2_with fail
  go_loopw [8] (fun i wr => Below w.heap.size w wr ∧ ∃ k : Nat, k ≤ L.length ∧ i = .int .i64 k ∧ Hidden (∀ x ∈ L.take k, p x = false)) (fun i _ => L.length - (intOf i).toNat)
  case atStart => exact ⟨Below.refl _ _, 0, Nat.zero_le _, rfl, ⟨by simp⟩⟩
  case round =>
    obtain ⟨hbel, k, hk, rfl, hnot⟩ := hrel
    by_cases hlt : k < L.length
    · obtain ⟨b, off, rfl, hcx⟩ := (hr.below hbel) k hlt
      have c0 := hcx 0 _ rfl
      have c1 := hcx 1 _ rfl
      rw [Nat.add_zero] at c0
      have hp := HP.out L[k] (List.getElem_mem hlt) wr hbel
      have HPK := Hidden.mk hp
      have i0 : (0 : Int) ≤ k := by omega
      have i1 : (k : Int) < L.length := by omega
      clear hp hcx
      go_wp2_with fail
      refine (HPK.out).mono ?_
      rintro e w1 ⟨rfl, hb1⟩
      have hB1 := hbel.trans (hb1.mono hbel.size)
      cases he : p L[k] with
      | true =>
        have hi : Hidden (true = L.any p) := ⟨(List.any_eq_true.2 ⟨L[k], List.getElem_mem hlt, he⟩).symm⟩
        clear he hb1 hbel
        go_wp2_with fail
        go_ret
        exact ⟨_, rfl, by rw [← hi.out]; simp, hB1⟩
      | false =>
        have hnk : Hidden (∀ x ∈ L.take (k + 1), p x = false) := ⟨forall_take_succ' hlt hnot.out he⟩
        clear he hnot hb1 hbel
        go_wp2_with fail
        go_roundw
        case rel => exact ⟨hB1, k + 1, by omega, by go_num, hnk⟩
        case measure => simp [intOf]; omega
    · have hi : Hidden (false = L.any p) := ⟨by
        have := hnot.out
        rw [List.take_of_length_le (by omega)] at this
        symm; simpa using this⟩
      go_wp2_with fail
      go_ret
      exact ⟨-1, rfl, by rw [← hi.out]; rfl, hbel⟩
theorem cfX_check (p : Ext → Bool) (A : Option Addr) (n c : Nat) (L : List Ext) (cap : Value) (w : World) (hn : L.length = n) (hl : n ≤ 1000) (hr : RdX tcells 2 w A L)
    (hP : ∀ x ∈ L, ∀ W, Below w.heap.size w W → Calls Tryd.prog 102 #[.agg #[.int .i64 x.1, .int .i64 x.2], cap] W fun e w' => e = .returned (.bool (p x)) ∧ Below W.heap.size W w') :
    Calls Tryd.prog 101 #[.slice A n c, .func (.func 102) #[] #[cap]] w fun e w' => e = .returned (.bool (L.any p)) ∧ Below w.heap.size w w' := by
  have HC := Hidden.mk (idxX_check p A n c L cap w hn hl hr hP)
  clear hP
  go_enter Tryd.func101, Tryd.ntmps101
  go_wp2_with fail
  refine HC.out.mono ?_
  rintro e w1 ⟨z, rfl, hz, hb⟩
  have HZ := Hidden.mk hz
  clear hz
  go_wp2_with fail
  go_ret
  exact ⟨congrArg (fun b => Ending.returned (.bool b)) HZ.out, hb⟩
theorem run_headX (A : Option Addr) (n c k : Nat) (hkc : k ≤ c) (W : World) :
    (Instr.sliceAt 97 (.slice A n c) none (some (.int .i64 k)) none).run Tryd.prog W = .ok (.slice A k c) W := by
  obtain ⟨i0, hi0, hz0, hz1, hz2⟩ := info_parts (show (Tryd.prog.info? 123).map (fun i => (i.zero, i.size, i.bytes)) = some (some (.agg #[.int .i64 0, .int .i64 0]), 2, 16) by kernel_rfl)
  cases A <;> simp [Instr.sliceAt, Instr.slice, Instr.sliceBounds, Instr.sliceBound, run_underlying Tryd.underlying97, asIntOf, sizeOf, typeInfo, hi0, hkc, Addr.add]
set_option maxRecDepth 100000 in
theorem xcheck_any (n : Int) (A : Option Addr) (m c : Nat) (l : List Ext) (w : World) (hl : l.length = m) (hmc : m ≤ c) (hr : RdX tcells 2 w A l) :
    Calls Tryd.prog 51 #[.int .i64 n, .slice A m c] w fun e w' => e = .returned (errV (chkX n l)) ∧ Below w.heap.size w w' := by
  by_cases h1 : n < 0
  · have HC : Hidden (chkX n l = 1) := ⟨by unfold chkX; rw [if_pos (.inl h1)]⟩
    clear hr hl
    go_enter Tryd.func51, Tryd.ntmps51
    go_wp2_with fail
    go_ret
    exact ⟨by rw [HC.out]; rfl, Below.refl _ _⟩
  by_cases h2 : 6400 < n
  · have HC : Hidden (chkX n l = 1) := ⟨by unfold chkX; rw [if_pos (.inr h2)]⟩
    clear hr hl
    go_enter Tryd.func51, Tryd.ntmps51
    go_wp2_with fail
    go_ret
    exact ⟨by rw [HC.out]; rfl, Below.refl _ _⟩
  have d1 : decide (n < 0) = false := by simpa using h1
  have d2 : decide (6400 < n) = false := by simpa using h2
  by_cases h3 : 200 < m
  · have HC : Hidden (chkX n l = 4) := ⟨by unfold chkX; rw [if_neg (by omega), if_pos (by omega)]⟩
    have d3 : decide (200 < m) = true := by simpa using h3
    clear hr hl
    go_enter Tryd.func51, Tryd.ntmps51
    go_wp2_with fail
    go_ret
    exact ⟨by rw [HC.out]; rfl, Below.refl _ _⟩
  have d3 : decide (200 < m) = false := by simpa using h3
  have HC : Hidden (chkX n l = loopX n l m) := ⟨by unfold chkX; rw [if_neg (by omega), if_neg (by omega), hl]⟩
  have HL := Hidden.mk hl
  have HR := Hidden.mk hr
  clear hr hl
  go_enter Tryd.func51, Tryd.ntmps51
  go_wp2_with fail
  go_loopg [22] m (fun q i wr => ∃ k : Nat, k ≤ m ∧ q = m - k ∧ i = .int .i64 (k : Int) ∧ Hidden (Below w.heap.size w wr ∧ loopX n l k = 0))
  case atStart => exact ⟨0, by omega, rfl, rfl, ⟨Below.refl _ _, rfl⟩⟩
  case round =>
    obtain ⟨k, hk, rfl, rfl, hst⟩ := hrel
    by_cases hlt : k < m
    · have hkl : k < l.length := by have := HL.out; omega
      obtain ⟨p, off, rfl, hcx⟩ := (HR.out.below hst.out.1) k hkl
      have c0 := hcx 0 _ rfl
      have c1 := hcx 1 _ rfl
      rw [Nat.add_zero] at c0
      have HF : Hidden (loopX n l (k + 1) = faultX n l k l[k]) := ⟨by rw [loopX, if_pos hst.out.2]; simp [hkl]⟩
      have HG : Hidden (faultX n l k l[k] = if badX n l[k] = true then 1 else if (l.take k).any (hitX l[k]) = true then 7 else 0) := ⟨rfl⟩
      have HBX : Hidden (badX n l[k] = (decide (l[k].2 < 1) || decide (l[k].1 < 0) || decide (n < l[k].2) || decide (n - l[k].2 < l[k].1))) := ⟨rfl⟩
      have HEND : Hidden (∀ x, x ≠ 0 → loopX n l (k + 1) = x → chkX n l = x) := ⟨fun x hx he => by rw [HC.out, loopX_stop n l (k + 1) (by rw [he]; exact hx) m (by omega), he]⟩
      have k0 : (0 : Int) ≤ k := by omega
      have k1 : (k : Int) < m := by omega
      have HEL : Hidden (l[k].1 = l[k].1 ∧ l[k].2 = l[k].2) := ⟨rfl, rfl⟩
      have hall : ∀ j, j < k → badX n (l.getD j (0, 0)) = false := fun j hj => (faultX_zero (loopX_zero n l k hst.out.2 j hj)).1
      have hprev : ∀ x ∈ l.take k, 0 ≤ x.1 ∧ x.1 ≤ 6400 ∧ 0 ≤ x.2 ∧ x.2 ≤ 6400 := fun x hx => by
        obtain ⟨j, hj, rfl⟩ := List.getElem_of_mem hx
        rw [List.length_take] at hj
        have := hall j (by omega)
        rw [List.getElem_take]
        have he : l.getD j (0, 0) = l[j] := by simp [show j < l.length by omega]
        rw [he] at this
        have := badX_false this
        omega
      have HPREV := Hidden.mk hprev
      have hrt := (HR.out.below hst.out.1).take k
      have HRT := Hidden.mk hrt
      clear hcx hall hprev hrt
      have HHIT : Hidden (∀ x : Ext, hitX l[k] x = hitX (l[k].1, l[k].2) x) := ⟨fun _ => rfl⟩
      generalize hlk : l[k] = e at *
      obtain ⟨e1, e2⟩ := e
      dsimp only at HF HG HBX c0 c1 HHIT
      have hal : Below wr.heap.size wr (wr.alloc (.cells #[.int .i64 e1, .int .i64 e2] 123)) := (Below.refl _ _).alloc (Nat.le_refl _) _
      have HB2 : Hidden (Below w.heap.size w (wr.alloc (.cells #[.int .i64 e1, .int .i64 e2] 123))) := ⟨hst.out.1.trans (hal.mono hst.out.1.size)⟩
      have hbk : (wr.alloc (.cells #[.int .i64 e1, .int .i64 e2] 123)).heap[wr.heap.size]? = some (.cells #[.int .i64 e1, .int .i64 e2] 123 (0, 0)) := heap_alloc_new wr _
      have HBK := Hidden.mk hbk
      have HLK := Hidden.mk hlk
      have HRT2 := Hidden.mk (HRT.out.below hal)
      clear hal hbk hlk HEL HRT
      by_cases b1 : e2 < 1
      · have t1 : decide (e2 < 1) = true := by simpa using b1
        have HE := Hidden.mk (HEND.out 1 (by decide) (by rw [HF.out, HG.out, if_pos (by rw [HBX.out, t1]; rfl)]))
        go_wp2_with fail
        go_ret
        exact ⟨by rw [HE.out]; rfl, HB2.out⟩
      have t1 : decide (e2 < 1) = false := by simpa using b1
      by_cases b2 : e1 < 0
      · have t2 : decide (e1 < 0) = true := by simpa using b2
        have HE := Hidden.mk (HEND.out 1 (by decide) (by rw [HF.out, HG.out, if_pos (by rw [HBX.out, t1, t2]; rfl)]))
        go_wp2_with fail
        go_ret
        exact ⟨by rw [HE.out]; rfl, HB2.out⟩
      have t2 : decide (e1 < 0) = false := by simpa using b2
      by_cases b3 : n < e2
      · have t3 : decide (n < e2) = true := by simpa using b3
        have HE := Hidden.mk (HEND.out 1 (by decide) (by rw [HF.out, HG.out, if_pos (by rw [HBX.out, t1, t2, t3]; rfl)]))
        go_wp2_with fail
        go_ret
        exact ⟨by rw [HE.out]; rfl, HB2.out⟩
      have t3 : decide (n < e2) = false := by simpa using b3
      have s1 : IntKind.i64.wrap (n - e2) = n - e2 := IntWalk.i64_in _ (by omega)
      by_cases b4 : n - e2 < e1
      · have t4 : decide (n - e2 < e1) = true := by simpa using b4
        have HE := Hidden.mk (HEND.out 1 (by decide) (by rw [HF.out, HG.out, if_pos (by rw [HBX.out, t1, t2, t3, t4]; rfl)]))
        go_wp2_with fail
        go_ret
        exact ⟨by rw [HE.out]; rfl, HB2.out⟩
      have t4 : decide (n - e2 < e1) = false := by simpa using b4
      have HBAD : Hidden (badX n (e1, e2) = false) := ⟨by rw [HBX.out, t1, t2, t3, t4]; rfl⟩
      have hsl := run_headX (some ⟨p, off, none⟩) m c k (by omega)
      go_wp2_with fail
      generalize wr.alloc (.cells #[.int .i64 e1, .int .i64 e2] 123) = w2 at *
      generalize wr.heap.size = Bx at *
      clear c0 c1 b1 b2 b3 b4
      have y0 : ∀ W, Below w2.heap.size w2 W → W.cell? ⟨Bx, 0, none⟩ = some (.int .i64 e1) ∧ W.cell? ⟨Bx, 1, none⟩ = some (.int .i64 e2) := fun W hW => by
        have hb := (hW.block _ (Array.getElem?_eq_some_iff.1 HBK.out).1).trans HBK.out
        exact ⟨by simp [World.cell?, hb], by simp [World.cell?, hb]⟩
      have hb2 := badX_false HBAD.out
      have hcf := cfX_check (hitX (e1, e2)) (some ⟨p, off, none⟩) k c (l.take k) (.pointer (some ⟨Bx, 0, none⟩)) w2 (by rw [List.length_take]; omega) (by omega) HRT2.out
        (fun x hx W hW => hit1_any (e1, e2) x Bx W (y0 W hW).1 (y0 W hW).2 (by dsimp only at hb2 ⊢; omega) (HPREV.out x hx))
      have HCF := Hidden.mk hcf
      clear hcf y0 hb2
      refine HCF.out.mono ?_
      rintro e w3 ⟨rfl, hb⟩
      have HB3 := Hidden.mk (HB2.out.trans (hb.mono HB2.out.size))
      clear hb
      cases hq : (l.take k).any (hitX (e1, e2)) with
      | true =>
        have HE := Hidden.mk (HEND.out 7 (by decide) (by rw [HF.out, HG.out, if_neg (by rw [HBAD.out]; decide), if_pos hq]))
        clear hq
        go_wp2_with fail
        go_ret
        exact ⟨by rw [HE.out]; rfl, HB3.out⟩
      | false =>
        have HE : Hidden (loopX n l (k + 1) = 0) := ⟨by rw [HF.out, HG.out, if_neg (by rw [HBAD.out]; decide), if_neg (by rw [hq]; decide)]⟩
        have q1 : IntKind.i64.wrap ((k : Int) + 1) = (k : Int) + 1 := IntWalk.i64_in _ (by omega)
        clear hq
        go_wp2_with fail
        go_roundg (m - (k + 1))
        case measure => omega
        case rel => exact ⟨k + 1, by omega, rfl, by go_num, ⟨HB3.out, HE.out⟩⟩
    · obtain rfl : k = m := by omega
      have HF : Hidden (chkX n l = 0) := ⟨by rw [HC.out]; exact hst.out.2⟩
      go_wp2_with fail
      go_ret
      exact ⟨by rw [HF.out]; rfl, hst.out.1⟩
end Go.Proofs.YtgejkhokijjemaaDoor
/- A row of structs that the library has sorted: what it holds then. No program in sight. -/
namespace Go.Proofs.YtgejkhokijjemaaDoor
open Go.RowKit Go.Sort Go.Shelf Go.Lib

theorem flatK_list {α : Type} [Inhabited α] (enc : α → List Value) (k : Nat) (hk : ∀ x, (enc x).length = k) (h0 : 0 < k) (d : Array α) : (flatK enc k d).toList = d.toList.flatMap enc := by
  apply List.ext_getElem?
  intro t
  by_cases ht : t < d.size * k
  · have h1 : t / k < d.size := by rw [Nat.div_lt_iff_lt_mul h0]; exact ht
    have h2 := flat_at enc k hk d.toList (t / k) (by simpa using h1) (t % k) (Nat.mod_lt _ h0)
    rw [Nat.div_add_mod' t k] at h2
    rw [h2]
    have h3 : t < (flatK enc k d).size := by simpa using ht
    have h4 := get_flatK enc k d t ht
    rw [getElem!_pos _ t h3] at h4
    rw [Array.getElem?_toList, Array.getElem?_eq_getElem h3, h4]
    have h5 : t % k < (enc d[t / k]!).length := by rw [hk]; exact Nat.mod_lt _ h0
    have h6 : d[t / k]! = d.toList[t / k]'(by simpa using h1) := by rw [getElem!_pos d (t / k) h1, Array.getElem_toList]
    rw [getElem!_pos (enc d[t / k]!) (t % k) h5, ← h6, List.getElem?_eq_getElem h5]
  · have hl : (d.toList.flatMap enc).length = d.size * k := by
      rw [List.length_flatMap]
      have : d.toList.map (fun x => (enc x).length) = List.replicate d.size k := by
        rw [List.eq_replicate_iff]
        exact ⟨by simp, fun b hb => by obtain ⟨x, _, rfl⟩ := List.mem_map.1 hb; exact hk x⟩
      rw [this]; simp
    rw [List.getElem?_eq_none (by rw [Array.length_toList, size_flatK]; omega), List.getElem?_eq_none (by omega)]
theorem take_putCellsK (cur F : Array Value) (h : F.size ≤ cur.size) : (putCells id 0 F cur).toList.take F.size = F.toList := by
  apply List.ext_getElem?
  intro j
  by_cases hj : j < F.size
  · rw [List.getElem?_take_of_lt hj, Array.getElem?_toList]
    simp [putCells, hj, show j < cur.size by omega]
  · rw [List.getElem?_take_eq_none (by omega), List.getElem?_eq_none (by simp; omega)]
theorem holdsK_own {α : Type} [Inhabited α] {enc : α → List Value} {k : Nat} (hk : ∀ x, (enc x).length = k) (h0 : 0 < k) {w : World} {base : Nat} {e : TypeId} {g n cap : Nat} {L : List α} (h : w.ownsRow base e k (.slice (some ⟨g, 0, none⟩) n cap) n (L.flatMap enc)) :
    HoldsK enc k w g 0 L.toArray := by
  rcases h.2 with ⟨h1, _⟩ | ⟨g', cap', cur, he, _, hh, _⟩
  · cases h1
  · injection he with he _ hcap
    injection he with he
    injection he with he
    subst he hcap
    intro j hj
    have hf := flatK_list enc k hk h0 L.toArray
    have hj' : j < L.length * k := by simpa using hj
    have hc : (L.flatMap enc)[j]? = some ((flatK enc k L.toArray)[j]!) := by
      have : (flatK enc k L.toArray).toList[j]? = some ((flatK enc k L.toArray)[j]!) := by
        rw [getElem!_pos _ j hj, Array.getElem?_toList, Array.getElem?_eq_getElem hj]
      rw [hf] at this
      simpa using this
    have := h.cells (g := g) rfl j _ hc
    rw [Addr.add_lit] at this
    exact ⟨this, by simp [World.frozen?, hh]⟩
theorem own_sortedK {α : Type} [Inhabited α] {enc : α → List Value} {k : Nat} (hk : ∀ x, (enc x).length = k) (h0 : 0 < k) {w : World} {base : Nat} {e : TypeId} {g n cap m : Nat} {L : List α} {d : Array α} {os : Array Obj} (hd : d.size = n) (h : w.ownsRow base e k (.slice (some ⟨g, 0, none⟩) n cap) n (L.flatMap enc)) :
    (sortWorldK enc k w g 0 m d os).ownsRow base e k (.slice (some ⟨g, 0, none⟩) n cap) n (d.toList.flatMap enc) ∧ w.grownBy (sortWorldK enc k w g 0 m d os) (some g) := by
  rcases h.2 with ⟨h1, _⟩ | ⟨g', cap', cur, he, hb, hh, hc, hm, hz, ht⟩
  · cases h1
  · injection he with he _ hcap
    injection he with he
    injection he with he
    subst he hcap
    have hg : g < w.heap.size := (Array.getElem?_eq_some_iff.1 hh).1
    have hfs : (flatK enc k d).size = n * k := by simp [hd]
    have hheap : (sortWorldK enc k w g 0 m d os).heap[g]? = some (.cells (putCells id 0 (flatK enc k d) cur) e (0, 0)) := by
      unfold sortWorldK
      rw [heap_grow_old _ _ (by simpa [putRowK] using hg)]
      simp [putRowK, putRow, mapBlock, Sort.ahead, Array.getElem?_modify, hh, onCells]
    have hle : n * k ≤ cap * k := Nat.mul_le_mul_right _ hc
    refine ⟨⟨?_, .inr ⟨g, cap, _, rfl, hb, hheap, hc, hm, by simp [putCells, hz], ?_⟩⟩, ?_⟩
    · rw [← flatK_list enc k hk h0 d, Array.length_toList, hfs]
    · rw [← hfs, take_putCellsK _ _ (by rw [hfs, hz]; exact hle), flatK_list enc k hk h0 d]
    · unfold sortWorldK
      refine ⟨rfl, rfl, rfl, by simp [putRowK], fun q hq hne => ?_⟩
      rw [heap_grow_old _ _ (by simpa [putRowK] using hq)]
      have : g ≠ q := fun e => hne (by rw [e])
      simp [putRowK, putRow, mapBlock, Sort.ahead, Array.getElem?_modify, this]
/-- sorted as the library sorts -/
def pdqL {α : Type} [Inhabited α] (cf : α → α → Int) (l : List α) : List α := (pdq (ltOf cf) l.toArray 0 l.length (Lib.bitLen l.length) true true).toList
theorem pdqL_perm {α : Type} [Inhabited α] (cf : α → α → Int) (hO : SWO (ltOf cf)) (l : List α) : (pdqL cf l).Perm l ∧ (pdqL cf l).Pairwise (fun a b => ltOf cf b a = false) := by
  have h := pdq_sorts (ltOf cf) hO l.toArray 0 l.length (Lib.bitLen l.length) true true (Nat.zero_le _) (by simp) (Or.inl rfl)
  obtain ⟨⟨hs, _, hp⟩, hsort⟩ := h
  have hs' : (pdq (ltOf cf) l.toArray 0 l.length (Lib.bitLen l.length) true true).size = l.length := by simpa using hs
  refine ⟨?_, ?_⟩
  · unfold pdqL
    have e1 : ∀ d : Array α, d.size = l.length → (d.extract 0 l.length).toList = d.toList := fun d hd => by
      rw [← hd]; simp
    rw [e1 _ hs', e1 _ (by simp)] at hp
    simpa using hp
  · unfold pdqL
    rw [List.pairwise_iff_getElem]
    intro i j hi hj hij
    have h1 := hsort i j (Nat.zero_le _) hij (by rw [Array.length_toList] at hj; omega)
    rw [getElem!_pos _ j (by simpa using hj), getElem!_pos _ i (by simpa using hi)] at h1
    simpa using h1
end Go.Proofs.YtgejkhokijjemaaDoor
/- Laid: library functions whose contracts are proved over whatever program: the table of numbers, and a field a function or a type. -/
namespace Go.Proofs.YtgejkhokijjemaaDoor
open Go.Shelf
def layX_ren : Go.Shelf.Ren := ⟨fun | 6 => 129 | 15 => 149 | 14 => 150 | 28 => 165 | 29 => 166 | 20 => 167 | 21 => 168 | 22 => 169 | 23 => 170 | 24 => 171 | 25 => 172 | 26 => 173 | 27 => 174 | 46 => 180 | 47 => 176 | 48 => 177 | 49 => 181 | 50 => 182 | 57 => 184 | n => n, fun | 22 => 97 | 24 => 123 | 25 => 200 | 3 => 3 | 39 => 223 | 0 => 0 | 53 => 248 | 55 => 250 | 4 => 4 | 46 => 241 | 45 => 240 | 50 => 245 | 5 => 5 | 9 => 9 | 66 => 256 | 70 => 260 | 76 => 264 | 77 => 134 | n => n, fun | n => n⟩
theorem layX : Go.Proofs.SlLaysF0.n6 Tryd.prog layX_ren := {
  mixed := by kernel_rfl
  f6 := ⟨Tryd.f129.name, by decide, Tryd.func129.trans (congrArg some (by kernel_rfl))⟩
  f14 := ⟨Tryd.f150.name, by decide, Tryd.func150.trans (congrArg some (by kernel_rfl))⟩
  f15 := Tryd.func149.trans (congrArg some (by kernel_rfl))
  f20 := ⟨Tryd.f167.name, by decide, Tryd.func167.trans (congrArg some (by kernel_rfl))⟩
  f21 := ⟨Tryd.f168.name, by decide, Tryd.func168.trans (congrArg some (by kernel_rfl))⟩
  f22 := ⟨Tryd.f169.name, by decide, Tryd.func169.trans (congrArg some (by kernel_rfl))⟩
  f23 := ⟨Tryd.f170.name, by decide, Tryd.func170.trans (congrArg some (by kernel_rfl))⟩
  f24 := ⟨Tryd.f171.name, by decide, Tryd.func171.trans (congrArg some (by kernel_rfl))⟩
  f25 := ⟨Tryd.f172.name, by decide, Tryd.func172.trans (congrArg some (by kernel_rfl))⟩
  f26 := ⟨Tryd.f173.name, by decide, Tryd.func173.trans (congrArg some (by kernel_rfl))⟩
  f27 := ⟨Tryd.f174.name, by decide, Tryd.func174.trans (congrArg some (by kernel_rfl))⟩
  f28 := Tryd.func165.trans (congrArg some (by kernel_rfl))
  f29 := Tryd.func166.trans (congrArg some (by kernel_rfl))
  f46 := ⟨Tryd.f180.name, by decide, Tryd.func180.trans (congrArg some (by kernel_rfl))⟩
  f47 := Tryd.func176.trans (congrArg some (by kernel_rfl))
  f48 := Tryd.func177.trans (congrArg some (by kernel_rfl))
  f49 := ⟨Tryd.f181.name, by decide, Tryd.func181.trans (congrArg some (by kernel_rfl))⟩
  f50 := ⟨Tryd.f182.name, by decide, Tryd.func182.trans (congrArg some (by kernel_rfl))⟩
  f57 := ⟨Tryd.f184.name, by decide, Tryd.func184.trans (congrArg some (by kernel_rfl))⟩
  t0 := Tryd.underlying0
  a0 := Tryd.isAgg0
  z0 := Tryd.sizeOf0
  v0 := Tryd.zeroValue0
  t3 := Tryd.underlying3
  a3 := Tryd.isAgg3
  z3 := Tryd.sizeOf3
  v3 := Tryd.zeroValue3
  t4 := Tryd.underlying4
  a4 := Tryd.isAgg4
  z4 := Tryd.sizeOf4
  v4 := Tryd.zeroValue4
  t5 := Tryd.underlying5
  a5 := Tryd.isAgg5
  z5 := Tryd.sizeOf5
  v5 := Tryd.zeroValue5
  t9 := Tryd.underlying9
  a9 := Tryd.isAgg9
  z9 := Tryd.sizeOf9
  v9 := Tryd.zeroValue9
  t22 := Tryd.underlying97
  a22 := Tryd.isAgg97
  z22 := Tryd.sizeOf97
  v22 := Tryd.zeroValue97
  t25 := Tryd.underlying200
  a25 := Tryd.isAgg200
  z25 := Tryd.sizeOf200
  v25 := Tryd.zeroValue200
  t39 := Tryd.underlying223
  a39 := Tryd.isAgg223
  z39 := Tryd.sizeOf223
  v39 := Tryd.zeroValue223
  t45 := Tryd.underlying240
  a45 := Tryd.isAgg240
  z45 := Tryd.sizeOf240
  v45 := Tryd.zeroValue240
  t46 := Tryd.underlying241
  a46 := Tryd.isAgg241
  z46 := Tryd.sizeOf241
  v46 := Tryd.zeroValue241
  t50 := Tryd.underlying245
  a50 := Tryd.isAgg245
  z50 := Tryd.sizeOf245
  v50 := Tryd.zeroValue245
  t53 := Tryd.underlying248
  a53 := Tryd.isAgg248
  z53 := Tryd.sizeOf248
  v53 := Tryd.zeroValue248
  t55 := Tryd.underlying250
  a55 := Tryd.isAgg250
  z55 := Tryd.sizeOf250
  v55 := Tryd.zeroValue250
  t66 := Tryd.underlying256
  a66 := Tryd.isAgg256
  z66 := Tryd.sizeOf256
  v66 := Tryd.zeroValue256
  t70 := Tryd.underlying260
  a70 := Tryd.isAgg260
  z70 := Tryd.sizeOf260
  v70 := Tryd.zeroValue260
  t76 := Tryd.underlying264
  a76 := Tryd.isAgg264
  z76 := Tryd.sizeOf264
  v76 := Tryd.zeroValue264
  t77 := Tryd.underlying134
  a77 := Tryd.isAgg134
  z77 := Tryd.sizeOf134
  v77 := Tryd.zeroValue134 }
end Go.Proofs.YtgejkhokijjemaaDoor
/- The contract of extent.Holes. -/
namespace Go.Proofs.YtgejkhokijjemaaDoor
open Go.RowKit Go.Sort Go.Shelf Go.Lib

def cmpX (x y : Ext) : Int := Lib.compareInt x.1 y.1
theorem ltX (x y : Ext) : ltOf cmpX x y = decide (x.1 < y.1) := by
  unfold ltOf cmpX Lib.compareInt
  by_cases h1 : x.1 < y.1
  · simp [h1]
  · by_cases h2 : y.1 < x.1 <;> simp [h1, h2]
theorem swoX : SWO (ltOf cmpX) where
  irrefl x := by rw [ltX]; simp
  trans x y z h1 h2 := by rw [ltX] at *; simp at *; omega
  ntrans x y z h1 h2 := by rw [ltX] at *; simp at *; omega
/-- extents by where they begin -/
def sortE (l : List Ext) : List Ext := pdqL cmpX l
theorem sortE_perm (l : List Ext) : (sortE l).Perm l := (pdqL_perm cmpX swoX l).1
theorem sortE_sorted (l : List Ext) : (sortE l).Pairwise (fun a b => a.1 ≤ b.1) := (pdqL_perm cmpX swoX l).2.imp fun {a b} h => by
  rw [ltX] at h; simp at h; omega
/-- runs between -/
def holesGo : Int → List Ext → List Ext
  | _, [] => []
  | at_, e :: r => (if at_ < e.1 then [(at_, e.1 - at_)] else []) ++ holesGo (e.1 + e.2) r
def holesX (n : Int) (l : List Ext) : List Ext := holesGo 0 (sortE l ++ [(n, 0)])

theorem compare_any (x y : Int) (w : World) : Calls Tryd.prog 131 #[.int .i64 x, .int .i64 y] w fun e w' => e = .returned (.int .i64 (Lib.compareInt x y)) ∧ w = w' := by
  have hn : ∀ z : Int, ∀ W, Calls Tryd.prog 151 #[.int .i64 z] W fun e w' => e = .returned (.bool false) ∧ W = w' := fun z W => by
    go_enter Tryd.func151, Tryd.ntmps151
    go_wp2
    go_ret
    exact ⟨by simp, rfl⟩
  have HN := Hidden.mk hn
  have HC : Hidden (Lib.compareInt x y = if x < y then -1 else if y < x then 1 else 0) := ⟨by unfold Lib.compareInt; rfl⟩
  clear hn
  by_cases h1 : x < y
  · have d1 : decide (x < y) = true := by simpa using h1
    have HV : Hidden (Lib.compareInt x y = -1) := ⟨by rw [HC.out, if_pos h1]⟩
    go_enter Tryd.func131, Tryd.ntmps131
    go_wp2_with (first | (go_at_call 151; refine (HN.out _ _).mono ?_; rintro e w' ⟨rfl, rfl⟩))
    go_ret
    exact ⟨ret_i64 HV.out.symm, rfl⟩
  have d1 : decide (x < y) = false := by simpa using h1
  by_cases h2 : y < x
  · have d2 : decide (y < x) = true := by simpa using h2
    have HV : Hidden (Lib.compareInt x y = 1) := ⟨by rw [HC.out, if_neg h1, if_pos h2]⟩
    go_enter Tryd.func131, Tryd.ntmps131
    go_wp2_with (first | (go_at_call 151; refine (HN.out _ _).mono ?_; rintro e w' ⟨rfl, rfl⟩))
    go_ret
    exact ⟨ret_i64 HV.out.symm, rfl⟩
  have d2 : decide (y < x) = false := by simpa using h2
  have HV : Hidden (Lib.compareInt x y = 0) := ⟨by rw [HC.out, if_neg h1, if_neg h2]⟩
  go_enter Tryd.func131, Tryd.ntmps131
  go_wp2_with (first | (go_at_call 151; refine (HN.out _ _).mono ?_; rintro e w' ⟨rfl, rfl⟩))
  go_ret
  exact ⟨ret_i64 HV.out.symm, rfl⟩
/-- the closure of Holes -/
theorem closeX (x y : Ext) (W : World) : Calls Tryd.prog 130 #[.agg #[.int .i64 x.1, .int .i64 x.2], .agg #[.int .i64 y.1, .int .i64 y.2]] W fun e w' => e = .returned (.int .i64 (cmpX x y)) ∧ ∃ q os', w' = grow (W.drewN q) os' := by
  have hcon := fun W' => compare_any x.1 y.1 W'
  have HC := Hidden.mk hcon
  have HX : Hidden (cmpX x y = Lib.compareInt x.1 y.1) := ⟨rfl⟩
  clear hcon
  rw [HX.out]
  generalize Lib.compareInt x.1 y.1 = r at *
  go_enter Tryd.func130, Tryd.ntmps130
  go_wp2_with (go_at_call 131; refine (HC.out _).mono ?_; rintro e w' ⟨rfl, rfl⟩)
  go_ret
  exact ⟨rfl, 0, _, by rw [alloc_eq_grow, alloc_eq_grow, grow_grow]; rfl⟩
theorem sortX_any (w : World) (base n : Nat) (v : Value) (L : List Ext) (hn : L.length = n) (hl : n ≤ 1000) (hown : w.ownsRow base 123 2 v n (L.flatMap tcells)) :
    Calls Tryd.prog 129 #[v, .func (.func 130) #[] #[]] w fun e w' => e = .returned (.tuple #[]) ∧ w'.ownsRow base 123 2 v n ((sortE L).flatMap tcells) ∧ w.grownBy w' v.ownBlock := by
  rcases hown.2 with ⟨rfl, h0⟩ | ⟨g, cap, cur, rfl, hb, hh, _⟩
  · have hL : L = [] := List.eq_nil_of_length_eq_zero (by omega)
    subst hL h0
    have hs : sortE [] = [] := List.Perm.eq_nil (sortE_perm [])
    have hc := AnyF.slices_SortFunc_none layX none 0 (.func (.func 130) #[] #[]) w
    change Calls Tryd.prog 129 _ _ _ at hc
    refine hc.mono ?_
    rintro e w' ⟨rfl, rfl⟩
    exact ⟨rfl, by rw [hs]; exact hown, World.grownBy.refl _ _⟩
  · have eg : ∀ args w, (callFunc 130 args).run Tryd.prog w = .ok (.enter 130 args) w := enters_of Tryd.func130 (by kernel_rfl) rfl
    have hcon := AnyQ.slices_SortFunc_eq layX 2 Tryd.isAgg123 Tryd.sizeOf123 tcells tcells_len (fun x v hv => by simp [tcells] at hv; rcases hv with rfl | rfl <;> rfl) cmpX swoX 130 #[] g 0 cap L.toArray w eg
      (fun _ _ _ _ x y => closeX x y _) (holdsK_own tcells_len (by omega) hown) (Array.getElem?_eq_some_iff.1 hh).1 (by simp; omega)
    change Calls Tryd.prog 129 _ _ _ at hcon
    have hsz : L.toArray.size = n := by simpa using hn
    rw [hsz] at hcon
    refine hcon.mono ?_
    rintro e w' ⟨rfl, m, os, rfl⟩
    have hds : (pdq (ltOf cmpX) L.toArray 0 n (Lib.bitLen n) true true).size = n := by
      have := (sortE_perm L).length_eq
      unfold sortE pdqL at this
      rw [Array.length_toList, hn] at this
      exact this
    have h2 := own_sortedK (m := m) (os := os) tcells_len (by omega) hds hown
    refine ⟨rfl, ?_, h2.2⟩
    have he : sortE L = (pdq (ltOf cmpX) L.toArray 0 n (Lib.bitLen n) true true).toList := by unfold sortE pdqL; rw [hn]
    rw [he]
    exact h2.1
theorem Src.of_rdX {X : Type} {cells : X → List Value} {C : Nat} (hC : ∀ x, (cells x).length = C) (h0 : 0 < C) {w : World} {A : Option Addr} {n : Nat} {L : List X} (hn : L.length = n) (h : RdX cells C w A L) : Src w C A n (L.flatMap cells) := by
  have hlen : (L.flatMap cells).length = n * C := by
    rw [List.length_flatMap]
    have : L.map (fun x => (cells x).length) = List.replicate n C := by
      rw [List.eq_replicate_iff]
      exact ⟨by simpa using hn, fun b hb => by obtain ⟨x, _, rfl⟩ := List.mem_map.1 hb; exact hC x⟩
    rw [this]; simp
  refine ⟨hlen, fun j u hu => ?_⟩
  have hj : j < n * C := by rw [← hlen]; exact (List.getElem?_eq_some_iff.1 hu).1
  have h1 : j / C < L.length := by rw [hn, Nat.div_lt_iff_lt_mul h0]; exact hj
  obtain ⟨b, off, rfl, hc⟩ := h (j / C) h1
  have h2 := flat_at cells C hC L (j / C) h1 (j % C) (Nat.mod_lt _ h0)
  rw [Nat.div_add_mod' j C] at h2
  refine ⟨_, rfl, ?_⟩
  rw [Addr.add_lit]
  have := hc (j % C) u (h2.symm.trans hu)
  rwa [Nat.add_assoc, Nat.div_add_mod' j C] at this
theorem extent_info : (Tryd.prog.info? 123).map (fun i => (i.zero, i.size, i.bytes)) = some (some (.agg #[.int .i64 0, .int .i64 0]), 2, 16) := by kernel_rfl
theorem tcells_one (L : List Ext) : ∀ u ∈ L.flatMap tcells, u.oneCell' = true := by
  intro u hu
  obtain ⟨x, _, h⟩ := List.mem_flatMap.1 hu
  simp only [tcells, List.mem_cons, List.not_mem_nil, or_false] at h
  rcases h with rfl | rfl <;> rfl
theorem cloneX_any (A : Option Addr) (n c : Nat) (L : List Ext) (w : World) (hn : L.length = n) (hl : n ≤ 1000) (hr : RdX tcells 2 w A L) :
    Calls Tryd.prog 128 #[.slice A n c] w fun e w' => ∃ v, e = .returned v ∧ w'.ownsRow w.heap.size 123 2 v n (L.flatMap tcells) ∧ Below w.heap.size w w' := by
  have he := fun W => Lib.run_eql_slice_nil (P := Tryd.prog) W 97 123 A n c 0 0 Tryd.underlying97
  have hsrc := Src.of_rdX tcells_len (by omega) hn hr
  rcases A with _ | ad
  · have hL : L = [] := by
      cases L with
      | nil => rfl
      | cons x r => obtain ⟨b, off, h, _⟩ := hr 0 (by simp); cases h
    subst hL
    have h0 : n = 0 := by simpa using hn.symm
    subst h0
    clear hr hsrc hn
    go_enter Tryd.func128, Tryd.ntmps128
    go_wp2_with fail
    go_ret
    exact ⟨_, rfl, World.ownsRow_nil _ _ _ _, Below.refl _ _⟩
  · obtain ⟨i0, hi0, hz0, hz1, hz2⟩ := info_parts extent_info
    have hown := World.ownsRow_lit (base := w.heap.size) (e := 123) (size := 2) w #[] 0 (Nat.le_refl _) (by simp) rfl
    have HSRC := Hidden.mk (hsrc.below ((Below.refl _ _).alloc (Nat.le_refl _) (.cells #[] 123)))
    have HOW := Hidden.mk hown
    clear hsrc hown hn hr
    go_enter Tryd.func128, Tryd.ntmps128
    go_wp2_with (at_builtin; refine wpList_append_src _ rfl (.tmp 5) (.tmp 6) _ rfl w.heap.size 123 i0 _ 2 16 Tryd.underlying97 hi0 hz0 hz1 hz2 rfl (by decide) (.slice (some ⟨w.heap.size, 0, none⟩) 0 0) 0 [] rfl HOW.out (some ad) n c (L.flatMap tcells) rfl HSRC.out (tcells_one L) (by simp only [maxLen]; omega) (by omega) (by simp) ?_; intro v1 w1 hown1 hg1 hnn)
    have hB : Below w.heap.size w w1 := ((Below.refl _ _).alloc (Nat.le_refl _) _).grown hg1 (by simp) (fun k hk => by simp [Value.ownBlock] at hk; omega)
    have HO := Hidden.mk (And.intro hown1 hB)
    clear hown1 hB hg1 hnn
    go_ret
    exact ⟨v1, rfl, by simpa using HO.out.1, HO.out.2⟩
/-- what is right for Holes -/
def OkX (l : List Ext) : Prop := ∀ x ∈ l, 0 ≤ x.1 ∧ 0 ≤ x.2 ∧ x.1 + x.2 ≤ 6400
theorem own_mem {w : World} {base n : Nat} {e : TypeId} {v : Value} {xs : List Value} {C : Nat} (h : w.ownsRow base e C v n xs) (hn : 0 < n) : ∃ g cap, v = .slice (some ⟨g, 0, none⟩) n cap ∧ base ≤ g := by
  rcases h.2 with ⟨_, h0⟩ | ⟨g, cap, cur, rfl, hb, _⟩
  · omega
  · exact ⟨g, cap, rfl, hb⟩
set_option maxRecDepth 100000 in
theorem xholes_any (n : Int) (A : Option Addr) (m c : Nat) (l : List Ext) (w : World) (hn0 : 0 ≤ n) (hn1 : n ≤ 6400) (hl : l.length = m) (hm : m ≤ 200) (hr : RdX tcells 2 w A l) (hok : OkX l) :
    Calls Tryd.prog 103 #[.int .i64 n, .slice A m c] w fun e w' => ∃ v, e = .returned v ∧ w'.ownsRow w.heap.size 123 2 v (holesX n l).length ((holesX n l).flatMap tcells) ∧ Below w.heap.size w w' := by
  obtain ⟨i0, hi0, hz0, hz1, hz2⟩ := info_parts extent_info
  have HI := Hidden.mk (And.intro hi0 (And.intro hz0 (And.intro hz1 hz2)))
  have HC := Hidden.mk (cloneX_any A m c l w hl (by omega) hr)
  have HS : Hidden ((sortE l).length = m) := ⟨by rw [(sortE_perm l).length_eq]; exact hl⟩
  have HOK : Hidden (OkX (sortE l ++ [(n, 0)])) := ⟨fun x hx => by
    rcases List.mem_append.1 hx with h | h
    · exact hok x ((sortE_perm l).mem_iff.1 h)
    · rw [List.mem_singleton.1 h]; dsimp only; omega⟩
  have HH : Hidden (holesX n l = holesGo 0 (sortE l ++ [(n, 0)])) := ⟨rfl⟩
  have HSORT : Hidden (∀ W v, W.ownsRow w.heap.size 123 2 v m (l.flatMap tcells) → Calls Tryd.prog 129 #[v, .func (.func 130) #[] #[]] W fun e w' => e = .returned (.tuple #[]) ∧ w'.ownsRow w.heap.size 123 2 v m ((sortE l).flatMap tcells) ∧ W.grownBy w' v.ownBlock) := ⟨fun W v h => sortX_any W _ m v l hl (by omega) h⟩
  rw [HH.out]
  generalize sortE l = S at *
  obtain ⟨X, hX⟩ : ∃ X, X = holesGo 0 (S ++ [(n, 0)]) := ⟨_, rfl⟩
  rw [← hX]
  have HX := Hidden.mk hX
  clear hX HH
  clear hi0 hz0 hz1 hz2 hr hok hl
  go_enter Tryd.func103, Tryd.ntmps103
  go_wp2_with fail
  refine HC.out.mono ?_
  rintro e w1 ⟨v1, rfl, hown1, hb1⟩
  have HO1 := Hidden.mk (And.intro hown1 hb1)
  clear hown1 hb1 HC
  go_wp2_with fail
  refine (HSORT.out _ _ HO1.out.1).mono ?_
  rintro e w2 ⟨rfl, hown2, hg2⟩
  have hb2 : Below w.heap.size w w2 := HO1.out.2.grown hg2 HO1.out.2.size (fun q hq => (HO1.out.1.lt q hq).1)
  have HO2 := Hidden.mk (And.intro hown2 hb2)
  clear hown2 hb2 hg2 HO1 HSORT
  obtain ⟨hi0, hz0, hz1, hz2⟩ := HI.out
  go_wp2_with (at_builtin; refine wpList_append_lies _ rfl (.tmp 12) (.tmp 15) _ rfl w.heap.size 123 i0 _ 2 16 Tryd.underlying97 hi0 hz0 hz1 hz2 rfl (by decide) v1 m (S.flatMap tcells) rfl (own_below HO2.out.1 ((Below.refl _ _).alloc (Nat.le_refl _) _)) ⟨(w2).heap.size, 0, none⟩ 1 1 [.int .i64 n, .int .i64 0] rfl rfl (World.news_of_block (cs := #[.int .i64 n, .int .i64 0]) (t := 123) (fr := (0, 0)) (heap_alloc_new (w2) _)) (by simp [Value.oneCell']) (by omega) (by simp only [maxLen]; omega) (by omega) (by have hz_ := HO2.out.2.size; rw [World.size_alloc]; omega) ((w2).heap.size + 1) (by simp) ?_; intro g3 cap3 w3 hown3 hg3 hat3 hlt3)
  clear hi0 hz0 hz1 hz2
  have hgW := grown_trans' ((Below.refl w2.heap.size w2).alloc (Nat.le_refl _) _) hg3
  have hB3 : Below w.heap.size w w3 := HO2.out.2.grown hgW HO2.out.2.size (fun q hq => (HO2.out.1.lt q hq).1)
  have hown3' : w3.ownsRow w.heap.size 123 2 (.slice (some ⟨g3, 0, none⟩) (m + 1) cap3) (m + 1) ((S ++ [(n, 0)]).flatMap tcells) := by simpa [tcells] using hown3
  have HSL : Hidden ((S ++ [(n, 0)]).length = m + 1) := ⟨by simp [HS.out]⟩
  generalize S ++ [(n, 0)] = T at *
  have H3 : Hidden (Below w.heap.size w w3 ∧ w3.ownsRow w.heap.size 123 2 (.slice (some ⟨g3, 0, none⟩) (m + 1) cap3) (m + 1) (T.flatMap tcells)) := ⟨hB3, hown3'⟩
  clear hgW hB3 hown3 hown3' hg3 hat3 hlt3 HO2 HS
  go_wp2_with fail
  go_loopg [4, 5, 18] (m + 1) (fun q v at_ i wr => ∃ (k : Nat) (H : List Ext) (a : Int), k ≤ m + 1 ∧ q = m + 1 - k ∧ i = .int .i64 (k : Int) ∧ at_ = .int .i64 a ∧ 0 ≤ a ∧ a ≤ 6400 ∧ H.length ≤ k ∧ Hidden (X = H ++ holesGo a (T.drop k) ∧ Below w.heap.size w wr ∧ wr.ownsRow w.heap.size 123 2 (.slice (some ⟨g3, 0, none⟩) (m + 1) cap3) (m + 1) (T.flatMap tcells) ∧ wr.ownsRow w.heap.size 123 2 v H.length (H.flatMap tcells) ∧ v.ownBlock ≠ some g3))
  case atStart => exact ⟨0, [], 0, by omega, rfl, rfl, rfl, by omega, by omega, by simp, ⟨by rw [HX.out]; simp, H3.out.1, H3.out.2, World.ownsRow_nil _ _ _ _, by simp [Value.ownBlock]⟩⟩
  case round =>
    obtain ⟨k, H, a, hk, rfl, rfl, rfl, ha0, ha1, hHk, hst⟩ := hrel
    by_cases hlt : k < m + 1
    · have hkT : k < T.length := by have := HSL.out; omega
      obtain ⟨g, off, hA, hgb, hgl, hcx⟩ := own_at tcells_len hst.out.2.2.1 k hkT (by omega)
      injection hA with hA
      injection hA with hA1 hA2
      subst hA1 hA2
      have c0 := hcx 0 _ rfl
      have c1 := hcx 1 _ rfl
      simp only [Nat.zero_add, Nat.add_zero] at c0 c1
      have hb := HOK.out T[k] (List.getElem_mem hkT)
      have HD : Hidden (T.drop k = T[k] :: T.drop (k + 1)) := ⟨(List.drop_eq_getElem_cons hkT)⟩
      have HG : Hidden (holesGo a (T.drop k) = (if a < T[k].1 then [(a, T[k].1 - a)] else []) ++ holesGo (T[k].1 + T[k].2) (T.drop (k + 1))) := ⟨by rw [HD.out]; rfl⟩
      have k0 : (0 : Int) ≤ k := by omega
      have k1 : (k : Int) < ((m + 1 : Nat) : Int) := by omega
      have k2 : k < m + 1 := hlt
      have k3 : (k : Int) < (m : Int) + 1 := by omega
      generalize T[k] = e at *
      obtain ⟨e1, e2⟩ := e
      dsimp only at c0 c1 hb HG
      obtain ⟨hb0, hb1, hb2⟩ := hb
      have hal : Below wr.heap.size wr (wr.alloc (.cells #[.int .i64 e1, .int .i64 e2] 123)) := (Below.refl _ _).alloc (Nat.le_refl _) _
      have s1 : IntKind.i64.wrap (e1 + e2) = e1 + e2 := IntWalk.i64_in _ (by omega)
      have s2 : IntKind.i64.wrap (e1 - a) = e1 - a := IntWalk.i64_in _ (by omega)
      have s3 : IntKind.i64.wrap ((k : Int) + 1) = (k : Int) + 1 := IntWalk.i64_in _ (by omega)
      have HAL := Hidden.mk hal
      clear hcx HD hal
      by_cases hlt2 : a < e1
      · have d1 : decide (a < e1) = true := by simpa using hlt2
        have HG2 : Hidden (holesGo a (T.drop k) = (a, e1 - a) :: holesGo (e1 + e2) (T.drop (k + 1))) := ⟨by rw [HG.out, if_pos hlt2]; rfl⟩
        have HBW : Hidden (Below w.heap.size w (wr.alloc (.cells #[.int .i64 e1, .int .i64 e2] 123))) := ⟨hst.out.2.1.trans (HAL.out.mono hst.out.2.1.size)⟩
        have hbk : (wr.alloc (.cells #[.int .i64 e1, .int .i64 e2] 123)).heap[wr.heap.size]? = some (.cells #[.int .i64 e1, .int .i64 e2] 123 (0, 0)) := heap_alloc_new wr _
        have HBK := Hidden.mk hbk
        have HAL2 : Hidden (Below wr.heap.size wr ((wr.alloc (.cells #[.int .i64 e1, .int .i64 e2] 123)).alloc (.cells #[.int .i64 a, .int .i64 (e1 - a)] 123))) := ⟨HAL.out.alloc HAL.out.size _⟩
        have HCELL : Hidden (∀ W, ((wr.alloc (.cells #[.int .i64 e1, .int .i64 e2] 123)).alloc (.cells #[.int .i64 a, .int .i64 (e1 - a)] 123)).grownBy W u4.ownBlock → W.cell? ⟨wr.heap.size, 0, none⟩ = some (.int .i64 e1) ∧ W.cell? ⟨wr.heap.size, 1, none⟩ = some (.int .i64 e2)) := ⟨fun W hW => by
          have hq := (hW.block wr.heap.size (by simp; omega) (fun e => by have := (hst.out.2.2.2.1.lt _ e.symm).2; omega)).trans ((Below.heap_alloc _ _ _ (by simp)).trans hbk)
          exact ⟨by simp [World.cell?, hq], by simp [World.cell?, hq]⟩⟩
        obtain ⟨hi0, hz0, hz1, hz2⟩ := HI.out
        clear hbk HG
        go_wp2_with (at_builtin; refine wpList_append_lies _ rfl (.tmp 26) (.tmp 33) _ rfl w.heap.size 123 i0 _ 2 16 Tryd.underlying97 hi0 hz0 hz1 hz2 rfl (by decide) u4 H.length (H.flatMap tcells) rfl (own_below (own_below hst.out.2.2.2.1 HAL.out) ((Below.refl _ _).alloc (Nat.le_refl _) _)) ⟨wr.heap.size + 1, 0, none⟩ 1 1 [.int .i64 a, .int .i64 (e1 - a)] rfl rfl (World.news_of_block (cs := #[.int .i64 a, .int .i64 (e1 - a)]) (t := 123) (fr := (0, 0)) (by have hq_ := heap_alloc_new (wr.alloc (.cells #[.int .i64 e1, .int .i64 e2] 123)) (.cells #[.int .i64 a, .int .i64 (e1 - a)] 123); rwa [World.size_alloc] at hq_)) (by simp [Value.oneCell']) (by omega) (by simp only [maxLen]; omega) (by omega) (by have hz_ := HBW.out.size; rw [World.size_alloc]; omega) (wr.heap.size + 1 + 1) (by simp) ?_; intro g7 cap7 w7 hown7 hg7 hat7 hlt7; have hgW := grown_trans' (HAL2.out) hg7; obtain ⟨z0, z1⟩ := HCELL.out w7 hg7)
        clear hi0 hz0 hz1 hz2
        have hB7 : Below w.heap.size w w7 := hst.out.2.1.grown hgW hst.out.2.1.size (fun q hq => (hst.out.2.2.2.1.lt q hq).1)
        have hg3n : some g3 ≠ u4.ownBlock := fun e => hst.out.2.2.2.2 e.symm
        have hT7 := hst.out.2.2.1.kept hgW (.inr (by simpa [Value.ownBlock] using hg3n))
        have hg37 : g7 ≠ g3 := fun e => by
          rcases hat7 with h | h
          · exact hst.out.2.2.2.2 (by rw [h, e])
          · omega
        have HN : Hidden (X = (H ++ [(a, e1 - a)]) ++ holesGo (e1 + e2) (T.drop (k + 1)) ∧ Below w.heap.size w w7 ∧ w7.ownsRow w.heap.size 123 2 (.slice (some ⟨g3, 0, none⟩) (m + 1) cap3) (m + 1) (T.flatMap tcells) ∧ w7.ownsRow w.heap.size 123 2 (.slice (some ⟨g7, 0, none⟩) (H.length + 1) cap7) (H ++ [(a, e1 - a)]).length ((H ++ [(a, e1 - a)]).flatMap tcells) ∧ (Value.slice (some ⟨g7, 0, none⟩) (H.length + 1) cap7).ownBlock ≠ some g3) :=
          ⟨by rw [hst.out.1, HG2.out]; simp, hB7, hT7, by simpa [tcells] using hown7, by simpa [Value.ownBlock] using hg37⟩
        clear hB7 hg3n hT7 hg37 hown7 hg7 hat7 hlt7 hgW hst HBW HBK HAL2 HCELL HG2
        go_wp2_with fail
        go_roundg (m + 1 - (k + 1))
        case measure => omega
        case rel => exact ⟨k + 1, H ++ [(a, e1 - a)], e1 + e2, by omega, rfl, by go_num, rfl, by omega, by omega, by simp; omega, HN⟩
      · have d1 : decide (a < e1) = false := by simpa using hlt2
        have HG2 : Hidden (holesGo a (T.drop k) = holesGo (e1 + e2) (T.drop (k + 1))) := ⟨by rw [HG.out, if_neg hlt2]; rfl⟩
        have HN : Hidden (X = H ++ holesGo (e1 + e2) (T.drop (k + 1)) ∧ Below w.heap.size w (wr.alloc (.cells #[.int .i64 e1, .int .i64 e2] 123)) ∧ (wr.alloc (.cells #[.int .i64 e1, .int .i64 e2] 123)).ownsRow w.heap.size 123 2 (.slice (some ⟨g3, 0, none⟩) (m + 1) cap3) (m + 1) (T.flatMap tcells) ∧ (wr.alloc (.cells #[.int .i64 e1, .int .i64 e2] 123)).ownsRow w.heap.size 123 2 u4 H.length (H.flatMap tcells) ∧ u4.ownBlock ≠ some g3) :=
          ⟨hst.out.1.trans (by rw [HG2.out]), hst.out.2.1.trans (HAL.out.mono hst.out.2.1.size), own_below hst.out.2.2.1 HAL.out, own_below hst.out.2.2.2.1 HAL.out, hst.out.2.2.2.2⟩
        clear HG HG2 hst
        go_wp2_with fail
        go_roundg (m + 1 - (k + 1))
        case measure => omega
        case rel => exact ⟨k + 1, H, e1 + e2, by omega, rfl, by go_num, rfl, by omega, by omega, by omega, HN⟩
    · obtain rfl : k = m + 1 := by omega
      have HF : Hidden (X = H) := ⟨by rw [hst.out.1, List.drop_of_length_le (by have := HSL.out; omega)]; simp [holesGo]⟩
      go_wp2_with fail
      go_ret
      exact ⟨_, rfl, by rw [HF.out]; exact hst.out.2.2.2.1, hst.out.2.1⟩
end Go.Proofs.YtgejkhokijjemaaDoor
/- The contracts of extent.Frees and Fit. -/
namespace Go.Proofs.YtgejkhokijjemaaDoor
open Go.RowKit

theorem chkX_ok {n : Int} {l : List Ext} (h : chkX n l = 0) : 0 ≤ n ∧ n ≤ 6400 ∧ l.length ≤ 200 ∧ OkX l ∧ (∀ j (hj : j < l.length), badX n l[j] = false ∧ (l.take j).any (hitX l[j]) = false) := by
  unfold chkX at h
  split at h
  · cases h
  · rename_i h1
    split at h
    · cases h
    · rename_i h2
      have h3 : ∀ j (hj : j < l.length), badX n l[j] = false ∧ (l.take j).any (hitX l[j]) = false := fun j hj => by
        have := faultX_zero (loopX_zero n l l.length h j hj)
        simpa [hj] using this
      refine ⟨by omega, by omega, by omega, fun x hx => ?_, h3⟩
      obtain ⟨j, hj, rfl⟩ := List.getElem_of_mem hx
      have := badX_false (h3 j hj).1
      omega
theorem holesGo_len : ∀ (a : Int) (S : List Ext), (holesGo a S).length ≤ S.length
  | _, [] => Nat.le_refl _
  | a, e :: r => by
    have := holesGo_len (e.1 + e.2) r
    rw [holesGo, List.length_append, List.length_cons]
    split <;> simp <;> omega
theorem holesX_len (n : Int) (l : List Ext) : (holesX n l).length ≤ l.length + 1 := by
  unfold holesX
  have := holesGo_len 0 (sortE l ++ [(n, 0)])
  rw [List.length_append, (sortE_perm l).length_eq] at this
  exact this
def freesL (n : Int) (l : List Ext) : List Ext := if chkX n l = 0 then holesX n l else []
set_option maxRecDepth 100000 in
theorem xfrees_any (n : Int) (A : Option Addr) (m c : Nat) (l : List Ext) (w : World) (hl : l.length = m) (hmc : m ≤ c) (hr : RdX tcells 2 w A l) :
    Calls Tryd.prog 55 #[.int .i64 n, .slice A m c] w fun e w' => ∃ v, e = .returned (.tuple #[v, errV (chkX n l)]) ∧ w'.ownsRow w.heap.size 123 2 v (freesL n l).length ((freesL n l).flatMap tcells) ∧ Below w.heap.size w w' := by
  have HC := Hidden.mk (xcheck_any n A m c l w hl hmc hr)
  have HF : Hidden (freesL n l = if chkX n l = 0 then holesX n l else []) := ⟨rfl⟩
  by_cases h0 : chkX n l = 0
  · obtain ⟨o0, o1, o2, o3, -⟩ := chkX_ok h0
    have HH : Hidden (∀ W, Below w.heap.size w W → Calls Tryd.prog 103 #[.int .i64 n, .slice A m c] W fun e w' => ∃ v, e = .returned v ∧ w'.ownsRow W.heap.size 123 2 v (holesX n l).length ((holesX n l).flatMap tcells) ∧ Below W.heap.size W w') := ⟨fun W hW => xholes_any n A m c l W o0 o1 hl (by omega) (hr.below hW) o3⟩
    rw [h0] at HC HF
    rw [show errV 0 = Value.nilIface from rfl] at HC
    rw [h0, HF.out]
    simp only [if_true]
    generalize holesX n l = X at *
    clear HF h0 hr hl o3
    go_enter Tryd.func55, Tryd.ntmps55
    go_wp2_with fail
    refine HC.out.mono ?_
    rintro e w1 ⟨rfl, hb1⟩
    have HB1 := Hidden.mk hb1
    clear hb1
    go_wp2_with fail
    refine (HH.out _ HB1.out).mono ?_
    rintro e w2 ⟨v, rfl, hown, hb2⟩
    have HR := Hidden.mk (And.intro hown (HB1.out.trans (hb2.mono HB1.out.size)))
    clear hown hb2
    go_wp2_with fail
    go_ret2
    exact ⟨v, rfl, ⟨HR.out.1.1, by
      rcases HR.out.1.2 with h | ⟨g, cap, cur, he, hb, rest⟩
      · exact .inl h
      · exact .inr ⟨g, cap, cur, he, Nat.le_trans HB1.out.size hb, rest⟩⟩, HR.out.2⟩
  · have hF : freesL n l = [] := by rw [HF.out, if_neg h0]
    rw [hF]
    have hev : errV (chkX n l) = .iface 121 (.int .i64 (chkX n l)) := by unfold errV; rw [if_neg h0]
    rw [hev] at HC ⊢
    generalize chkX n l = q at *
    clear h0 hev hF HF hr hl
    go_enter Tryd.func55, Tryd.ntmps55
    go_wp2_with fail
    refine HC.out.mono ?_
    rintro e w1 ⟨rfl, hb1⟩
    have HB1 := Hidden.mk hb1
    clear hb1
    go_wp2_with fail
    go_ret2
    exact ⟨_, rfl, World.ownsRow_nil _ _ _ _, HB1.out⟩
/-- the run that fits best -/
def bestX (size : Int) (H : List Ext) : Ext := H.foldl (fun b h => if size ≤ h.2 ∧ (b.2 = 0 ∨ h.2 < b.2) then h else b) (0, 0)
def fitE (n : Int) (l : List Ext) (size : Int) : Nat := if chkX n l = 0 then (if size < 1 ∨ 6400 < size then 1 else if (bestX size (holesX n l)).2 = 0 then 4 else 0) else chkX n l
def fitA (n : Int) (l : List Ext) (size : Int) : Int := if fitE n l size = 0 then (bestX size (holesX n l)).1 else 0
theorem bestX_succ (size : Int) (H : List Ext) (k : Nat) (hk : k < H.length) : bestX size (H.take (k + 1)) = if size ≤ H[k].2 ∧ ((bestX size (H.take k)).2 = 0 ∨ H[k].2 < (bestX size (H.take k)).2) then H[k] else bestX size (H.take k) := by
  unfold bestX
  rw [List.take_succ_eq_append_getElem hk, List.foldl_append]; rfl
theorem own_base {w : World} {b b' : Nat} {e : TypeId} {size n : Nat} {v : Value} {xs : List Value} (h : w.ownsRow b e size v n xs) (hb : b' ≤ b) : w.ownsRow b' e size v n xs := by
  refine ⟨h.1, ?_⟩
  rcases h.2 with h2 | ⟨g, cap, cur, he, hb2, rest⟩
  · exact .inl h2
  · exact .inr ⟨g, cap, cur, he, Nat.le_trans hb hb2, rest⟩
set_option maxRecDepth 100000 in
theorem xfit_any (n : Int) (A : Option Addr) (m c : Nat) (l : List Ext) (size : Int) (w : World) (hl : l.length = m) (hmc : m ≤ c) (hr : RdX tcells 2 w A l) :
    Calls Tryd.prog 56 #[.int .i64 n, .slice A m c, .int .i64 size] w fun e w' => e = .returned (.tuple #[.int .i64 (fitA n l size), errV (fitE n l size)]) ∧ Below w.heap.size w w' := by
  have HC := Hidden.mk (xcheck_any n A m c l w hl hmc hr)
  have HE : Hidden (fitE n l size = if chkX n l = 0 then (if size < 1 ∨ 6400 < size then 1 else if (bestX size (holesX n l)).2 = 0 then 4 else 0) else chkX n l) := ⟨rfl⟩
  have HA : Hidden (fitA n l size = if fitE n l size = 0 then (bestX size (holesX n l)).1 else 0) := ⟨rfl⟩
  generalize fitE n l size = fe at *
  generalize fitA n l size = fa at *
  by_cases h0 : chkX n l = 0
  · obtain ⟨o0, o1, o2, o3, -⟩ := chkX_ok h0
    have HH : Hidden (∀ W, Below w.heap.size w W → Calls Tryd.prog 103 #[.int .i64 n, .slice A m c] W fun e w' => ∃ v, e = .returned v ∧ w'.ownsRow W.heap.size 123 2 v (holesX n l).length ((holesX n l).flatMap tcells) ∧ Below W.heap.size W w') := ⟨fun W hW => xholes_any n A m c l W o0 o1 hl (by omega) (hr.below hW) o3⟩
    rw [h0] at HC
    rw [show errV 0 = Value.nilIface from rfl] at HC
    have hE := HE.out
    rw [if_pos h0] at hE
    have HE := Hidden.mk hE
    clear hE h0 hr hl o3
    by_cases h1 : size < 1
    · have hfe : fe = 1 := by rw [HE.out, if_pos (.inl h1)]
      have hfa : fa = 0 := by rw [HA.out, hfe]; rfl
      subst hfe hfa
      have d1 : decide (size < 1) = true := by simpa using h1
      clear HE HA HH
      go_enter Tryd.func56, Tryd.ntmps56
      go_wp2_with fail
      refine HC.out.mono ?_
      rintro e w1 ⟨rfl, hb1⟩
      have HB1 := Hidden.mk hb1
      clear hb1
      go_wp2_with fail
      go_ret2
      exact ⟨rfl, HB1.out⟩
    have d1 : decide (size < 1) = false := by simpa using h1
    by_cases h2 : 6400 < size
    · have hfe : fe = 1 := by rw [HE.out, if_pos (.inr h2)]
      have hfa : fa = 0 := by rw [HA.out, hfe]; rfl
      subst hfe hfa
      have d2 : decide (6400 < size) = true := by simpa using h2
      clear HE HA HH
      go_enter Tryd.func56, Tryd.ntmps56
      go_wp2_with fail
      refine HC.out.mono ?_
      rintro e w1 ⟨rfl, hb1⟩
      have HB1 := Hidden.mk hb1
      clear hb1
      go_wp2_with fail
      go_ret2
      exact ⟨rfl, HB1.out⟩
    have d2 : decide (6400 < size) = false := by simpa using h2
    have hE := HE.out
    rw [if_neg (by omega)] at hE
    have HE := Hidden.mk hE
    clear hE
    have hHl := holesX_len n l
    generalize holesX n l = H at *
    go_enter Tryd.func56, Tryd.ntmps56
    go_wp2_with fail
    refine HC.out.mono ?_
    rintro e w1 ⟨rfl, hb1⟩
    have hal : Below w1.heap.size w1 (w1.alloc (.cells #[.int .i64 0, .int .i64 0] 123)) := (Below.refl _ _).alloc (Nat.le_refl _) _
    have HB2 : Hidden (Below w.heap.size w (w1.alloc (.cells #[.int .i64 0, .int .i64 0] 123))) := ⟨hb1.trans (hal.mono hb1.size)⟩
    have HBK : Hidden ((w1.alloc (.cells #[.int .i64 0, .int .i64 0] 123)).heap[w1.heap.size]? = some (.cells #[.int .i64 0, .int .i64 0] 123 (0, 0))) := ⟨heap_alloc_new w1 _⟩
    have HB1 := Hidden.mk hb1.size
    clear hb1 hal
    go_wp2_with fail
    generalize w1.alloc (.cells #[.int .i64 0, .int .i64 0] 123) = w2 at *
    generalize w1.heap.size = bb at *
    refine (HH.out _ HB2.out).mono ?_
    rintro e w3 ⟨v, rfl, hown, hb3⟩
    have hbb : bb < w2.heap.size := (Array.getElem?_eq_some_iff.1 HBK.out).1
    have H3 : Hidden (Below w.heap.size w w3 ∧ w3.heap[bb]? = some (.cells #[.int .i64 0, .int .i64 0] 123 (0, 0)) ∧ w3.ownsRow w2.heap.size 123 2 v H.length (H.flatMap tcells)) := ⟨HB2.out.trans (hb3.mono HB2.out.size), (hb3.block _ hbb).trans HBK.out, hown⟩
    obtain ⟨A3, c3, rfl, hc3, -⟩ := own_split hown
    clear hown hb3 HBK HB2 HH
    generalize hhl : H.length = hl at *
    have HHL := Hidden.mk hhl
    clear hhl
    go_wp2_with fail
    go_loopg [30] hl (fun q i wr => ∃ (k : Nat) (b1 b2 : Int), k ≤ hl ∧ q = hl - k ∧ i = .int .i64 (k : Int) ∧ Hidden (bestX size (H.take k) = (b1, b2) ∧ Below w.heap.size w wr ∧ wr.heap[bb]? = some (.cells #[.int .i64 b1, .int .i64 b2] 123 (0, 0)) ∧ wr.ownsRow w2.heap.size 123 2 (.slice A3 hl c3) hl (H.flatMap tcells)))
    case atStart => exact ⟨0, 0, 0, by omega, rfl, rfl, ⟨rfl, H3.out.1, H3.out.2.1, H3.out.2.2⟩⟩
    case round =>
      obtain ⟨k, b1, b2, hk, rfl, rfl, hst⟩ := hrel
      by_cases hlt : k < hl
      · have hkH : k < H.length := by have := HHL.out; omega
        obtain ⟨g, off, rfl, hgb, hgl, hcx⟩ := own_at tcells_len hst.out.2.2.2 k hkH (by omega)
        have c0 := hcx 0 _ rfl
        have c1 := hcx 1 _ rfl
        simp only [Nat.add_zero] at c0
        have HS := Hidden.mk (bestX_succ size H k hkH)
        rw [hst.out.1] at HS
        generalize H[k] = e at *
        obtain ⟨e1, e2⟩ := e
        dsimp only at c0 c1 HS
        have hal : Below wr.heap.size wr (wr.alloc (.cells #[.int .i64 e1, .int .i64 e2] 123)) := (Below.refl _ _).alloc (Nat.le_refl _) _
        have HBK : Hidden ((wr.alloc (.cells #[.int .i64 e1, .int .i64 e2] 123)).heap[bb]? = some (.cells #[.int .i64 b1, .int .i64 b2] 123 (0, 0))) := ⟨(hal.block _ (Array.getElem?_eq_some_iff.1 hst.out.2.2.1).1).trans hst.out.2.2.1⟩
        have HN : Hidden (Below w.heap.size w (wr.alloc (.cells #[.int .i64 e1, .int .i64 e2] 123)) ∧ (wr.alloc (.cells #[.int .i64 e1, .int .i64 e2] 123)).ownsRow w2.heap.size 123 2 (.slice (some ⟨g, off, none⟩) hl c3) hl (H.flatMap tcells)) := ⟨hst.out.2.1.trans (hal.mono hst.out.2.1.size), own_below hst.out.2.2.2 hal⟩
        have hwb : w.heap.size ≤ bb := HB1.out
        have y0 : (wr.alloc (.cells #[.int .i64 e1, .int .i64 e2] 123)).cell? ⟨bb, 0, none⟩ = some (.int .i64 b1) := by simp [World.cell?, HBK.out]
        have y1 : (wr.alloc (.cells #[.int .i64 e1, .int .i64 e2] 123)).cell? ⟨bb, 1, none⟩ = some (.int .i64 b2) := by simp [World.cell?, HBK.out]
        have hfz : ∀ q, (wr.alloc (.cells #[.int .i64 e1, .int .i64 e2] 123)).frozen? ⟨bb, q, none⟩ = false := fun q => frozen_of_row _ bb q _ _ HBK.out
        have hne : wr.heap.size ≠ bb := by have := (Array.getElem?_eq_some_iff.1 hst.out.2.2.1).1; omega
        have s3 : IntKind.i64.wrap ((k : Int) + 1) = (k : Int) + 1 := IntWalk.i64_in _ (by omega)
        have k1 : (k : Int) < hl := by omega
        clear hcx hal
        by_cases q1 : size ≤ e2
        · have t1 : decide (size ≤ e2) = true := by simpa using q1
          by_cases q2 : b2 = 0 ∨ e2 < b2
          · have HS2 : Hidden (bestX size (H.take (k + 1)) = (e1, e2)) := ⟨by rw [HS.out, if_pos ⟨q1, q2⟩]⟩
            have HBK2 := Hidden.mk (heap_setK (k := 1) (heap_setK (k := 0) HBK.out (.int .i64 e1)) (.int .i64 e2))
            have HN2 : Hidden (Below w.heap.size w (((wr.alloc (.cells #[.int .i64 e1, .int .i64 e2] 123)).setCell ⟨bb, 0, none⟩ (.int .i64 e1)).setCell ⟨bb, 1, none⟩ (.int .i64 e2)) ∧ (((wr.alloc (.cells #[.int .i64 e1, .int .i64 e2] 123)).setCell ⟨bb, 0, none⟩ (.int .i64 e1)).setCell ⟨bb, 1, none⟩ (.int .i64 e2)).ownsRow w2.heap.size 123 2 (.slice (some ⟨g, off, none⟩) hl c3) hl (H.flatMap tcells)) :=
              ⟨(HN.out.1.setCell (p := ⟨bb, 0, none⟩) hwb _).setCell (p := ⟨bb, 1, none⟩) hwb _, ownsRow_block HN.out.2 fun q hq => (Below.heap_setCell _ _ _ _ (fun e => by have := (HN.out.2.lt q hq).1; simp at e; omega)).trans (Below.heap_setCell _ _ _ _ (fun e => by have := (HN.out.2.lt q hq).1; simp at e; omega))⟩
            by_cases q3 : b2 = 0
            · subst q3
              clear HS hst
              go_wp2_with fail
              go_roundg (hl - (k + 1))
              case measure => omega
              case rel => exact ⟨k + 1, e1, e2, by omega, rfl, by go_num, ⟨HS2.out, HN2.out.1, HBK2.out, HN2.out.2⟩⟩
            · have t3 : (b2 == 0) = false := by simpa using q3
              have t4 : decide (e2 < b2) = true := by simp; omega
              clear HS hst
              go_wp2_with fail
              go_roundg (hl - (k + 1))
              case measure => omega
              case rel => exact ⟨k + 1, e1, e2, by omega, rfl, by go_num, ⟨HS2.out, HN2.out.1, HBK2.out, HN2.out.2⟩⟩
          · have HS2 : Hidden (bestX size (H.take (k + 1)) = (b1, b2)) := ⟨by rw [HS.out, if_neg (fun h => q2 h.2)]⟩
            have t3 : (b2 == 0) = false := by simp; omega
            have t4 : decide (e2 < b2) = false := by simp; omega
            clear HS hst
            go_wp2_with fail
            go_roundg (hl - (k + 1))
            case measure => omega
            case rel => exact ⟨k + 1, b1, b2, by omega, rfl, by go_num, ⟨HS2.out, HN.out.1, HBK.out, HN.out.2⟩⟩
        · have t1 : decide (size ≤ e2) = false := by simpa using q1
          have HS2 : Hidden (bestX size (H.take (k + 1)) = (b1, b2)) := ⟨by rw [HS.out, if_neg (fun h => q1 h.1)]⟩
          clear HS hst
          go_wp2_with fail
          go_roundg (hl - (k + 1))
          case measure => omega
          case rel => exact ⟨k + 1, b1, b2, by omega, rfl, by go_num, ⟨HS2.out, HN.out.1, HBK.out, HN.out.2⟩⟩
      · obtain rfl : k = hl := by omega
        have hbe := hst.out.1
        rw [List.take_of_length_le (by have := HHL.out; omega)] at hbe
        have hE := HE.out
        rw [hbe] at hE HA
        dsimp only at hE HA
        have hbk := hst.out.2.2.1
        have y0 : wr.cell? ⟨bb, 0, none⟩ = some (.int .i64 b1) := by simp [World.cell?, hbk]
        have y1 : wr.cell? ⟨bb, 1, none⟩ = some (.int .i64 b2) := by simp [World.cell?, hbk]
        clear hbe hbk
        by_cases hz : b2 = 0
        · have hfe : fe = 4 := by rw [hE, if_pos hz]
          have hfa : fa = 0 := by rw [HA.out, hfe]; rfl
          subst hfe hfa hz
          clear hE HE HA
          go_wp2_with fail
          go_ret2
          exact ⟨rfl, hst.out.2.1⟩
        · have hfe : fe = 0 := by rw [hE, if_neg hz]
          have hfa : fa = b1 := by rw [HA.out, hfe]; rfl
          have t1 : (b2 == 0) = false := by simpa using hz
          subst hfe hfa
          clear hE HE HA
          go_wp2_with fail
          go_ret2
          exact ⟨rfl, hst.out.2.1⟩
  · have hfe : fe = chkX n l := by rw [HE.out, if_neg h0]
    have hfa : fa = 0 := by rw [HA.out, if_neg (by rw [hfe]; exact h0)]
    have hev : errV (chkX n l) = .iface 121 (.int .i64 (chkX n l)) := by unfold errV; rw [if_neg h0]
    rw [hfe, hfa, hev]
    rw [hev] at HC
    generalize chkX n l = q at *
    clear h0 hev HE HA hr hl hfe hfa
    go_enter Tryd.func56, Tryd.ntmps56
    go_wp2_with fail
    refine HC.out.mono ?_
    rintro e w1 ⟨rfl, hb1⟩
    have HB1 := Hidden.mk hb1
    clear hb1
    go_wp2_with fail
    go_ret2
    exact ⟨rfl, HB1.out⟩
end Go.Proofs.YtgejkhokijjemaaDoor
/- The heap: what is read of it. -/
namespace Go.Proofs.YtgejkhokijjemaaDoor
open Go.RowKit

/-- the fault of a handle; what its entry says -/
def hE (l : Bytes) (x : Int) : Nat := if handleB x = false then 1 else if hasE (rawE l (x - 1).toNat) = true then 0 else 5
def hR (l : Bytes) (x : Int) : Bytes := rawE l (x - 1).toNat
def gH (l : Bytes) (x : Int) : Int := if hE l x = 0 then x else 0
def gA (l : Bytes) (x : Int) : Int := if hE l x = 0 then rAt (hR l x) else 0
def gL (l : Bytes) (x : Int) : Int := if hE l x = 0 then rLen (hR l x) else 0
def gT (l : Bytes) (x : Int) : Int := if hE l x = 0 then rTag (hR l x) else 0
theorem hE_zero {l : Bytes} {x : Int} (h : hE l x = 0) : ∃ k : Nat, k < 40 ∧ x = (k : Int) + 1 ∧ hasE (rawE l k) = true ∧ hR l x = rawE l k := by
  unfold hE at h
  cases hh : handleB x with
  | false => rw [hh] at h; simp at h
  | true =>
    have hb := handleB_true.1 hh
    rw [hh] at h
    refine ⟨(x - 1).toNat, by omega, by omega, ?_, rfl⟩
    cases hq : hasE (rawE l (x - 1).toNat) with
    | true => rfl
    | false => rw [hq] at h; simp at h
theorem hE_has {l : Bytes} {k : Nat} (hk : k < 40) (h : hasE (rawE l k) = true) : hE l ((k : Int) + 1) = 0 ∧ hR l ((k : Int) + 1) = rawE l k := by
  have e : ((k : Int) + 1 - 1).toNat = k := by omega
  unfold hE hR
  rw [e]
  exact ⟨by rw [if_neg (by rw [handleB_true.2 (by omega)]; decide), if_pos h], rfl⟩
theorem hE_hasnt {l : Bytes} {k : Nat} (hk : k < 40) (h : hasE (rawE l k) = false) : hE l ((k : Int) + 1) = 5 := by
  have e : ((k : Int) + 1 - 1).toNat = k := by omega
  unfold hE
  rw [e, if_neg (by rw [handleB_true.2 (by omega)]; decide), if_neg (by rw [h]; decide)]
/-- an entry that a right image has lies within it -/
theorem good_in {l : Bytes} (hg : Good l) {x : Int} (h : hE l x = 0) : 288 ≤ gA l x ∧ 1 ≤ gL l x ∧ gL l x ≤ 1000 ∧ gA l x + gL l x ≤ l.length ∧ 0 ≤ gT l x ∧ gT l x ≤ 15 := by
  obtain ⟨k, hk, rfl, hh, hr⟩ := hE_zero h
  have := strayE_false (hg.s.fit k hk hh)
  unfold gA gL gT
  rw [if_pos h, if_pos h, if_pos h, hr]
  omega
theorem iget_ans (A : Option Addr) (n c : Nat) (l : Bytes) (x : Int) (w : World) (hn : l.length = n) (hr : rightB n = true) (hnc : n ≤ c) (hrd : Rd w A l) :
    Calls Tryd.prog 69 #[.slice A n c, .int .i64 x] w fun e w' => e = .returned (.tuple #[entV (gH l x) (gA l x) (gL l x) (gT l x), errV (hE l x)]) ∧ Below w.heap.size w w' := by
  cases hh : handleB x with
  | false =>
    have h1 : hE l x = 1 := by unfold hE; rw [hh]; rfl
    unfold gH gA gL gT
    rw [h1]
    exact iget_e1 A n c x w hr hh
  | true =>
    have hb := handleB_true.1 hh
    obtain ⟨k, rfl⟩ : ∃ k : Nat, x = (k : Int) + 1 := ⟨(x - 1).toNat, by omega⟩
    refine (iget_ok A n c l k w hn hr hnc hrd (by omega)).mono ?_
    rintro e w' ⟨h1, h2, hb'⟩
    refine ⟨?_, hb'⟩
    cases hq : hasE (rawE l k) with
    | true =>
      obtain ⟨e0, e1⟩ := hE_has (l := l) (k := k) (by omega) hq
      unfold gH gA gL gT
      rw [h1 hq, e0, e1]; rfl
    | false =>
      have e0 := hE_hasnt (l := l) (k := k) (by omega) hq
      unfold gH gA gL gT
      rw [h2 hq, e0]; rfl
section
variable {w0 w : World} {F : Nat → Prop} {h : Nat} {l : Bytes}
theorem htag_any (x : Int) (hp : Hp w0 w F h l) :
    Calls Tryd.prog 74 #[.pointer (some ⟨h, 0, none⟩), .int .i64 x] w fun e w' => e = .returned (.tuple #[.int .i64 (gT l x), errV (hE l x)]) ∧ Below w.heap.size w w' := by
  obtain ⟨g, cap, c0, hcap, hrow, hF⟩ := hp.open_
  have HC := Hidden.mk (iget_ans (some ⟨g, 0, none⟩) l.length cap l x w rfl hp.len hcap hrow.rd)
  unfold entV at HC
  generalize errV (hE l x) = ev at *
  generalize gH l x = a0 at *
  generalize gA l x = a1 at *
  generalize gL l x = a2 at *
  generalize gT l x = a3 at *
  clear hp hrow
  go_enter Tryd.func74, Tryd.ntmps74
  go_wp2_with fail
  refine HC.out.mono ?_
  rintro e w1 ⟨rfl, hb1⟩
  have HB := Hidden.mk (hb1.alloc hb1.size (.cells #[.int .i64 a0, .int .i64 a1, .int .i64 a2, .int .i64 a3] 125))
  clear hb1 HC
  go_wp2_with fail
  go_ret2
  exact ⟨rfl, HB.out⟩
theorem hentries_any (hp : Hp w0 w F h l) :
    Calls Tryd.prog 111 #[.pointer (some ⟨h, 0, none⟩)] w fun e w' => ∃ v, e = .returned v ∧ w'.ownsRow w.heap.size 125 4 v (entriesL l).length ((entriesL l).flatMap ecells) ∧ Below w.heap.size w w' := by
  obtain ⟨g, cap, c0, hcap, hrow, hF⟩ := hp.open_
  have HC := Hidden.mk (ientries_ok (some ⟨g, 0, none⟩) l.length cap l w rfl hp.len hcap hrow.rd)
  clear hp hrow
  go_enter Tryd.func111, Tryd.ntmps111
  go_wp2_with fail
  refine HC.out.mono ?_
  rintro e w1 ⟨v, rfl, hown, hb1⟩
  have HB := Hidden.mk (And.intro hown hb1)
  clear hb1 hown HC
  go_wp2_with fail
  go_ret
  exact ⟨v, rfl, HB.out⟩
theorem hroots_any (hp : Hp w0 w F h l) :
    Calls Tryd.prog 78 #[.pointer (some ⟨h, 0, none⟩)] w fun e w' => ∃ v, e = .returned v ∧ w'.ownsRow w.heap.size 36 2 v (rootsL l).length ((rootsL l).flatMap rcells) ∧ Below w.heap.size w w' := by
  obtain ⟨g, cap, c0, hcap, hrow, hF⟩ := hp.open_
  have HC := Hidden.mk (iroots_ok (some ⟨g, 0, none⟩) l.length cap l w rfl hp.len hcap hrow.rd)
  clear hp hrow
  go_enter Tryd.func78, Tryd.ntmps78
  go_wp2_with fail
  refine HC.out.mono ?_
  rintro e w1 ⟨v, rfl, hown, hb1⟩
  have HB := Hidden.mk (And.intro hown hb1)
  clear hb1 hown HC
  go_wp2_with fail
  go_ret
  exact ⟨v, rfl, HB.out⟩
/-- the bytes of an object, where they lie -/
theorem hof_any (g cap : Nat) (a m : Nat) (hh tg : Int) (W : World) (hc : ∃ n, W.cell? ⟨h, 0, none⟩ = some (.slice (some ⟨g, 0, none⟩) n cap)) (ha : a + m ≤ cap) (hm : 1 ≤ m) (hcap : a + m ≤ 281474976710656) :
    Calls Tryd.prog 72 #[.pointer (some ⟨h, 0, none⟩), .agg #[.int .i64 hh, .int .i64 (a : Int), .int .i64 (m : Int), .int .i64 tg]] W fun e w' => e = .returned (.slice (some ⟨g, a, none⟩) m (cap - a)) ∧ Below W.heap.size W w' := by
  obtain ⟨n, hc⟩ := hc
  have hlt := block_lt_of_cell hc
  have HB := Hidden.mk ((Below.refl W.heap.size W).alloc (Nat.le_refl _) (.cells #[.int .i64 hh, .int .i64 (a : Int), .int .i64 (m : Int), .int .i64 tg] 125))
  have s1 : IntKind.i64.wrap ((a : Int) + m) = (a : Int) + m := IntWalk.i64_in _ (by omega)
  have hsl := run_cut g 0 n cap a (a + m) (by omega) (by omega) (by omega)
  rw [Nat.add_sub_cancel_left, Nat.zero_add] at hsl
  simp only [Int.natCast_add] at hsl
  have hbk := heap_alloc_new W (.cells #[.int .i64 hh, .int .i64 (a : Int), .int .i64 (m : Int), .int .i64 tg] 125)
  have hcl := (HB.out.cell (p := ⟨h, 0, none⟩) hlt).trans hc
  have y1 : (W.alloc (.cells #[.int .i64 hh, .int .i64 (a : Int), .int .i64 (m : Int), .int .i64 tg] 125)).cell? ⟨W.heap.size, 1, none⟩ = some (.int .i64 a) := by simp only [World.cell?]; rw [hbk]; rfl
  have y2 : (W.alloc (.cells #[.int .i64 hh, .int .i64 (a : Int), .int .i64 (m : Int), .int .i64 tg] 125)).cell? ⟨W.heap.size, 2, none⟩ = some (.int .i64 m) := by simp only [World.cell?]; rw [hbk]; rfl
  clear hbk hc ha hm hcap
  go_enter Tryd.func72, Tryd.ntmps72
  go_wp2_with fail
  generalize W.alloc (.cells #[.int .i64 hh, .int .i64 (a : Int), .int .i64 (m : Int), .int .i64 tg] 125) = w2 at *
  generalize hB2 : W.heap.size = Bx at *
  have HB2 := Hidden.mk hB2
  clear hB2
  go_quiet (fail)
  go_wp2_with fail
  go_ret
  exact ⟨rfl, by have := HB.out; rw [← HB2.out] at this; exact below_drewN this _⟩
end
end Go.Proofs.YtgejkhokijjemaaDoor
/- The heap: what turns it. -/
namespace Go.Proofs.YtgejkhokijjemaaDoor
open Go.RowKit

/-- a heap that a call leaves: another image, other blocks of its own, all else as it was -/
structure HpM (w0 w w' : World) (F F' : Nat → Prop) (h : Nat) (l' : Bytes) : Prop where
  hp : Hp w0 w' F' h l'
  kp : Keep F w w'
  nw : ∀ k, F' k → F k ∨ w.heap.size ≤ k
section
variable {w0 w w' : World} {F : Nat → Prop} {h : Nat} {l l' : Bytes}
theorem Hp.same (hp : Hp w0 w F h l) (hb : Below w.heap.size w w') : HpM w0 w w' F F h l := ⟨hp.below hb, Keep.of_below hb, fun _ hk => .inl hk⟩
theorem HpM.trans {F' F'' : Nat → Prop} {w1 w2 : World} {l1 l2 : Bytes} (a : HpM w0 w w1 F F' h l1) (b : HpM w0 w1 w2 F' F'' h l2) : HpM w0 w w2 F F'' h l2 :=
  ⟨b.hp, a.kp.trans b.kp a.nw, fun k hk => by
    rcases b.nw k hk with h1 | h1
    · exact a.nw k h1
    · right; have := a.kp.size; omega⟩
theorem HpM.below (a : HpM w0 w w' F F h l) {w1 : World} (hb : Below w'.heap.size w' w1) : HpM w0 w w1 F F h l := a.trans (a.hp.same hb)
theorem hkeep_below (hb : Below w0.heap.size w0 w) (hk : Keep F w w') (hn : ∀ k, F k → w0.heap.size ≤ k) : Below w0.heap.size w0 w' := hb.trans (hk.below hb.size hn)
/-- the image turned -/
theorem Hp.set (hp : Hp w0 w F h l) {g' cap' : Nat} (hrow : Row w 5 g' cap' l') (hlen : rightB l'.length = true) (hg' : w0.heap.size ≤ g') :
    Hp w0 (w.setCell ⟨h, 0, none⟩ (.slice (some ⟨g', 0, none⟩) l'.length cap')) (fun k => F k ∨ k = g') h l' ∧ Keep F w (w.setCell ⟨h, 0, none⟩ (.slice (some ⟨g', 0, none⟩) l'.length cap')) := by
  obtain ⟨g, cap, hd, hr, hF⟩ := hp.hd
  have hne : h ≠ g' := ne_row hd hrow (by decide)
  have hoth : ∀ q, q ≠ h → (w.setCell ⟨h, 0, none⟩ (.slice (some ⟨g', 0, none⟩) l'.length cap')).heap[q]? = w.heap[q]? := fun q hq => Below.heap_setCell _ _ _ _ (fun e => hq (by simpa using e))
  have hsz : (w.setCell ⟨h, 0, none⟩ (.slice (some ⟨g', 0, none⟩) l'.length cap')).heap.size = w.heap.size := by
    rw [setCell_eq_setRow w h 0 _ _ _ _ hd]; simp [World.setRow]
  have hkeep : Keep F w (w.setCell ⟨h, 0, none⟩ (.slice (some ⟨g', 0, none⟩) l'.length cap')) :=
    ⟨rfl, rfl, rfl, Nat.le_of_eq hsz.symm, fun k _ hn => hoth k (fun e => hn (e ▸ hp.fh))⟩
  refine ⟨⟨⟨g', cap', heap_setK (k := 0) hd _, hrow.block (hoth _ (Ne.symm hne)), .inr rfl⟩, .inl hp.fh, hlen, fun k hk => ?_, fun k hk => ?_, hkeep_below hp.bel hkeep hp.new⟩, hkeep⟩
  · rcases hk with hk | rfl
    · exact hp.new k hk
    · exact hg'
  · rw [hsz]
    rcases hk with hk | rfl
    · exact hp.flt k hk
    · exact hrow.lt
end
end Go.Proofs.YtgejkhokijjemaaDoor
/- Roots of a list that are looked for: slices.IndexFunc, ContainsFunc with the closures of heap.Free and root.Get; the extents of a heap. -/
namespace Go.Proofs.YtgejkhokijjemaaDoor
open Go.RowKit

/-- where the first is -/
def ixP {X : Type} (p : X → Bool) (L : List X) : Int := if L.any p = true then (L.findIdx p : Int) else -1
theorem ixP_at {X : Type} (p : X → Bool) (L : List X) (k : Nat) (hk : k < L.length) (hn : ∀ x ∈ L.take k, p x = false) (he : p L[k] = true) : ixP p L = k := by
  unfold ixP
  rw [if_pos (List.any_eq_true.2 ⟨_, List.getElem_mem hk, he⟩)]
  congr 1
  rw [List.findIdx_eq hk]
  refine ⟨he, fun j hj => ?_⟩
  have := hn L[j] (List.mem_take_iff_getElem.2 ⟨j, by omega, rfl⟩)
  simpa using this
theorem ixP_none {X : Type} (p : X → Bool) (L : List X) (hn : ∀ x ∈ L, p x = false) : ixP p L = -1 := by
  unfold ixP
  rw [if_neg]
  rw [Bool.not_eq_true, List.any_eq_false]
  intro x hx; rw [hn x hx]; simp
theorem ixP_lt {X : Type} (p : X → Bool) (L : List X) (h : L.any p = true) : ∃ k : Nat, ∃ hk : k < L.length, ixP p L = k ∧ p L[k] = true ∧ ∀ j (hj : j < k), p L[j] = false := by
  have hlt : L.findIdx p < L.length := List.findIdx_lt_length_of_exists (by simpa using h)
  refine ⟨L.findIdx p, hlt, by unfold ixP; rw [if_pos h], List.findIdx_getElem, fun j hj => ?_⟩
  have := List.not_of_lt_findIdx hj
  simpa using this
theorem root1_get (x : Bytes × Nat) (y : Bytes) (Bx : Nat) (W : World) (h1 : W.cell? ⟨Bx, 0, none⟩ = some (sv y)) :
    Calls Tryd.prog 80 #[.agg #[sv x.1, .int .i64 x.2], .pointer (some ⟨Bx, 0, none⟩)] W fun e' w' => e' = .returned (.bool (x.1 == y)) ∧ Below W.heap.size W w' := by
  obtain ⟨s, q⟩ := x
  dsimp only
  have hlt := block_lt_of_cell h1
  have hW : Below W.heap.size W (W.alloc (.cells #[sv s, .int .i64 q] 36)) := (Below.refl _ _).alloc (Nat.le_refl _) _
  go_enter Tryd.func80, Tryd.ntmps80
  go_wp2_with fail
  go_ret
  exact ⟨rfl, hW⟩
theorem idxR_get (p : Bytes × Nat → Bool) (A : Option Addr) (n c : Nat) (L : List (Bytes × Nat)) (cap : Value) (w : World) (hn : L.length = n) (hl : n ≤ 1000) (hr : RdX rcells 2 w A L)
    (hP : ∀ x ∈ L, ∀ W, Below w.heap.size w W → Calls Tryd.prog 80 #[.agg #[sv x.1, .int .i64 x.2], cap] W fun e w' => e = .returned (.bool (p x)) ∧ Below W.heap.size W w') :
    Calls Tryd.prog 79 #[.slice A n c, .func (.func 80) #[] #[cap]] w fun e w' => e = .returned (.int .i64 (ixP p L)) ∧ Below w.heap.size w w' := by
  subst hn
  have HP := Hidden.mk hP
  clear hP
  go_enter Tryd.func79, Tryd.ntmps79
  go_wp2_with fail
  go_loopw [8] (fun i wr => Below w.heap.size w wr ∧ ∃ k : Nat, k ≤ L.length ∧ i = .int .i64 k ∧ Hidden (∀ x ∈ L.take k, p x = false)) (fun i _ => L.length - (intOf i).toNat)
  case atStart => exact ⟨Below.refl _ _, 0, Nat.zero_le _, rfl, ⟨by simp⟩⟩
  case round =>
    obtain ⟨hbel, k, hk, rfl, hnot⟩ := hrel
    by_cases hlt : k < L.length
    · obtain ⟨b, off, rfl, hcx⟩ := (hr.below hbel) k hlt
      have c0 := hcx 0 _ rfl
      have c1 := hcx 1 _ rfl
      rw [Nat.add_zero] at c0
      have hp := HP.out L[k] (List.getElem_mem hlt) wr hbel
      have HPK := Hidden.mk hp
      have i0 : (0 : Int) ≤ k := by omega
      have i1 : (k : Int) < L.length := by omega
      clear hp hcx
      go_wp2_with fail
      refine (HPK.out).mono ?_
      rintro e w1 ⟨rfl, hb1⟩
      have hB1 := hbel.trans (hb1.mono hbel.size)
      cases he : p L[k] with
      | true =>
        have hi := Hidden.mk (ixP_at p L k hlt hnot.out he)
        clear he hb1 hbel
        go_wp2_with fail
        go_ret
        exact ⟨by rw [hi.out]; rfl, hB1⟩
      | false =>
        have hnk : Hidden (∀ x ∈ L.take (k + 1), p x = false) := ⟨forall_take_succ' hlt hnot.out he⟩
        clear he hnot hb1 hbel
        go_wp2_with fail
        go_roundw
        case rel => exact ⟨hB1, k + 1, by omega, by go_num, hnk⟩
        case measure => simp [intOf]; omega
    · have hi := Hidden.mk (ixP_none p L (by have := hnot.out; rwa [List.take_of_length_le (by omega)] at this))
      go_wp2_with fail
      go_ret
      exact ⟨by rw [hi.out]; rfl, hbel⟩
/-- the extents of an image's objects, behind the head -/
def takeX (x : Int × Bytes) : Ext := ((rAt x.2 : Int) - 288, (rLen x.2 : Int))
def takenL (l : Bytes) : List Ext := (entriesL l).map takeX
theorem takenL_len (l : Bytes) : (takenL l).length ≤ 40 := by unfold takenL; rw [List.length_map]; exact entsL_len _ _ 40
section
variable {w0 w : World} {F : Nat → Prop} {h : Nat} {l : Bytes}
set_option maxRecDepth 100000 in
theorem htaken_any (hp : Hp w0 w F h l) :
    Calls Tryd.prog 70 #[.pointer (some ⟨h, 0, none⟩)] w fun e w' => ∃ A m c, e = .returned (.tuple #[.int .i64 ((l.length : Int) - 288), .slice A m c]) ∧ (takenL l).length = m ∧ m ≤ c ∧ RdX tcells 2 w' A (takenL l) ∧ Below w.heap.size w w' := by
  have hb := rightB_true.1 hp.len
  obtain ⟨i0, hi0, hz0, hz1, hz2⟩ := info_parts extent_info
  have HI := Hidden.mk (And.intro hi0 (And.intro hz0 (And.intro hz1 hz2)))
  have HC := Hidden.mk (hentries_any hp)
  have HP := Hidden.mk hp
  have HT : Hidden (takenL l = (entriesL l).map takeX) := ⟨rfl⟩
  have hle : (entriesL l).length ≤ 40 := entsL_len _ _ 40
  generalize entriesL l = E at *
  clear hi0 hz0 hz1 hz2 hp
  go_enter Tryd.func70, Tryd.ntmps70
  go_wp2_with fail
  refine HC.out.mono ?_
  rintro e w1 ⟨v, rfl, hown, hb1⟩
  obtain ⟨A1, c1, rfl, hc1, -⟩ := own_split hown
  have HR := Hidden.mk (own_rdX3 (f := ecells) (fun _ => rfl) rfl hown)
  have HB := Hidden.mk hb1
  generalize hm : E.length = m at *
  have HM := Hidden.mk hm
  clear hown hb1 HC hm
  go_wp2_with fail
  go_loopg [3, 9] m (fun q v i wr => ∃ k : Nat, k ≤ m ∧ q = m - k ∧ i = .int .i64 (k : Int) ∧ Hidden (Below w1.heap.size w1 wr ∧ wr.ownsRow w1.heap.size 123 2 v k (((E.take k).map takeX).flatMap tcells)))
  case atStart => exact ⟨0, by omega, rfl, rfl, ⟨Below.refl _ _, World.ownsRow_nil _ _ _ _⟩⟩
  case round =>
    obtain ⟨k, hk, rfl, rfl, hst⟩ := hrel
    by_cases hlt : k < m
    · have hkE : k < E.length := by have := HM.out; omega
      obtain ⟨p, off, rfl, hcx⟩ := (HR.out.below hst.out.1) k hkE
      have x0 := hcx 0 _ rfl
      have x1 := hcx 1 _ rfl
      have x2 := hcx 2 _ rfl
      have x3 := hcx 3 _ rfl
      rw [Nat.add_zero] at x0
      have HS : Hidden ((E.take (k + 1)).map takeX = (E.take k).map takeX ++ [takeX E[k]]) := ⟨by rw [List.take_succ_eq_append_getElem hkE, List.map_append]; rfl⟩
      have b1 := rAt_le E[k].2
      have b2 := rLen_le E[k].2
      have HX : Hidden (takeX E[k] = ((rAt E[k].2 : Int) - 288, (rLen E[k].2 : Int))) := ⟨rfl⟩
      generalize takeX E[k] = tx at *
      generalize E[k].1 = e0 at *
      generalize rAt E[k].2 = e1 at *
      generalize rLen E[k].2 = e2 at *
      generalize rTag E[k].2 = e3 at *
      have s1 : IntKind.i64.wrap ((e1 : Int) - 288) = (e1 : Int) - 288 := IntWalk.i64_in _ (by omega)
      have s3 : IntKind.i64.wrap ((k : Int) + 1) = (k : Int) + 1 := IntWalk.i64_in _ (by omega)
      have k0 : (0 : Int) ≤ k := by omega
      have k1 : (k : Int) < m := by omega
      have hal : Below wr.heap.size wr (wr.alloc (.cells #[.int .i64 e0, .int .i64 e1, .int .i64 e2, .int .i64 e3] 125)) := (Below.refl _ _).alloc (Nat.le_refl _) _
      have HN : Hidden (Below w1.heap.size w1 (wr.alloc (.cells #[.int .i64 e0, .int .i64 e1, .int .i64 e2, .int .i64 e3] 125)) ∧ (wr.alloc (.cells #[.int .i64 e0, .int .i64 e1, .int .i64 e2, .int .i64 e3] 125)).ownsRow w1.heap.size 123 2 u3 k (((E.take k).map takeX).flatMap tcells)) := ⟨hst.out.1.trans (hal.mono hst.out.1.size), own_below hst.out.2 hal⟩
      obtain ⟨hi0, hz0, hz1, hz2⟩ := HI.out
      clear hcx hal hst
      go_wp2_with (at_builtin; refine wpList_append_lies _ rfl (.tmp 13) (.tmp 22) _ rfl w1.heap.size 123 i0 _ 2 16 Tryd.underlying97 hi0 hz0 hz1 hz2 rfl (by decide) u3 k (((E.take k).map takeX).flatMap tcells) rfl (own_below HN.out.2 ((Below.refl _ _).alloc (Nat.le_refl _) _)) ⟨wr.heap.size + 1, 0, none⟩ 1 1 [.int .i64 ((e1 : Int) - 288), .int .i64 e2] rfl rfl (World.news_of_block (cs := #[.int .i64 ((e1 : Int) - 288), .int .i64 e2]) (t := 123) (fr := (0, 0)) (by have hq_ := heap_alloc_new ((wr.alloc (.cells #[.int .i64 e0, .int .i64 e1, .int .i64 e2, .int .i64 e3] 125))) (.cells #[.int .i64 ((e1 : Int) - 288), .int .i64 e2] 123); rwa [World.size_alloc] at hq_)) (by simp [Value.oneCell']) (by omega) (by simp only [maxLen]; omega) (by omega) (by have hz_ := HN.out.1.size; rw [World.size_alloc]; omega) (wr.heap.size + 1 + 1) (by simp) ?_; intro g8 cap8 w8 hown8 hg8 hat8 hlt8)
      have hgW := grown_trans' ((Below.refl (wr.alloc (.cells #[.int .i64 e0, .int .i64 e1, .int .i64 e2, .int .i64 e3] 125)).heap.size (wr.alloc (.cells #[.int .i64 e0, .int .i64 e1, .int .i64 e2, .int .i64 e3] 125))).alloc (Nat.le_refl _) _) hg8
      have hB8 : Below w1.heap.size w1 w8 := HN.out.1.grown hgW HN.out.1.size (fun q hq => (HN.out.2.lt q hq).1)
      have HF : Hidden (Below w1.heap.size w1 w8 ∧ w8.ownsRow w1.heap.size 123 2 (.slice (some ⟨g8, 0, none⟩) (k + 1) cap8) (k + 1) (((E.take (k + 1)).map takeX).flatMap tcells)) := ⟨hB8, by rw [HS.out, HX.out]; simpa [tcells] using hown8⟩
      clear hgW hB8 hown8 hg8 hat8 hlt8 hi0 hz0 hz1 hz2
      go_roundg (m - (k + 1))
      case measure => omega
      case rel => exact ⟨k + 1, by omega, rfl, by go_num, HF⟩
    · obtain rfl : m = k := by omega
      obtain ⟨g, cap, hh, hcap, hrow, hF⟩ := (HP.out.below (HB.out.trans (hst.out.1.mono HB.out.size))).open_
      have s1 : IntKind.i64.wrap ((l.length : Int) - 288) = (l.length : Int) - 288 := IntWalk.i64_in _ (by omega)
      have hT := hst.out.2
      rw [List.take_of_length_le (by have := HM.out; omega), ← HT.out] at hT
      have HL : Hidden ((takenL l).length = m) := ⟨by rw [HT.out, List.length_map]; exact HM.out⟩
      obtain ⟨A3, c3, rfl, hc3, -⟩ := own_split hT
      have HF : Hidden (RdX tcells 2 wr A3 (takenL l) ∧ Below w.heap.size w wr) := ⟨own_rdX3 tcells_len HL.out hT, HB.out.trans (hst.out.1.mono HB.out.size)⟩
      clear hT hst hrow hF
      go_wp2_with fail
      go_ret2
      exact ⟨A3, m, c3, rfl, HL.out, hc3, HF.out.1, HF.out.2⟩
end
end Go.Proofs.YtgejkhokijjemaaDoor
/- The heap: put, PutRoot, Free, Load. -/
namespace Go.Proofs.YtgejkhokijjemaaDoor
open Go.RowKit

section
variable {w0 w : World} {F : Nat → Prop} {h : Nat} {l : Bytes}
/-- what a heap's block is, for a walk that stores into it -/
theorem Hp.head (hp : Hp w0 w F h l) : ∃ g cap, w.cell? ⟨h, 0, none⟩ = some (.slice (some ⟨g, 0, none⟩) l.length cap) ∧ w.frozen? ⟨h, 0, none⟩ = false ∧ l.length ≤ cap ∧ cap ≤ maxLen ∧ Row w 5 g cap l ∧ F g := by
  obtain ⟨g, cap, h1, h2, h3⟩ := hp.hd
  exact ⟨g, cap, by simp [World.cell?, h1], frozen_of_row _ h 0 _ _ h1, h2.le.1, h2.le.2, h2, h3⟩
set_option maxRecDepth 100000 in
theorem hput_ok (x : Int) (a m t : Int) (hp : Hp w0 w F h l) (hx : handleB x = true) (ht : tagB t = true) (hm : lenB m = true) (hw : withinB l.length a m = true) :
    Calls Tryd.prog 71 #[.pointer (some ⟨h, 0, none⟩), .agg #[.int .i64 x, .int .i64 a, .int .i64 m, .int .i64 t]] w fun e w' => e = .returned .nilIface ∧ ∃ F', HpM w0 w w' F F' h (putEnt l x a m t) := by
  obtain ⟨g, cap, c0, -, hcap, -, hrow, hF⟩ := hp.head
  have hb := rightB_true.1 hp.len
  have hhb := handleB_true.1 hx
  have hal := (Below.refl w.heap.size w).alloc (Nat.le_refl _) (.cells #[.int .i64 x, .int .i64 a, .int .i64 m, .int .i64 t] 125)
  have hlen : (putEnt l x a m t).length = l.length := putEnt_len l x a m t hhb.1 hhb.2 (by omega)
  have HC := Hidden.mk (fun (W : World) (hW : Below w.heap.size w W) => iput_ok (some ⟨g, 0, none⟩) l.length cap l x a m t W rfl hcap (hrow.rd.below hW) hp.len hx ht hm hw)
  have hf := fourAt_one w x a m t 125
  have hc1 := (hal.cell (p := ⟨h, 0, none⟩) (block_lt_of_cell c0)).trans c0
  have HP := Hidden.mk hp
  have HAL := Hidden.mk hal
  have HLEN := Hidden.mk hlen
  generalize putEnt l x a m t = l' at *
  clear hp hrow hal hlen hx ht hm hw c0
  unfold entV at HC
  go_enter Tryd.func71, Tryd.ntmps71
  go_wp2_with fail
  generalize w.alloc (.cells #[.int .i64 x, .int .i64 a, .int .i64 m, .int .i64 t] 125) = w1 at *
  have KF := Hidden.mk hf
  have KC := Hidden.mk hc1
  have KL := Hidden.mk (And.intro (block_lt_of_cell hc1) (block_lt_of_cell hf.1))
  clear hf hc1
  go_region_held3 (fun W => W.cell? ⟨h, 0, none⟩ = some (.slice (some ⟨g, 0, none⟩) l.length cap) ∧ W.cell? ⟨w.heap.size, 0, none⟩ = some (.int .i64 x) ∧ W.cell? ⟨w.heap.size, 1, none⟩ = some (.int .i64 a) ∧ W.cell? ⟨w.heap.size, 2, none⟩ = some (.int .i64 m) ∧ W.cell? ⟨w.heap.size, 3, none⟩ = some (.int .i64 t)) (first | exact ⟨KC.out, KF.out⟩ | exact ⟨(hb2.cell (p := ⟨h, 0, none⟩) KL.out.1).trans KC.out, (hb2.cell (p := ⟨w.heap.size, 0, none⟩) KL.out.2).trans KF.out.1, (hb2.cell (p := ⟨w.heap.size, 1, none⟩) KL.out.2).trans KF.out.2.1, (hb2.cell (p := ⟨w.heap.size, 2, none⟩) KL.out.2).trans KF.out.2.2.1, (hb2.cell (p := ⟨w.heap.size, 3, none⟩) KL.out.2).trans KF.out.2.2.2⟩)
    ((go_at_call 112; refine (HC.out _ (HAL.out.trans ((Below.refl _ _).drew.mono HAL.out.size))).mono ?_; rintro e w2 ⟨g', cap', rfl, hg', hrow', hb2⟩))
  all_goals
    have hb2 : Below w1.heap.size w1 w2 := ((Below.refl _ _).drew).trans hb2
    have hB2 := HAL.out.trans (hb2.mono HAL.out.size)
    have hP2 := HP.out.below hB2
    obtain ⟨g2, cap2, y0, yf, -, -, -, -⟩ := hP2.head
    have hs := hP2.set hrow' (by rw [HLEN.out]; exact HP.out.len) (Nat.le_trans HP.out.bel.size (Nat.le_trans HAL.out.size hg'))
    rw [HLEN.out] at hs
    have HS := Hidden.mk (HpM.mk hs.1 ((Keep.of_below (F := F) hB2).trans hs.2 (fun k hk => .inl hk)) (fun k hk => by
      rcases hk with hk | rfl
      · exact .inl hk
      · exact .inr (Nat.le_trans HAL.out.size hg')))
    clear hs hP2 hB2 hb2 hrow' HC
    go_wp2_with fail
    go_ret
    exact ⟨rfl, _, HS.out⟩
/-- a root as it is put: what stands there then -/
def putRo (s : Bytes) (x : Int) : Bytes := if s = [] ∧ x = 0 then List.replicate 11 0 else rootB s x
set_option maxRecDepth 100000 in
theorem hroot_ok (i : Nat) (s : Bytes) (x : Int) (hp : Hp w0 w F h l) (hi : i < 8) (hs : (s = [] ∧ x = 0) ∨ (handleB x = true ∧ isName s = true)) :
    Calls Tryd.prog 76 #[.pointer (some ⟨h, 0, none⟩), .int .i64 (i : Int), .agg #[sv s, .int .i64 x]] w fun e w' => e = .returned .nilIface ∧ ∃ F', HpM w0 w w' F F' h (splice l (200 + 11 * i) (putRo s x)) := by
  obtain ⟨g, cap, c0, -, hcap, -, hrow, hF⟩ := hp.head
  have hb := rightB_true.1 hp.len
  have hal := (Below.refl w.heap.size w).alloc (Nat.le_refl _) (.cells #[sv s, .int .i64 x] 36)
  have hlen : (splice l (200 + 11 * i) (putRo s x)).length = l.length := by
    rw [splice_len]
    have : (putRo s x).length = 11 := by
      unfold putRo
      split
      · simp
      · rename_i hn
        rcases hs with hs | ⟨-, hs⟩
        · exact absurd hs hn
        · unfold rootB; rw [List.length_append, nameB_len s hs]; rfl
    omega
  have HC : Hidden (∀ W, Below w.heap.size w W → Calls Tryd.prog 118 #[.slice (some ⟨g, 0, none⟩) l.length cap, .int .i64 (i : Int), .agg #[sv s, .int .i64 x]] W fun e w' => ∃ g' cap', e = .returned (.tuple #[.slice (some ⟨g', 0, none⟩) l.length cap', .nilIface]) ∧ W.heap.size ≤ g' ∧ Row w' 5 g' cap' (splice l (200 + 11 * i) (putRo s x)) ∧ Below W.heap.size W w') := ⟨fun W hW => by
    unfold putRo
    rcases hs with ⟨rfl, rfl⟩ | ⟨h1, h2⟩
    · rw [if_pos ⟨rfl, rfl⟩, ← rootO_k]
      exact root_zero (some ⟨g, 0, none⟩) l.length cap l i _ rfl hcap (hrow.rd.below hW) hp.len (by omega) (by omega)
    · have hx := handleB_true.1 h1
      rw [if_neg (by omega), ← rootO_k]
      exact root_ok (some ⟨g, 0, none⟩) l.length cap l i s x _ rfl (hrow.rd.below hW) hp.len (by omega) (by omega) h1 h2⟩
  have hbk := heap_alloc_new w (.cells #[sv s, .int .i64 x] 36)
  have hf : (w.alloc (.cells #[sv s, .int .i64 x] 36)).cell? ⟨w.heap.size, 0, none⟩ = some (sv s) ∧ (w.alloc (.cells #[sv s, .int .i64 x] 36)).cell? ⟨w.heap.size, 1, none⟩ = some (.int .i64 x) := ⟨by simp only [World.cell?]; rw [hbk]; rfl, by simp only [World.cell?]; rw [hbk]; rfl⟩
  have hc1 := (hal.cell (p := ⟨h, 0, none⟩) (block_lt_of_cell c0)).trans c0
  have HP := Hidden.mk hp
  have HAL := Hidden.mk hal
  have HLEN := Hidden.mk hlen
  generalize splice l (200 + 11 * i) (putRo s x) = l' at *
  clear hp hrow hal hlen hs c0 hbk
  go_enter Tryd.func76, Tryd.ntmps76
  go_wp2_with fail
  generalize w.alloc (.cells #[sv s, .int .i64 x] 36) = w1 at *
  have KF := Hidden.mk hf
  have KC := Hidden.mk hc1
  have KL := Hidden.mk (And.intro (block_lt_of_cell hc1) (block_lt_of_cell hf.1))
  clear hf hc1
  go_region_held3 (fun W => W.cell? ⟨h, 0, none⟩ = some (.slice (some ⟨g, 0, none⟩) l.length cap) ∧ W.cell? ⟨w.heap.size, 0, none⟩ = some (sv s) ∧ W.cell? ⟨w.heap.size, 1, none⟩ = some (.int .i64 x)) (first | exact ⟨KC.out, KF.out⟩ | exact ⟨(hb2.cell (p := ⟨h, 0, none⟩) KL.out.1).trans KC.out, (hb2.cell (p := ⟨w.heap.size, 0, none⟩) KL.out.2).trans KF.out.1, (hb2.cell (p := ⟨w.heap.size, 1, none⟩) KL.out.2).trans KF.out.2⟩)
    ((go_at_call 118; refine (HC.out _ (HAL.out.trans ((Below.refl _ _).drew.mono HAL.out.size))).mono ?_; rintro e w2 ⟨g', cap', rfl, hg', hrow', hb2⟩))
  all_goals
    have hb2 : Below w1.heap.size w1 w2 := ((Below.refl _ _).drew).trans hb2
    have hB2 := HAL.out.trans (hb2.mono HAL.out.size)
    have hP2 := HP.out.below hB2
    obtain ⟨g2, cap2, y0, yf, -, -, -, -⟩ := hP2.head
    have hs := hP2.set hrow' (by rw [HLEN.out]; exact HP.out.len) (Nat.le_trans HP.out.bel.size (Nat.le_trans HAL.out.size hg'))
    rw [HLEN.out] at hs
    have HS := Hidden.mk (HpM.mk hs.1 ((Keep.of_below (F := F) hB2).trans hs.2 (fun k hk => .inl hk)) (fun k hk => by
      rcases hk with hk | rfl
      · exact .inl hk
      · exact .inr (Nat.le_trans HAL.out.size hg')))
    clear hs hP2 hB2 hb2 hrow' HC
    go_wp2_with fail
    go_ret
    exact ⟨rfl, _, HS.out⟩
/-- the fault of Free; the image behind it -/
def freeE (l : Bytes) (x : Int) : Nat := if hE l x ≠ 0 then hE l x else if (rootsL l).any (fun r => (r.2 : Int) == x) = true then 7 else 0
def freeL (l : Bytes) (x : Int) : Bytes := if freeE l x = 0 then splice l (5 * (x - 1).toNat) (List.replicate 5 0) else l
end
end Go.Proofs.YtgejkhokijjemaaDoor
/- The reference's Fine and Mend; an image that is loaded. -/
namespace Go.Proofs.YtgejkhokijjemaaDoor
open Go.RowKit

def fineE (l : Bytes) : Nat := if rightB l.length = false then 3 else if checkL l = [] then 0 else 6
/-- an image, mended ahead; of none an empty one -/
def loadL (b : Bytes) : Bytes := if rightB b.length = true then mendL b else List.replicate 320 0
theorem loadL_good (b : Bytes) : Good (loadL b) := by
  unfold loadL
  by_cases hr : rightB b.length = true
  · rw [if_pos hr]
    have := rightB_true.1 hr
    exact ⟨by rw [mendL_len (by omega)]; exact hr, mend_clean (by omega)⟩
  · rw [if_neg hr]; exact good_zero' rfl
end Go.Proofs.YtgejkhokijjemaaDoor
