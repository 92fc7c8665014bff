/- Contracts and plain laws, put together: Img3, CheckP, Img4, Chk1, Chk2, Chk4, Img5, RefN, RefP, RefM, RefNm, RefI1, RefI2, RefD1, View8, View9, PagesV, View4, ViewPartsP, Rows2, SameN, View10, View11, View12, ViewBackP, ViewBack0, ImageApart0, RefI3, RefI4, Chk3, Chk5, Chk6, Img6, GoodP, RefC, RefC2, Heap1, Chk7, Ext1, SortP, LayX. -/
import Derived.Test.YtbnobjlphmkgeaaGreatDoorTopPagesFrameM2
import Derived.Test.YtbnobjlphmkgeaaGreatDoorTopPagesFrameM1
import Derived.Deep.RegionHeld3
import Derived.Deep.AppendLies
import Derived.Deep.LoopGhost
import Derived.StillTailTactics
import Derived.BigQuiet
import Derived.Deep.DeepCutAuto
import Derived.Shelf.SlSortCmp.WholeK
import Derived.Shelf.SlGeneric
import Derived.Ground.SlsfProg
/- The contract of image.PutRoot. -/
namespace Go.Proofs.YtbnobjlphmkgeaaGreatDoor
open Go.RowKit

abbrev rootV (s : Bytes) (h : Int) : Value := .agg #[sv s, .int .i64 h]
def rootO (i : Int) : Nat := (200 + i * 11).toNat
theorem rawRoot_any (A : Option Addr) (n c : Nat) (i : Int) (w : World) (h1 : 0 ≤ i) (h2 : i < 8) (hn : 288 ≤ n) (hc : n ≤ c) :
    Calls Tryz.prog 151 #[.slice A n c, .int .i64 i] w fun e w' => e = .returned (.slice (A.map (·.add (rootO i))) 11 (c - rootO i)) ∧ w = w' := by
  obtain ⟨k, rfl⟩ := Int.eq_ofNat_of_zero_le h1
  have he : Hidden (rootO (k : Int) = 200 + k * 11) := ⟨by unfold rootO; omega⟩
  have hk : k < 8 := by omega
  go_enter Tryz.func151, Tryz.ntmps151
  go_wp2
  go_ret
  rw [he.out]
  refine ⟨?_, rfl⟩
  show Ending.returned (.slice (A.map (·.add (200 + k * 11))) ((200 + (k + 1) * 11) - (200 + k * 11)) (c - (200 + k * 11))) = _
  rw [show (200 + (k + 1) * 11) - (200 + k * 11) = 11 from by omega]

set_option maxRecDepth 100000 in
theorem root_zero (A : Option Addr) (n c : Nat) (l : Bytes) (i : Int) (w : World) (hn : l.length = n) (_hnc : n ≤ c) (hrd : Rd w A l) (hr : rightB n = true) (hi1 : 0 ≤ i) (hi2 : i < 8) :
    Calls Tryz.prog 154 #[.slice A n c, .int .i64 i, rootV [] 0] w fun e w' => ∃ g cap, e = .returned (.tuple #[.slice (some ⟨g, 0, none⟩) n cap, .nilIface]) ∧ w.heap.size ≤ g ∧ Row w' 5 g cap (splice l (rootO i) (List.replicate 11 0)) ∧ Below w.heap.size w w' := by
  have hone : handleB 1 = true := by decide
  have hmk := mk_bytes 11 11 rfl (by omega)
  go_enter Tryz.func154, Tryz.ntmps154
  go_wp2_with fail
  refine (check_ok _ _ _ _ _ hr hone).mono ?_
  rintro e w' ⟨rfl, rfl⟩
  go_wp2_with fail
  have hrb := rightB_true.1 hr
  obtain ⟨p0, off0, rfl, hlt0⟩ := hrd.lt (by omega)
  have hW : Below w.heap.size w (w.alloc (.cells #[sv [], .int .i64 0] 128)) := (Below.refl _ _).alloc (Nat.le_refl _) _
  have hB1 := hW.alloc hW.size (.cells (zeroRow 11) 5)
  have hxr := row_zeros (w.alloc (.cells #[sv [], .int .i64 0] 128)) 11 (by simp [maxLen])
  have hxl : (List.replicate 11 (0 : UInt8)).length = 11 := by decide
  simp only [World.size_alloc] at hxr ⊢
  generalize (w.alloc (.cells #[sv [], .int .i64 0] 128)).alloc (.cells (zeroRow 11) 5) = w1 at *
  generalize w.heap.size + 1 = xb at *
  generalize hXL : List.replicate 11 (0 : UInt8) = xl at *
  have HXL := Hidden.mk hXL
  clear hXL
  refine (clone_some _ _ _ l _ hn (by omega) (hrd.below hB1)).mono ?_
  rintro e w2 ⟨g, cap, rfl, hg, hrow, hb2⟩
  have hB2 : Below w.heap.size w w2 := hB1.trans (hb2.mono hB1.size)
  have hgw : w.heap.size ≤ g := Nat.le_trans hB1.size hg
  have hxr2 := hxr.below hb2 hxr.lt
  have hlc := hrow.le
  clear hxr hb2 hB1 hg
  go_wp2_with fail
  refine (rawRoot_any (some ⟨g, 0, none⟩) n cap i _ hi1 hi2 (by omega) (by omega)).mono ?_
  rintro e w3 ⟨rfl, rfl⟩
  simp only [Option.map_some, Addr.add_lit, Nat.zero_add]
  have hro : rootO i + 11 ≤ 288 := by unfold rootO; omega
  generalize hO : rootO i = o at *
  have HO := Hidden.mk hO
  clear hO
  obtain ⟨cur, hcur, _, _, hcs, _⟩ := id hrow
  have hcopy := fun ty => run_copy_rd w2 g o 11 (cap - o) 11 11 11 (some ⟨xb, 0, none⟩) xl cur 5 hcur hxl hxr2.rd rfl (by omega) ty
  rw [List.take_of_length_le (by omega)] at hcopy
  have hrow4 := hrow.set_ o xl (by omega) cur hcur
  have hB4 : Below w.heap.size w (w2.setRow g (setB cur o (xl.map bv))) := below_setRow hB2 hgw _
  generalize w2.setRow g (setB cur o (xl.map bv)) = w4 at *
  clear hcur hcs hxr2 hrow hB2
  go_wp2_with fail
  go_ret2
  exact ⟨g, cap, rfl, hgw, by rw [HO.out, HXL.out]; exact hrow4, hB4⟩

/-- the eleven bytes of a root -/
def rootB (s : Bytes) (h : Int) : Bytes := nameB s ++ [0, 0, UInt8.ofNat h.toNat]
set_option maxRecDepth 100000 in
set_option maxHeartbeats 1000000 in
theorem root_ok (A : Option Addr) (n c : Nat) (l : Bytes) (i : Int) (s : Bytes) (h : Int) (w : World) (hn : l.length = n) (hrd : Rd w A l) (hr : rightB n = true) (hi1 : 0 ≤ i) (hi2 : i < 8) (hh : handleB h = true) (hnm : isName s = true) :
    Calls Tryz.prog 154 #[.slice A n c, .int .i64 i, rootV s h] w fun e w' => ∃ g cap, e = .returned (.tuple #[.slice (some ⟨g, 0, none⟩) n cap, .nilIface]) ∧ w.heap.size ≤ g ∧ Row w' 5 g cap (splice l (rootO i) (rootB s h)) ∧ Below w.heap.size w w' := by
  have hone : handleB 1 = true := by decide
  have hmk := mk_bytes 11 11 rfl (by omega)
  have hB1 := ((Below.refl w.heap.size w).alloc (Nat.le_refl _) (.cells #[sv s, .int .i64 h] 128)).alloc (by simp) (.cells (zeroRow 11) 5)
  have hhb := handleB_true.1 hh
  have hrb := rightB_true.1 hr
  have h8 := nameB_len s hnm
  have hs0 : s.isEmpty = false := by
    cases s with
    | nil => cases hnm
    | cons x r => rfl
  obtain ⟨p0, off0, rfl, hlt0⟩ := hrd.lt (by omega)
  obtain ⟨k, rfl⟩ := Int.eq_ofNat_of_zero_le (show 0 ≤ h by omega)
  go_enter Tryz.func154, Tryz.ntmps154
  go_wp2_with fail
  refine (check_ok _ _ _ _ _ hr hone).mono ?_
  rintro e w' ⟨rfl, rfl⟩
  go_wp2_with fail
  refine (handle_any _ _).mono ?_
  rintro e w' ⟨rfl, rfl⟩
  rw [hh]
  go_wp2_with fail
  refine (putName_ok s _ hnm).mono ?_
  rintro e w1 ⟨gs, rfl, hgs, hsrow, hb⟩
  have hx0 := row_zeros (w.alloc (.cells #[sv s, .int .i64 k] 128)) 11 (by simp [maxLen])
  have hc1 : ((w.alloc (.cells #[sv s, .int .i64 k] 128)).alloc (.cells (zeroRow 11) 5)).cell? ⟨w.heap.size, 1, none⟩ = some (.int .i64 k) := by
    rw [World.cell?_alloc_lt _ _ _ (by simp)]; exact World.cell?_alloc_mark w _ _ (0, 0) 1
  have hBB : Below w.heap.size w w1 := hB1.trans (hb.mono hB1.size)
  have hx1 := hx0.below hb hx0.lt
  have hc2 := (hb.cell (p := ⟨w.heap.size, 1, none⟩) (by simp; omega)).trans hc1
  simp only [World.size_alloc] at hx1 hgs
  clear hx0 hc1 hB1 hb hmk
  obtain ⟨cur, hcur, _, _, hcs, _⟩ := id hx1
  have hcopy := fun ty => run_copy_rd w1 (w.heap.size + 1) 0 11 11 8 8 8 (some ⟨gs, 0, none⟩) (nameB s) cur 5 hcur h8 hsrow.rd rfl (by omega) ty
  rw [List.take_of_length_le (by omega)] at hcopy
  have hx2 := hx1.set_ 0 (nameB s) (by simp; omega) cur hcur
  have hBB2 : Below w.heap.size w (w1.setRow (w.heap.size + 1) (setB cur 0 ((nameB s).map bv))) := below_setRow hBB (by omega) _
  have hc3 : (w1.setRow (w.heap.size + 1) (setB cur 0 ((nameB s).map bv))).cell? ⟨w.heap.size, 1, none⟩ = some (.int .i64 k) := by
    rw [cell_setRow_other _ _ _ _ (by simp)]; exact hc2
  rw [splice_zeros] at hx2
  generalize w1.setRow (w.heap.size + 1) (setB cur 0 ((nameB s).map bv)) = w2 at *
  clear hcur hcs hx1 hBB hc2 hsrow
  obtain ⟨cur, hcur, _, _, hcs, _⟩ := id hx2
  have hcell : w2.cell? ⟨w.heap.size + 1, 10, none⟩ = some (cur[10]'(by omega)) := by
    rw [cell_of_row w2 _ _ _ _ _ hcur]; exact Array.getElem?_eq_getElem (by omega)
  have hfr : w2.frozen? ⟨w.heap.size + 1, 10, none⟩ = false := frozen_of_row w2 _ _ _ _ hcur
  generalize cur[10]'(by omega) = u0 at hcell
  have hst : w2.setCell ⟨w.heap.size + 1, 10, none⟩ (.int .u8 (k : Int)) = w2.setRow (w.heap.size + 1) (setB cur 10 ([UInt8.ofNat k].map bv)) := by
    rw [setCell_eq_setRow w2 _ _ _ _ _ _ hcur]
    have := setB_snoc cur 10 [] (bv (UInt8.ofNat k)) (by simp; omega)
    rw [setB_nil] at this
    simp only [List.length_nil, Nat.add_zero, List.nil_append] at this
    rw [List.map_cons, List.map_nil, ← this]
    congr 2
    simp only [bv, UInt8.toNat_ofNat']
    congr 1
    omega
  have hxr : Row (w2.setCell ⟨w.heap.size + 1, 10, none⟩ (.int .u8 (k : Int))) 5 (w.heap.size + 1) 11 (splice (nameB s ++ List.replicate (11 - (nameB s).length) 0) 10 [UInt8.ofNat k]) := by
    rw [hst]; exact hx2.set_ 10 _ (by simp; omega) cur hcur
  have hB1 : Below w.heap.size w (w2.setCell ⟨w.heap.size + 1, 10, none⟩ (.int .u8 (k : Int))) := hBB2.setCell (by simp) _
  have hXL : splice (nameB s ++ List.replicate (11 - (nameB s).length) 0) 10 [UInt8.ofNat k] = rootB s k := by
    have := splice_app (nameB s ++ [0, 0]) [0] [] [UInt8.ofNat k] rfl
    simp only [List.append_nil, List.length_append, h8] at this
    rw [h8, show List.replicate (11 - 8) (0 : UInt8) = [0, 0] ++ [0] from rfl, ← List.append_assoc]
    rw [show 8 + [(0 : UInt8), 0].length = 10 from rfl] at this
    rw [this]
    simp [rootB]
  have hxl : (rootB s (k : Int)).length = 11 := by simp [rootB, h8]
  rw [hXL] at hxr
  have hc3' := hc3
  clear hst hXL hBB2 hc3' hcur hcs hx2
  go_wp2_with fail
  clear hcell hfr
  generalize w2.setCell ⟨w.heap.size + 1, 10, none⟩ (.int .u8 (k : Int)) = w3 at *
  generalize w.heap.size + 1 = xb at *
  generalize hXL : rootB s (k : Int) = xl at *
  have HXL := Hidden.mk hXL
  clear hXL
  refine (clone_some _ _ _ l _ hn (by omega) (hrd.below hB1)).mono ?_
  rintro e w2 ⟨g, cap, rfl, hg, hrow, hb2⟩
  have hB2 : Below w.heap.size w w2 := hB1.trans (hb2.mono hB1.size)
  have hgw : w.heap.size ≤ g := Nat.le_trans hB1.size hg
  have hxr2 := hxr.below hb2 hxr.lt
  have hlc := hrow.le
  clear hxr hb2 hB1 hg
  go_wp2_with fail
  refine (rawRoot_any (some ⟨g, 0, none⟩) n cap i _ hi1 hi2 (by omega) (by omega)).mono ?_
  rintro e w3 ⟨rfl, rfl⟩
  simp only [Option.map_some, Addr.add_lit, Nat.zero_add]
  have hro : rootO i + 11 ≤ 288 := by unfold rootO; omega
  generalize hO : rootO i = o at *
  have HO := Hidden.mk hO
  clear hO
  obtain ⟨cur, hcur, _, _, hcs, _⟩ := id hrow
  have hcopy := fun ty => run_copy_rd w2 g o 11 (cap - o) 11 11 11 (some ⟨xb, 0, none⟩) xl cur 5 hcur hxl hxr2.rd rfl (by omega) ty
  rw [List.take_of_length_le (by omega)] at hcopy
  have hrow4 := hrow.set_ o xl (by omega) cur hcur
  have hB4 : Below w.heap.size w (w2.setRow g (setB cur o (xl.map bv))) := below_setRow hB2 hgw _
  generalize w2.setRow g (setB cur o (xl.map bv)) = w4 at *
  clear hcur hcs hxr2 hrow hB2
  go_wp2_with fail
  go_ret2
  exact ⟨g, cap, rfl, hgw, by rw [HO.out, HXL.out]; exact hrow4, hB4⟩
end Go.Proofs.YtbnobjlphmkgeaaGreatDoor
/- Plain words for what is wrong with an image, and what mending makes of it. No walk here. -/
namespace Go.Proofs.YtbnobjlphmkgeaaGreatDoor

/-- the five bytes of the handle k + 1 -/
def rawE (l : Bytes) (k : Nat) : Bytes := (l.drop (5 * k)).take 5
/-- the eleven bytes of a root -/
def rawR (l : Bytes) (i : Nat) : Bytes := (l.drop (200 + 11 * i)).take 11
def rHd (r : Bytes) : UInt8 := r.headD 0
def rAt (r : Bytes) : Nat := ofB ((r.drop 1).take 2)
def rLen (r : Bytes) : Nat := ofB ((r.drop 3).take 2)
def rTag (r : Bytes) : Int := ((rHd r).toNat : Int) - 1
def hasE (r : Bytes) : Bool := rHd r != 0
def strayE (n : Nat) (r : Bytes) : Bool := !(tagB (rTag r) && lenB (rLen r) && withinB n (rAt r) (rLen r))
def zeroE (r : Bytes) : Bool := !r.any nonZero
def overE (r s : Bytes) : Bool := decide (rAt r < rAt s + rLen s) && decide (rAt s < rAt r + rLen r)
def wholeE (n : Nat) (r : Bytes) : Bool := hasE r && !strayE n r

/-- a fault -/
structure Flt where
  what : Nat
  which : Nat
/-- what a handle is: 0: none; 1, 2, 3: a fault; 6: right -/
def kindH (n : Nat) (R : Nat → Bytes) (k : Nat) : Nat :=
  if hasE (R k) = true then (if strayE n (R k) = true then 1 else if (List.range k).any (fun j => wholeE n (R j) && overE (R k) (R j)) = true then 2 else 6)
  else (if zeroE (R k) = true then 0 else 3)
def fltOf (kind which : Nat) : List Flt := if kind = 0 ∨ kind = 6 then [] else [⟨kind, which⟩]
def faultsH (n : Nat) (R : Nat → Bytes) (m : Nat) : List Flt := (List.range m).flatMap fun k => fltOf (kindH n R k) (k + 1)
def leadsE (n : Nat) (R : Nat → Bytes) (x : UInt8) : Bool := (List.range 40).any fun k => kindH n R k == 6 && x.toNat == k + 1
def nmR (r : Bytes) : Bytes := nameAt (r.take 8)
def badR (leads : UInt8 → Bool) (r : Bytes) : Bool := !gotName (r.take 8) || r.getD 8 0 != 0 || r.getD 9 0 != 0 || !leads (r.getD 10 0)
def okR (leads : UInt8 → Bool) (r : Bytes) : Bool := !zeroE r && !badR leads r
/-- what a root is: 0: none; 4, 5: a fault; 6: right -/
def kindR (leads : UInt8 → Bool) (S : Nat → Bytes) (i : Nat) : Nat :=
  if zeroE (S i) = true then 0 else if badR leads (S i) = true then 4 else if (List.range i).any (fun j => okR leads (S j) && (nmR (S i) == nmR (S j))) = true then 5 else 6
def faultsR (leads : UInt8 → Bool) (S : Nat → Bytes) (m : Nat) : List Flt := (List.range m).flatMap fun i => fltOf (kindR leads S i) i
/-- what is wrong with an image -/
def checkL (l : Bytes) : List Flt := faultsH l.length (rawE l) 40 ++ faultsR (leadsE l.length (rawE l)) (rawR l) 8

theorem faultsH_succ (n : Nat) (R : Nat → Bytes) (m : Nat) : faultsH n R (m + 1) = faultsH n R m ++ fltOf (kindH n R m) (m + 1) := by
  simp [faultsH, List.range_succ]
theorem faultsR_succ (leads : UInt8 → Bool) (S : Nat → Bytes) (m : Nat) : faultsR leads S (m + 1) = faultsR leads S m ++ fltOf (kindR leads S m) m := by
  simp [faultsR, List.range_succ]
theorem fltOf_len (a b : Nat) : (fltOf a b).length ≤ 1 := by unfold fltOf; split <;> simp
theorem faultsH_len (n : Nat) (R : Nat → Bytes) (m : Nat) : (faultsH n R m).length ≤ m := by
  induction m with
  | zero => simp [faultsH]
  | succ m ih => rw [faultsH_succ, List.length_append]; have := fltOf_len (kindH n R m) (m + 1); omega
theorem faultsR_len (leads : UInt8 → Bool) (S : Nat → Bytes) (m : Nat) : (faultsR leads S m).length ≤ m := by
  induction m with
  | zero => simp [faultsR]
  | succ m ih => rw [faultsR_succ, List.length_append]; have := fltOf_len (kindR leads S m) m; omega
theorem mem_fltOf {a b : Nat} {f : Flt} : f ∈ fltOf a b ↔ ¬ (a = 0 ∨ a = 6) ∧ f = ⟨a, b⟩ := by
  unfold fltOf; split <;> simp_all
theorem mem_checkL {l : Bytes} {f : Flt} : f ∈ checkL l ↔ (∃ k, k < 40 ∧ ¬ (kindH l.length (rawE l) k = 0 ∨ kindH l.length (rawE l) k = 6) ∧ f = ⟨kindH l.length (rawE l) k, k + 1⟩) ∨
    (∃ i, i < 8 ∧ ¬ (kindR (leadsE l.length (rawE l)) (rawR l) i = 0 ∨ kindR (leadsE l.length (rawE l)) (rawR l) i = 6) ∧ f = ⟨kindR (leadsE l.length (rawE l)) (rawR l) i, i⟩) := by
  simp only [checkL, List.mem_append, faultsH, faultsR, List.mem_flatMap, List.mem_range, mem_fltOf]

/-- the same handles, once what is wrong is 0 -/
theorem zeros_has : hasE (List.replicate 5 0) = false := by decide
theorem zeros_zero (n : Nat) : zeroE (List.replicate n 0) = true := by
  simp [zeroE, nonZero]
theorem splice_at (l x : Bytes) (o p : Nat) (h : o + x.length ≤ l.length) : (splice l o x)[p]? = if o ≤ p ∧ p < o + x.length then x[p - o]? else l[p]? := by
  split
  · rename_i hp
    have := splice_get l x o (p - o) h (by omega)
    rw [show o + (p - o) = p from by omega] at this
    exact this
  · exact (splice_same l x o p h (by omega)).symm
end Go.Proofs.YtbnobjlphmkgeaaGreatDoor
/- image.find and image.Get: an entry read back. -/
namespace Go.Proofs.YtbnobjlphmkgeaaGreatDoor
open Go.RowKit

theorem rawE_len (l : Bytes) (k : Nat) (hk : k < 40) (hn : 200 ≤ l.length) : (rawE l k).length = 5 := by
  unfold rawE; simp; omega
theorem rawE_rd {w : World} {A : Option Addr} {l : Bytes} (h : Rd w A l) (k : Nat) (hk : k < 40) (hn : 200 ≤ l.length) : Rd w (A.map (·.add (5 * k))) (rawE l k) := h.cut (5 * k) 5 (by omega)
/-- the handle's number -/
theorem entO_k (k : Nat) : entO ((k : Int) + 1) = 5 * k := by unfold entO; omega
/-- the entry that stands in five bytes -/
def entR (h : Int) (r : Bytes) : Value := entV h (rAt r) (rLen r) (rTag r)

set_option maxRecDepth 100000 in
theorem find_ok (A : Option Addr) (n c : Nat) (l : Bytes) (k : Nat) (w : World) (hn : l.length = n) (hl : 200 ≤ n) (hnc : n ≤ c) (hrd : Rd w A l) (hk : k < 40) :
    Calls Tryz.prog 145 #[.slice A n c, .int .i64 ((k : Int) + 1)] w fun e w' => e = .returned (.tuple #[entR ((k : Int) + 1) (rawE l k), .bool (hasE (rawE l k))]) ∧ Below w.heap.size w w' := by
  have hW : Below w.heap.size w (w.alloc (.cells #[.int .i64 0, .int .i64 0, .int .i64 0, .int .i64 0] 66)) := (Below.refl _ _).alloc (Nat.le_refl _) _
  have hR := rawE_rd (hrd.below hW) k hk (by omega)
  have hRl := rawE_len l k hk (by omega)
  obtain ⟨p, off, rfl, hpl⟩ := hrd.lt (by omega)
  rw [Option.map_some, Addr.add_lit] at hR
  have hP := entO_k k
  go_enter Tryz.func145, Tryz.ntmps145
  go_wp2_with fail
  refine (raw_any _ _ _ ((k : Int) + 1) _ (by omega) (by omega) hl hnc).mono ?_
  rintro e w' ⟨rfl, rfl⟩
  rw [Option.map_some, Addr.add_lit, hP]
  generalize hrr : rawE l k = r at *
  have h0 := hR.at_ 0 (by omega)
  have hR1 := hR.cut 1 2 (by omega)
  have hR3 := hR.cut 3 2 (by omega)
  rw [Option.map_some, Addr.add_lit] at hR1 hR3
  rw [Nat.add_zero] at h0
  have hw0 : IntKind.i64.wrap (((r[0]'(by omega)).toNat : Int)) = ((r[0]'(by omega)).toNat : Int) := IntWalk.i64_in _ (by have := u8_lt (r[0]'(by omega)); omega)
  have hw1 : IntKind.i64.wrap (((r[0]'(by omega)).toNat : Int) - 1) = ((r[0]'(by omega)).toNat : Int) - 1 := IntWalk.i64_in _ (by have := u8_lt (r[0]'(by omega)); omega)
  have hd1 : ((r.drop 1).take 2).length = 2 := by simp; omega
  have hd3 : ((r.drop 3).take 2).length = 2 := by simp; omega
  have H1 : Hidden (ofB ((r.drop 1).take 2) = rAt r) := ⟨rfl⟩
  have H3 : Hidden (ofB ((r.drop 3).take 2) = rLen r) := ⟨rfl⟩
  have HH : Hidden (r[0]'(by omega) = rHd r) := ⟨by unfold rHd; cases r with | nil => simp at hRl | cons x y => rfl⟩
  have c1 := fun (cap : Nat) (W : World) (hb : Below (w.heap.size + 1) (w.alloc (.cells #[.int .i64 0, .int .i64 0, .int .i64 0, .int .i64 0] 66)) W) => of_any (some ⟨p, off + 5 * k + 1, none⟩) 2 cap ((r.drop 1).take 2) W hd1 (by omega) (hR1.below (by simpa using hb))
  have c3 := fun (cap : Nat) (W : World) (hb : Below (w.heap.size + 1) (w.alloc (.cells #[.int .i64 0, .int .i64 0, .int .i64 0, .int .i64 0] 66)) W) => of_any (some ⟨p, off + 5 * k + 3, none⟩) 2 cap ((r.drop 3).take 2) W hd3 (by omega) (hR3.below (by simpa using hb))
  have C1 := Hidden.mk c1
  have C3 := Hidden.mk c3
  clear c1 c3 hR hR1 hR3 hrd hW
  generalize r[0]'(by omega) = hd at *
  go_wp2_with fail
  have hq1 : ¬ c - 5 * k = 1 := by omega
  have hq3 : ¬ c - 5 * k = 3 := by omega
  have hq5 : 5 ≤ c - 5 * k := by omega
  have hq4 : 3 ≤ c - 5 * k := by omega
  have hS : Hidden (∀ W : World, Below (w.heap.size) (w.alloc (.cells #[.int .i64 0, .int .i64 0, .int .i64 0, .int .i64 0] 66)) W → W.cell? ⟨p, off + 5 * k, none⟩ = some (bv hd)) := ⟨fun W hb => (hb.cell (p := ⟨p, off + 5 * k, none⟩) hpl).trans h0⟩
  have hsl1 := run_cut p (off + 5 * k) 5 (c - 5 * k) 1 3 (by omega) (by omega) (by omega)
  have hsl3 := run_cut p (off + 5 * k) 5 (c - 5 * k) 3 5 (by omega) (by omega) (by omega)
  simp only [Nat.reduceSub, Int.cast_ofNat_Int] at hsl1 hsl3
  have hw : w.cell? ⟨p, off + 5 * k, none⟩ = some (bv hd) := (World.cell?_alloc_lt w _ ⟨p, off + 5 * k, none⟩ hpl).symm.trans h0
  have HRR := Hidden.mk hrr
  clear hn hl hnc hk hP hrr hRl hd1 hd3
  go_region_held3 (fun W => W.cell? ⟨p, off + 5 * k, none⟩ = some (bv hd)) (first | exact hS.out _ (Below.refl _ _).drew | exact h0 | exact (World.cell?_alloc_lt _ _ _ hpl).trans hw)
    (first
      | (go_at_call 181; refine (C1.out _ _ ((Below.refl _ _).drew)).mono ?_; clear C1; rintro e w' ⟨rfl, rfl⟩)
      | (go_at_call 181; refine (C3.out _ _ ((Below.refl _ _).drew)).mono ?_; clear C3; rintro e w' ⟨rfl, rfl⟩))
  go_wp2_with fail
  refine bodyPost_ret (v := .tuple #[.agg #[.int .i64 ((k : Int) + 1), .int .i64 (ofB (List.take 2 (List.tail r))), .int .i64 (ofB (List.take 2 (List.drop 3 r))), .int .i64 ((hd.toNat : Int) - 1)], .bool ((hd.toNat : Int) != 0)]) ?_ rfl ?_
  · simp [results, Tryz.f145, go_sem]
  · refine ⟨?_, ((Below.refl _ _).alloc (Nat.le_refl _) _).drew⟩
    have h1 := H1.out
    have h3 := H3.out
    rw [List.drop_one] at h1
    rw [h1, h3, HRR.out]
    unfold entR entV hasE rTag
    rw [← HH.out, bv_bne]
    rfl
set_option maxRecDepth 100000 in
theorem iget_ok (A : Option Addr) (n c : Nat) (l : Bytes) (k : Nat) (w : World) (hn : l.length = n) (hr : rightB n = true) (hnc : n ≤ c) (hrd : Rd w A l) (hk : k < 40) :
    Calls Tryz.prog 66 #[.slice A n c, .int .i64 ((k : Int) + 1)] w fun e w' => (hasE (rawE l k) = true → e = .returned (.tuple #[entR ((k : Int) + 1) (rawE l k), .nilIface])) ∧ (hasE (rawE l k) = false → e = .returned (.tuple #[entV 0 0 0 0, .iface 111 (.int .i64 5)])) ∧ Below w.heap.size w w' := by
  have hnb := rightB_true.1 hr
  have hh : handleB ((k : Int) + 1) = true := handleB_true.2 (by omega)
  have hW : Below w.heap.size w (w.alloc (.cells #[.int .i64 0, .int .i64 0, .int .i64 0, .int .i64 0] 66)) := (Below.refl _ _).alloc (Nat.le_refl _) _
  have hrd1 := hrd.below hW
  go_enter Tryz.func66, Tryz.ntmps66
  go_wp2_with fail
  refine (check_ok A n c ((k : Int) + 1) _ hr hh).mono ?_
  rintro e w1 ⟨rfl, rfl⟩
  go_wp2_with fail
  refine (find_ok A n c l k _ hn (by omega) hnc hrd1 hk).mono ?_
  rintro e w2 ⟨rfl, hb2⟩
  have hB2 : Below w.heap.size w w2 := hW.trans (hb2.mono hW.size)
  have hc0 : w2.heap[w.heap.size]? = some (.cells #[.int .i64 0, .int .i64 0, .int .i64 0, .int .i64 0] 66 (0, 0)) := (hb2.block w.heap.size (by simp)).trans (heap_alloc_new w _)
  have d0 : w2.cell? ⟨w.heap.size, 0, none⟩ = some (.int .i64 0) := by simp [World.cell?, hc0]
  have d1 : w2.cell? ⟨w.heap.size, 1, none⟩ = some (.int .i64 0) := by simp [World.cell?, hc0]
  have d2 : w2.cell? ⟨w.heap.size, 2, none⟩ = some (.int .i64 0) := by simp [World.cell?, hc0]
  have d3 : w2.cell? ⟨w.heap.size, 3, none⟩ = some (.int .i64 0) := by simp [World.cell?, hc0]
  have f0 : ∀ q, w2.frozen? ⟨w.heap.size, q, none⟩ = false := fun q => by simp [World.frozen?, hc0]
  have f00 := f0 0
  have f01 := f0 1
  have f02 := f0 2
  have f03 := f0 3
  have hlt2 : w.heap.size < w2.heap.size := (Array.getElem?_eq_some_iff.1 hc0).1
  have hne2 : w2.heap.size ≠ w.heap.size := by omega
  have hne3 : w.heap.size ≠ w2.heap.size := by omega
  unfold entR
  cases hE : hasE (rawE l k) with
  | true =>
    generalize ha1 : rAt (rawE l k) = a1 at *
    generalize ha2 : rLen (rawE l k) = a2 at *
    generalize ha3 : rTag (rawE l k) = a3 at *
    have HA := Hidden.mk (And.intro ha1 (And.intro ha2 ha3))
    have HE := Hidden.mk hE
    clear ha1 ha2 ha3 hE
    go_wp2_with fail
    refine bodyPost_ret (v := .tuple #[entV ((k : Int) + 1) a1 a2 a3, .nilIface]) ?_ rfl ?_
    · rw [results_cell_tmp rfl]
      go_simp
    · refine ⟨fun _ => ?_, fun h => ?_, ?_⟩
      · obtain ⟨h1, h2, h3⟩ := HA.out
        rw [entR, h1, h2, h3]
      · rw [HE.out] at h; cases h
      · exact ((((hB2.setCell (p := ⟨w.heap.size, 0, none⟩) (Nat.le_refl _) _).setCell (p := ⟨w.heap.size, 1, none⟩) (Nat.le_refl _) _).setCell (p := ⟨w.heap.size, 2, none⟩) (Nat.le_refl _) _).setCell (p := ⟨w.heap.size, 3, none⟩) (Nat.le_refl _) _).alloc (by simp; omega) _
  | false =>
    have HE := Hidden.mk hE
    clear hE
    go_wp2_with fail
    refine bodyPost_ret (v := .tuple #[entV 0 0 0 0, .iface 111 (.int .i64 5)]) ?_ rfl ?_
    · rw [results_cell_tmp rfl]
      go_simp
    · refine ⟨fun h => ?_, fun _ => rfl, ?_⟩
      · rw [HE.out] at h; cases h
      · exact ((((hB2.setCell (p := ⟨w.heap.size, 0, none⟩) (Nat.le_refl _) _).setCell (p := ⟨w.heap.size, 1, none⟩) (Nat.le_refl _) _).setCell (p := ⟨w.heap.size, 2, none⟩) (Nat.le_refl _) _).setCell (p := ⟨w.heap.size, 3, none⟩) (Nat.le_refl _) _).alloc (by simp; omega) _
end Go.Proofs.YtbnobjlphmkgeaaGreatDoor
/- The contracts of check.stray, check.over and image.Zero. -/
namespace Go.Proofs.YtbnobjlphmkgeaaGreatDoor
open Go.RowKit

theorem stray_any (A : Option Addr) (n c : Nat) (h at_ len tag : Int) (w : World) (hn : n ≤ 6400) (_ha : 0 ≤ at_) (hl : 0 ≤ len) (hl2 : len ≤ 65535) :
    Calls Tryz.prog 167 #[.slice A n c, entV h at_ len tag] w fun e w' => e = .returned (.bool (!(tagB tag && lenB len && withinB n at_ len))) ∧ Below w.heap.size w w' := by
  have hW : Below w.heap.size w (w.alloc (.cells #[.int .i64 h, .int .i64 at_, .int .i64 len, .int .i64 tag] 66)) := (Below.refl _ _).alloc (Nat.le_refl _) _
  cases ht : tagB tag with
  | false =>
    go_enter Tryz.func167, Tryz.ntmps167
    go_wp2_with fail
    refine (tag_any tag _).mono ?_
    rintro e w1 ⟨rfl, rfl⟩
    rw [ht]
    go_wp2_with fail
    go_ret
    exact ⟨rfl, hW⟩
  | true =>
    cases hlb : lenB len with
    | false =>
      go_enter Tryz.func167, Tryz.ntmps167
      go_wp2_with fail
      refine (tag_any tag _).mono ?_
      rintro e w1 ⟨rfl, rfl⟩
      rw [ht]
      go_wp2_with fail
      refine (len_any len _).mono ?_
      rintro e w1 ⟨rfl, rfl⟩
      rw [hlb]
      go_wp2_with fail
      go_ret
      exact ⟨rfl, hW⟩
    | true =>
      go_enter Tryz.func167, Tryz.ntmps167
      go_wp2_with fail
      refine (tag_any tag _).mono ?_
      rintro e w1 ⟨rfl, rfl⟩
      rw [ht]
      go_wp2_with fail
      refine (len_any len _).mono ?_
      rintro e w1 ⟨rfl, rfl⟩
      rw [hlb]
      go_wp2_with fail
      refine (within_any n at_ len _ (by omega) (by omega) hl (by omega)).mono ?_
      rintro e w1 ⟨rfl, hb1⟩
      have hB := hW.trans (hb1.mono hW.size)
      clear hb1 hW
      cases hq : withinB n at_ len with
      | true =>
        go_wp2_with fail
        go_ret
        exact ⟨by rw [hq]; rfl, hB⟩
      | false =>
        go_wp2_with fail
        go_ret
        exact ⟨by rw [hq]; rfl, hB⟩
/-- do two stretches of bytes share one? -/
def overB (a al b bl : Int) : Bool := decide (a < b + bl) && decide (b < a + al)
theorem over_any (a al b bl : Int) (w : World) (h1 : 0 ≤ a) (h2 : a ≤ 100000) (h3 : 0 ≤ al) (h4 : al ≤ 100000) (h5 : 0 ≤ b) (h6 : b ≤ 100000) (h7 : 0 ≤ bl) (h8 : bl ≤ 100000) :
    Calls Tryz.prog 170 #[.agg #[.int .i64 a, .int .i64 al], .agg #[.int .i64 b, .int .i64 bl]] w fun e w' => e = .returned (.bool (overB a al b bl)) ∧ Below w.heap.size w w' := by
  have hW := ((Below.refl w.heap.size w).alloc (Nat.le_refl _) (.cells #[.int .i64 a, .int .i64 al] 64)).alloc (by simp) (.cells #[.int .i64 b, .int .i64 bl] 64)
  have s1 : IntKind.i64.wrap (b + bl) = b + bl := IntWalk.i64_in _ (by omega)
  have s2 : IntKind.i64.wrap (a + al) = a + al := IntWalk.i64_in _ (by omega)
  unfold overB
  by_cases hc : a < b + bl
  · go_enter Tryz.func170, Tryz.ntmps170
    go_wp2_with fail
    go_ret
    exact ⟨by simp [hc], hW⟩
  · go_enter Tryz.func170, Tryz.ntmps170
    go_wp2_with fail
    go_ret
    exact ⟨by simp; omega, hW⟩
theorem pred_izero : Pred 193 nonZero := by
  intro x w
  have hb := Hidden.mk (bv_bne x)
  go_enter Tryz.func193, Tryz.ntmps193
  go_wp2
  go_ret
  exact ⟨ret_bool hb.out, rfl⟩
theorem idxf_izero (A : Option Addr) (n c : Nat) (l : Bytes) (w : World) (hn : l.length = n) (hl : n ≤ maxLen) (hr : Rd w A l) :
    Calls Tryz.prog 220 #[.slice A n c, .func (.func 193) #[] #[]] w fun e w' => e = .returned (.int .i64 (idxP nonZero l)) ∧ w = w' := by
  subst hn
  unfold maxLen at hl
  have HP := Hidden.mk pred_izero
  generalize nonZero = p at HP ⊢
  go_enter Tryz.func220, Tryz.ntmps220
  go_wp2
  go_loopw [8] (fun i wr => w = wr ∧ ∃ k : Nat, k ≤ l.length ∧ i = .int .i64 k ∧ Hidden (∀ x ∈ l.take k, p x = false)) (fun i _ => l.length - (intOf i).toNat)
  case atStart => exact ⟨rfl, 0, Nat.zero_le _, rfl, ⟨by simp⟩⟩
  case round =>
    obtain ⟨rfl, k, hk, rfl, hnot⟩ := hrel
    by_cases hlt : k < l.length
    · obtain ⟨b, off, rfl, hc⟩ := hr k hlt
      go_wp2_with fail
      refine (HP.out _ _).mono ?_
      rintro e w1 ⟨rfl, rfl⟩
      cases he : p l[k] with
      | true =>
        have hi : Hidden (idxP p l = k) := ⟨idxP_at p l k hlt hnot.out he⟩
        clear he
        go_wp2
        go_ret
        exact ⟨ret_i64 hi.out.symm, rfl⟩
      | false =>
        have hnk : Hidden (∀ x ∈ l.take (k + 1), p x = false) := ⟨forall_take_succ hlt hnot.out he⟩
        clear he hnot
        go_wp2
        go_roundw
        case rel => exact ⟨by trivial, k + 1, by omega, by go_num, hnk⟩
        case measure => simp [intOf]; omega
    · have hi : Hidden (idxP p l = -1) := ⟨idxP_none p l (by have := hnot.out; rwa [List.take_of_length_le (by omega)] at this)⟩
      go_wp2
      go_ret
      exact ⟨ret_i64 hi.out.symm, rfl⟩
theorem izero_any (A : Option Addr) (n c : Nat) (l : Bytes) (w : World) (hn : l.length = n) (hl : n ≤ maxLen) (hr : Rd w A l) :
    Calls Tryz.prog 152 #[.slice A n c] w fun e w' => e = .returned (.bool (zeroE l)) ∧ w = w' := by
  have hv := Hidden.mk (idxP_any nonZero l)
  have hcf : Calls Tryz.prog 191 #[.slice A n c, .func (.func 193) #[] #[]] w fun e w' => e = .returned (.bool (l.any nonZero)) ∧ w = w' := by
    go_enter Tryz.func191, Tryz.ntmps191
    go_wp2_with fail
    refine (idxf_izero A n c l _ hn hl hr).mono ?_
    rintro e w1 ⟨rfl, rfl⟩
    go_wp2
    go_ret
    exact ⟨congrArg (fun b => Ending.returned (.bool b)) hv.out, rfl⟩
  have HC := Hidden.mk hcf
  clear hcf
  unfold zeroE
  go_enter Tryz.func152, Tryz.ntmps152
  go_wp2_with fail
  refine HC.out.mono ?_
  rintro e w1 ⟨rfl, rfl⟩
  go_wp2_with fail
  go_ret
  exact ⟨rfl, rfl⟩

theorem forall_take_succ' {α : Type} {l : List α} {k : Nat} {p : α → Bool} (hk : k < l.length) (h : ∀ x ∈ l.take k, p x = false) (hp : p l[k] = false) : ∀ x ∈ l.take (k + 1), p x = false := by
  intro x hx
  rw [List.take_succ_eq_append_getElem hk, List.mem_append, List.mem_singleton] at hx
  rcases hx with hx | rfl
  · exact h x hx
  · exact hp
/-- the slice at A has the entries L: the handle, the bytes -/
def RdEs (w : World) (A : Option Addr) (L : List (Int × Bytes)) : Prop := ∀ i (h : i < L.length), ∃ g off, A = some ⟨g, off, none⟩ ∧ w.cell? ⟨g, off + i * 4, none⟩ = some (.int .i64 L[i].1) ∧ w.cell? ⟨g, off + i * 4 + 1, none⟩ = some (.int .i64 (rAt L[i].2)) ∧
  w.cell? ⟨g, off + i * 4 + 2, none⟩ = some (.int .i64 (rLen L[i].2)) ∧ w.cell? ⟨g, off + i * 4 + 3, none⟩ = some (.int .i64 (rTag L[i].2))
theorem RdEs.below {w w' : World} {A : Option Addr} {L : List (Int × Bytes)} (h : RdEs w A L) (hb : Below w.heap.size w w') : RdEs w' A L := fun i hi => by
  obtain ⟨g, off, hA, c0, c1, c2, c3⟩ := h i hi
  exact ⟨g, off, hA, (hb.cell (block_lt_of_cell c0)).trans c0, (hb.cell (block_lt_of_cell c1)).trans c1, (hb.cell (block_lt_of_cell c2)).trans c2, (hb.cell (block_lt_of_cell c3)).trans c3⟩
theorem idxe_over (p : Int × Bytes → Bool) (A : Option Addr) (n c : Nat) (L : List (Int × Bytes)) (cap : Value) (w : World) (hn : L.length = n) (hl : n ≤ 1000) (hr : RdEs w A L)
    (hP : ∀ x ∈ L, ∀ W, Below w.heap.size w W → Calls Tryz.prog 169 #[entR x.1 x.2, cap] W fun e w' => e = .returned (.bool (p x)) ∧ Below W.heap.size W w') :
    Calls Tryz.prog 210 #[.slice A n c, .func (.func 169) #[] #[cap]] w fun e w' => ∃ z : Int, e = .returned (.int .i64 z) ∧ decide (0 ≤ z) = L.any p ∧ Below w.heap.size w w' := by
  subst hn
  have HP := Hidden.mk hP
  clear hP
  go_enter Tryz.func210, Tryz.ntmps210
  go_wp2_with fail
  go_loopw [8] (fun i wr => Below w.heap.size w wr ∧ ∃ k : Nat, k ≤ L.length ∧ i = .int .i64 k ∧ Hidden (∀ x ∈ L.take k, p x = false)) (fun i _ => L.length - (intOf i).toNat)
  case atStart => exact ⟨Below.refl _ _, 0, Nat.zero_le _, rfl, ⟨by simp⟩⟩
  case round =>
    obtain ⟨hbel, k, hk, rfl, hnot⟩ := hrel
    by_cases hlt : k < L.length
    · obtain ⟨b, off, rfl, c0, c1, c2, c3⟩ := (hr.below hbel) k hlt
      have hp := HP.out L[k] (List.getElem_mem hlt) wr hbel
      have HPK := Hidden.mk hp
      have HE : Hidden (entR L[k].1 L[k].2 = entV L[k].1 (rAt L[k].2) (rLen L[k].2) (rTag L[k].2)) := ⟨rfl⟩
      have i0 : (0 : Int) ≤ k := by omega
      have i1 : (k : Int) < L.length := by omega
      clear hp
      go_wp2_with fail
      refine (HPK.out).mono ?_
      rintro e w1 ⟨rfl, hb1⟩
      have hB1 := hbel.trans (hb1.mono hbel.size)
      cases he : p L[k] with
      | true =>
        have hi : Hidden (true = L.any p) := ⟨(List.any_eq_true.2 ⟨L[k], List.getElem_mem hlt, he⟩).symm⟩
        clear he hb1 hbel
        go_wp2_with fail
        go_ret
        exact ⟨_, rfl, by rw [← hi.out]; simp, hB1⟩
      | false =>
        have hnk : Hidden (∀ x ∈ L.take (k + 1), p x = false) := ⟨forall_take_succ' hlt hnot.out he⟩
        clear he hnot hb1 hbel
        go_wp2_with fail
        go_roundw
        case rel => exact ⟨hB1, k + 1, by omega, by go_num, hnk⟩
        case measure => simp [intOf]; omega
    · have hi : Hidden (false = L.any p) := ⟨by
        have := hnot.out
        rw [List.take_of_length_le (by omega)] at this
        symm; simpa using this⟩
      go_wp2_with fail
      go_ret
      exact ⟨-1, rfl, by rw [← hi.out]; rfl, hbel⟩
theorem cfe_over (p : Int × Bytes → Bool) (A : Option Addr) (n c : Nat) (L : List (Int × Bytes)) (cap : Value) (w : World) (hn : L.length = n) (hl : n ≤ 1000) (hr : RdEs w A L)
    (hP : ∀ x ∈ L, ∀ W, Below w.heap.size w W → Calls Tryz.prog 169 #[entR x.1 x.2, cap] W fun e w' => e = .returned (.bool (p x)) ∧ Below W.heap.size W w') :
    Calls Tryz.prog 168 #[.slice A n c, .func (.func 169) #[] #[cap]] w fun e w' => e = .returned (.bool (L.any p)) ∧ Below w.heap.size w w' := by
  have HC := Hidden.mk (idxe_over p A n c L cap w hn hl hr hP)
  clear hP
  go_enter Tryz.func168, Tryz.ntmps168
  go_wp2_with fail
  refine HC.out.mono ?_
  rintro e w1 ⟨z, rfl, hz, hb⟩
  have HZ := Hidden.mk hz
  clear hz
  go_wp2_with fail
  go_ret
  exact ⟨congrArg (fun b => Ending.returned (.bool b)) HZ.out, hb⟩
theorem idxe_leads (p : Int × Bytes → Bool) (A : Option Addr) (n c : Nat) (L : List (Int × Bytes)) (cap : Value) (w : World) (hn : L.length = n) (hl : n ≤ 1000) (hr : RdEs w A L)
    (hP : ∀ x ∈ L, ∀ W, Below w.heap.size w W → Calls Tryz.prog 171 #[entR x.1 x.2, cap] W fun e w' => e = .returned (.bool (p x)) ∧ Below W.heap.size W w') :
    Calls Tryz.prog 210 #[.slice A n c, .func (.func 171) #[] #[cap]] w fun e w' => ∃ z : Int, e = .returned (.int .i64 z) ∧ decide (0 ≤ z) = L.any p ∧ Below w.heap.size w w' := by
  subst hn
  have HP := Hidden.mk hP
  clear hP
  go_enter Tryz.func210, Tryz.ntmps210
  go_wp2_with fail
  go_loopw [8] (fun i wr => Below w.heap.size w wr ∧ ∃ k : Nat, k ≤ L.length ∧ i = .int .i64 k ∧ Hidden (∀ x ∈ L.take k, p x = false)) (fun i _ => L.length - (intOf i).toNat)
  case atStart => exact ⟨Below.refl _ _, 0, Nat.zero_le _, rfl, ⟨by simp⟩⟩
  case round =>
    obtain ⟨hbel, k, hk, rfl, hnot⟩ := hrel
    by_cases hlt : k < L.length
    · obtain ⟨b, off, rfl, c0, c1, c2, c3⟩ := (hr.below hbel) k hlt
      have hp := HP.out L[k] (List.getElem_mem hlt) wr hbel
      have HPK := Hidden.mk hp
      have HE : Hidden (entR L[k].1 L[k].2 = entV L[k].1 (rAt L[k].2) (rLen L[k].2) (rTag L[k].2)) := ⟨rfl⟩
      have i0 : (0 : Int) ≤ k := by omega
      have i1 : (k : Int) < L.length := by omega
      clear hp
      go_wp2_with fail
      refine (HPK.out).mono ?_
      rintro e w1 ⟨rfl, hb1⟩
      have hB1 := hbel.trans (hb1.mono hbel.size)
      cases he : p L[k] with
      | true =>
        have hi : Hidden (true = L.any p) := ⟨(List.any_eq_true.2 ⟨L[k], List.getElem_mem hlt, he⟩).symm⟩
        clear he hb1 hbel
        go_wp2_with fail
        go_ret
        exact ⟨_, rfl, by rw [← hi.out]; simp, hB1⟩
      | false =>
        have hnk : Hidden (∀ x ∈ L.take (k + 1), p x = false) := ⟨forall_take_succ' hlt hnot.out he⟩
        clear he hnot hb1 hbel
        go_wp2_with fail
        go_roundw
        case rel => exact ⟨hB1, k + 1, by omega, by go_num, hnk⟩
        case measure => simp [intOf]; omega
    · have hi : Hidden (false = L.any p) := ⟨by
        have := hnot.out
        rw [List.take_of_length_le (by omega)] at this
        symm; simpa using this⟩
      go_wp2_with fail
      go_ret
      exact ⟨-1, rfl, by rw [← hi.out]; rfl, hbel⟩
theorem cfe_leads (p : Int × Bytes → Bool) (A : Option Addr) (n c : Nat) (L : List (Int × Bytes)) (cap : Value) (w : World) (hn : L.length = n) (hl : n ≤ 1000) (hr : RdEs w A L)
    (hP : ∀ x ∈ L, ∀ W, Below w.heap.size w W → Calls Tryz.prog 171 #[entR x.1 x.2, cap] W fun e w' => e = .returned (.bool (p x)) ∧ Below W.heap.size W w') :
    Calls Tryz.prog 168 #[.slice A n c, .func (.func 171) #[] #[cap]] w fun e w' => e = .returned (.bool (L.any p)) ∧ Below w.heap.size w w' := by
  have HC := Hidden.mk (idxe_leads p A n c L cap w hn hl hr hP)
  clear hP
  go_enter Tryz.func168, Tryz.ntmps168
  go_wp2_with fail
  refine HC.out.mono ?_
  rintro e w1 ⟨z, rfl, hz, hb⟩
  have HZ := Hidden.mk hz
  clear hz
  go_wp2_with fail
  go_ret
  exact ⟨congrArg (fun b => Ending.returned (.bool b)) HZ.out, hb⟩
end Go.Proofs.YtbnobjlphmkgeaaGreatDoor
/- The contract of check.handles. -/
namespace Go.Proofs.YtbnobjlphmkgeaaGreatDoor
open Go.RowKit

def entsL (p : Nat → Bool) (R : Nat → Bytes) (m : Nat) : List (Int × Bytes) := ((List.range m).filter p).map fun (k : Nat) => (((k : Int) + 1), R k)
def rightL (n : Nat) (R : Nat → Bytes) (m : Nat) : List (Int × Bytes) := entsL (fun k => kindH n R k == 6) R m
def wholeL (n : Nat) (R : Nat → Bytes) (m : Nat) : List (Int × Bytes) := entsL (fun k => wholeE n (R k)) R m
theorem entsL_succ (p : Nat → Bool) (R : Nat → Bytes) (m : Nat) : entsL p R (m + 1) = entsL p R m ++ (if p m = true then [(((m : Int) + 1), R m)] else []) := by
  unfold entsL
  rw [List.range_succ, List.filter_append, List.map_append]
  congr 1
  cases h : p m <;> simp [h]
theorem entsL_len (p : Nat → Bool) (R : Nat → Bytes) (m : Nat) : (entsL p R m).length ≤ m := by
  unfold entsL
  rw [List.length_map]
  have := List.length_filter_le p (List.range m)
  rwa [List.length_range] at this
theorem wholeL_any (n : Nat) (R : Nat → Bytes) (m : Nat) (r : Bytes) : (wholeL n R m).any (fun x => overE r x.2) = (List.range m).any fun j => wholeE n (R j) && overE r (R j) := by
  unfold wholeL entsL
  rw [List.any_map, List.any_filter]
  rfl
def ecells (x : Int × Bytes) : List Value := [.int .i64 x.1, .int .i64 (rAt x.2), .int .i64 (rLen x.2), .int .i64 (rTag x.2)]
def fcells (f : Flt) : List Value := [.int .i64 f.what, .int .i64 f.which]
theorem ecells_at (L : List (Int × Bytes)) (q : Nat) (hq : q < 4) : ∀ i (h : i < L.length), (L.flatMap ecells)[i * 4 + q]? = (ecells L[i])[q]? := by
  induction L with
  | nil => intro i h; simp at h
  | cons x L ih =>
    intro i h
    rw [List.flatMap_cons]
    have hl : (ecells x).length = 4 := rfl
    cases i with
    | zero => rw [List.getElem?_append_left (by omega)]; simp
    | succ i =>
      rw [List.getElem?_append_right (by omega), hl, show (i + 1) * 4 + q - 4 = i * 4 + q from by omega, ih i (by simpa using h)]
      simp
theorem own_rdEs {w : World} {base : Nat} {v : Value} {L : List (Int × Bytes)} (h : w.ownsRow base 66 4 v L.length (L.flatMap ecells)) : ∃ A c, v = .slice A L.length c ∧ L.length ≤ c ∧ RdEs w A L := by
  rcases h.2 with ⟨rfl, h0⟩ | ⟨g, cap, cur, rfl, _, hh, hc, hm, hz, ht⟩
  · exact ⟨none, 0, by rw [h0], by omega, fun i hi => by omega⟩
  · refine ⟨_, cap, rfl, hc, fun i hi => ?_⟩
    have hcell : ∀ q u, q < 4 → (ecells L[i])[q]? = some u → w.cell? ⟨g, 0 + (i * 4 + q), none⟩ = some u := fun q u hq hu => by
      have := h.cells (g := g) rfl (i * 4 + q) u (by rw [ecells_at L q hq i hi]; exact hu)
      rw [Addr.add_lit] at this
      exact this
    refine ⟨g, 0, rfl, ?_, ?_, ?_, ?_⟩
    · exact hcell 0 _ (by omega) rfl
    · exact (Nat.add_assoc 0 (i * 4) 1) ▸ hcell 1 _ (by omega) rfl
    · exact (Nat.add_assoc 0 (i * 4) 2) ▸ hcell 2 _ (by omega) rfl
    · exact (Nat.add_assoc 0 (i * 4) 3) ▸ hcell 3 _ (by omega) rfl
theorem own_apart {w : World} {base e e' size size' n n' : Nat} {v v' : Value} {xs xs' : List Value} (h : w.ownsRow base e size v n xs) (h' : w.ownsRow base e' size' v' n' xs') (hne : e ≠ e') : v.ownBlock = none ∨ v.ownBlock ≠ v'.ownBlock := by
  rcases h.2 with ⟨rfl, _⟩ | ⟨g, cap, cur, rfl, _, hh, _⟩
  · exact .inl rfl
  · right
    intro he
    rcases h'.2 with ⟨rfl, _⟩ | ⟨g', cap', cur', rfl, _, hh', _⟩
    · simp [Value.ownBlock] at he
    · obtain rfl : g = g' := by simpa [Value.ownBlock] using he
      rw [hh] at hh'
      injection hh' with hh'
      injection hh' with _ ht
      exact hne ht
/-- three slices of the call's own: faults, right ones, whole ones -/
structure HSt (w : World) (base : Nat) (vf vr vw : Value) (F : List Flt) (R W : List (Int × Bytes)) : Prop where
  f : w.ownsRow base 200 2 vf F.length (F.flatMap fcells)
  r : w.ownsRow base 66 4 vr R.length (R.flatMap ecells)
  o : w.ownsRow base 66 4 vw W.length (W.flatMap ecells)
  ne : ∀ b, vr.ownBlock = some b → vw.ownBlock ≠ some b
section
variable {w w' : World} {base : Nat} {vf vr vw vf' : Value} {F : List Flt} {R W : List (Int × Bytes)}
theorem HSt.below (h : HSt w base vf vr vw F R W) (hb : Below w.heap.size w w') : HSt w' base vf vr vw F R W := ⟨own_below h.f hb, own_below h.r hb, own_below h.o hb, h.ne⟩
theorem HSt.addF (h : HSt w base vf vr vw F R W) {x : Flt} (hg : w.grownBy w' vf.ownBlock) (h' : w'.ownsRow base 200 2 vf' (F.length + 1) (F.flatMap fcells ++ fcells x)) : HSt w' base vf' vr vw (F ++ [x]) R W :=
  ⟨by simpa using h', h.r.kept hg (own_apart h.r h.f (by decide)), h.o.kept hg (own_apart h.o h.f (by decide)), h.ne⟩
theorem HSt.addR (h : HSt w base vf vr vw F R W) {x : Int × Bytes} {g cap n : Nat} (hg : w.grownBy w' vr.ownBlock) (hn : n = R.length + 1) (h' : w'.ownsRow base 66 4 (.slice (some ⟨g, 0, none⟩) n cap) n (R.flatMap ecells ++ ecells x)) (hat : vr.ownBlock = some g ∨ w.heap.size ≤ g) :
    HSt w' base vf (.slice (some ⟨g, 0, none⟩) n cap) vw F (R ++ [x]) W := by
  subst hn
  refine ⟨h.f.kept hg (own_apart h.f h.r (by decide)), by simpa using h', h.o.kept hg ?_, fun b hb hw => ?_⟩
  · cases hv : vw.ownBlock with
    | none => exact .inl rfl
    | some b => exact .inr fun e => h.ne b e.symm hv
  · obtain rfl : g = b := by simpa [Value.ownBlock] using hb
    rcases hat with ha | ha
    · exact h.ne g ha hw
    · have := (h.o.lt _ hw).2; omega
theorem HSt.addW (h : HSt w base vf vr vw F R W) {x : Int × Bytes} {g cap n : Nat} (hg : w.grownBy w' vw.ownBlock) (hn : n = W.length + 1) (h' : w'.ownsRow base 66 4 (.slice (some ⟨g, 0, none⟩) n cap) n (W.flatMap ecells ++ ecells x)) (hat : vw.ownBlock = some g ∨ w.heap.size ≤ g) :
    HSt w' base vf vr (.slice (some ⟨g, 0, none⟩) n cap) F R (W ++ [x]) := by
  subst hn
  refine ⟨h.f.kept hg (own_apart h.f h.o (by decide)), h.r.kept hg ?_, by simpa using h', fun b hb hw => ?_⟩
  · cases hv : vr.ownBlock with
    | none => exact .inl rfl
    | some b => exact .inr fun e => h.ne b hv e.symm
  · obtain rfl : g = b := by simpa [Value.ownBlock] using hw
    rcases hat with ha | ha
    · exact h.ne g hb ha
    · have := (h.r.lt _ hb).2; omega
end
theorem fault_info : (Tryz.prog.info? 200).map (fun i => (i.zero, i.size, i.bytes)) = some (some (.agg #[.int .i64 0, .int .i64 0]), 2, 16) := by kernel_rfl
theorem entry_info : (Tryz.prog.info? 66).map (fun i => (i.zero, i.size, i.bytes)) = some (some (.agg #[.int .i64 0, .int .i64 0, .int .i64 0, .int .i64 0]), 4, 32) := by kernel_rfl
theorem rAt_le (r : Bytes) : rAt r ≤ 65535 := by
  have h := ofB_lt ((r.drop 1).take 2)
  have h2 : 2 ^ (8 * ((r.drop 1).take 2).length) ≤ 2 ^ 16 := Nat.pow_le_pow_right (by omega) (by simp; omega)
  unfold rAt; omega
theorem rLen_le (r : Bytes) : rLen r ≤ 65535 := by
  have h := ofB_lt ((r.drop 3).take 2)
  have h2 : 2 ^ (8 * ((r.drop 3).take 2).length) ≤ 2 ^ 16 := Nat.pow_le_pow_right (by omega) (by simp; omega)
  unfold rLen; omega
theorem overE_eq (r s : Bytes) : overB (rAt r) (rLen r) (rAt s) (rLen s) = overE r s := by
  unfold overB overE
  congr 1 <;> (rw [decide_eq_decide]; omega)
/-- the closure of handles -/
theorem over1_any (r : Bytes) (Bx : Nat) (x : Int × Bytes) (W : World) (h1 : W.cell? ⟨Bx, 1, none⟩ = some (.int .i64 (rAt r))) (h2 : W.cell? ⟨Bx, 2, none⟩ = some (.int .i64 (rLen r))) :
    Calls Tryz.prog 169 #[entR x.1 x.2, .pointer (some ⟨Bx, 0, none⟩)] W fun e w' => e = .returned (.bool (overE r x.2)) ∧ Below W.heap.size W w' := by
  have hlt := block_lt_of_cell h1
  have hW : Below W.heap.size W (W.alloc (.cells #[.int .i64 x.1, .int .i64 (rAt x.2), .int .i64 (rLen x.2), .int .i64 (rTag x.2)] 66)) := (Below.refl _ _).alloc (Nat.le_refl _) _
  have b1 := rAt_le r
  have b2 := rLen_le r
  have b3 := rAt_le x.2
  have b4 := rLen_le x.2
  have HO := Hidden.mk (overE_eq r x.2)
  obtain ⟨xh, xr⟩ := x
  unfold entR
  dsimp only at *
  generalize rAt xr = c1 at *
  generalize rLen xr = c2 at *
  generalize rTag xr = c3 at *
  generalize rAt r = d1 at *
  generalize rLen r = d2 at *
  go_enter Tryz.func169, Tryz.ntmps169
  go_wp2_with fail
  refine (over_any d1 d2 c1 c2 _ (by omega) (by omega) (by omega) (by omega) (by omega) (by omega) (by omega) (by omega)).mono ?_
  rintro e w' ⟨rfl, hb⟩
  have hB := hW.trans (hb.mono hW.size)
  rw [HO.out]
  go_wp2_with fail
  go_ret
  exact ⟨rfl, hB⟩
end Go.Proofs.YtbnobjlphmkgeaaGreatDoor
/- The contract of check.roots: closures and slices.Contains over names. -/
namespace Go.Proofs.YtbnobjlphmkgeaaGreatDoor
open Go.RowKit

/-- the slice at A has the texts L -/
def RdS (w : World) (A : Option Addr) (L : List Bytes) : Prop := ∀ j (h : j < L.length), ∃ b off, A = some ⟨b, off, none⟩ ∧ w.cell? ⟨b, off + j, none⟩ = some (sv L[j])
theorem own_rdS {w : World} {base e : Nat} {v : Value} {L : List Bytes} (h : w.ownsRow base e 1 v L.length (L.map fun x => sv x)) : ∃ A c, v = .slice A L.length c ∧ L.length ≤ c ∧ RdS w A L := by
  rcases h.2 with ⟨rfl, h0⟩ | ⟨g, cap, cur, rfl, _, hh, hc, hm, hz, ht⟩
  · exact ⟨none, 0, by rw [h0], by omega, fun i hi => by omega⟩
  · refine ⟨_, cap, rfl, hc, fun i hi => ⟨g, 0, rfl, ?_⟩⟩
    have := h.cells (g := g) rfl i (sv L[i]) (by simp [hi])
    rw [Addr.add_lit] at this
    exact this
theorem indexS_any (A : Option Addr) (n c : Nat) (L : List Bytes) (s : Bytes) (w : World) (hn : L.length = n) (hl : n ≤ 1000) (hr : RdS w A L) :
    Calls Tryz.prog 211 #[.slice A n c, sv s] w fun e w' => ∃ z : Int, e = .returned (.int .i64 z) ∧ decide (0 ≤ z) = L.any (fun x => s == x) ∧ w = w' := by
  subst hn
  go_enter Tryz.func211, Tryz.ntmps211
  go_wp2_with fail
  go_loopw [8] (fun i wr => w = wr ∧ ∃ k : Nat, k ≤ L.length ∧ i = .int .i64 k ∧ Hidden (∀ x ∈ L.take k, (s == x) = false)) (fun i _ => L.length - (intOf i).toNat)
  case atStart => exact ⟨rfl, 0, Nat.zero_le _, rfl, ⟨by simp⟩⟩
  case round =>
    obtain ⟨rfl, k, hk, rfl, hnot⟩ := hrel
    by_cases hlt : k < L.length
    · obtain ⟨b, off, rfl, c0⟩ := hr k hlt
      have i0 : (0 : Int) ≤ k := by omega
      have i1 : (k : Int) < L.length := by omega
      cases he : (s == L[k]) with
      | true =>
        have hi : Hidden (true = L.any fun x => s == x) := ⟨(List.any_eq_true.2 ⟨L[k], List.getElem_mem hlt, he⟩).symm⟩
        go_wp2_with fail
        go_ret
        exact ⟨_, rfl, by rw [← hi.out]; simp, rfl⟩
      | false =>
        have hnk : Hidden (∀ x ∈ L.take (k + 1), (s == x) = false) := ⟨forall_take_succ' hlt hnot.out he⟩
        clear hnot
        go_wp2_with fail
        go_roundw
        case rel => exact ⟨by trivial, k + 1, by omega, by go_num, hnk⟩
        case measure => simp [intOf]; omega
    · have hi : Hidden (false = L.any fun x => s == x) := ⟨by
        have := hnot.out
        rw [List.take_of_length_le (by omega)] at this
        symm; simpa using this⟩
      go_wp2_with fail
      go_ret
      exact ⟨-1, rfl, by rw [← hi.out]; rfl, rfl⟩
theorem containsS_any (A : Option Addr) (n c : Nat) (L : List Bytes) (s : Bytes) (w : World) (hn : L.length = n) (hl : n ≤ 1000) (hr : RdS w A L) :
    Calls Tryz.prog 172 #[.slice A n c, sv s] w fun e w' => e = .returned (.bool (L.any (fun x => s == x))) ∧ w = w' := by
  have HC := Hidden.mk (indexS_any A n c L s w hn hl hr)
  go_enter Tryz.func172, Tryz.ntmps172
  go_wp2_with fail
  refine HC.out.mono ?_
  rintro e w1 ⟨z, rfl, hz, rfl⟩
  have HZ := Hidden.mk hz
  clear hz
  go_wp2_with fail
  go_ret
  exact ⟨congrArg (fun b => Ending.returned (.bool b)) HZ.out, rfl⟩
/-- the closure of roots -/
theorem leads1_any (r : Bytes) (hr11 : r.length = 11) (Bx p off c : Nat) (x : Int × Bytes) (W : World) (h1 : W.cell? ⟨Bx, 0, none⟩ = some (.slice (some ⟨p, off, none⟩) 11 c)) (hrd : Rd W (some ⟨p, off, none⟩) r) :
    Calls Tryz.prog 171 #[entR x.1 x.2, .pointer (some ⟨Bx, 0, none⟩)] W fun e w' => e = .returned (.bool (x.1 == ((r.getD 10 0).toNat : Int))) ∧ Below W.heap.size W w' := by
  have hlt := block_lt_of_cell h1
  have c10 := hrd.at_ 10 (by omega)
  have hx10 : Hidden (r[10]'(by omega) = r.getD 10 0) := ⟨by simp [hr11]⟩
  have hlp := block_lt_of_cell c10
  generalize r[10]'(by omega) = r10 at *
  have hw0 : IntKind.i64.wrap (r10.toNat : Int) = (r10.toNat : Int) := IntWalk.i64_in _ (by have := u8_lt r10; omega)
  have hW : Below W.heap.size W (W.alloc (.cells #[.int .i64 x.1, .int .i64 (rAt x.2), .int .i64 (rLen x.2), .int .i64 (rTag x.2)] 66)) := (Below.refl _ _).alloc (Nat.le_refl _) _
  obtain ⟨xh, xr⟩ := x
  unfold entR
  dsimp only at *
  generalize rAt xr = c1 at *
  generalize rLen xr = c2 at *
  generalize rTag xr = c3 at *
  clear hrd hr11
  go_enter Tryz.func171, Tryz.ntmps171
  go_wp2_with fail
  go_quiet (fail)
  go_wp2_with fail
  go_ret
  exact ⟨by rw [← hx10.out]; rfl, below_drewN hW _⟩

theorem rawR_len (l : Bytes) (i : Nat) (hi : i < 8) (hn : 288 ≤ l.length) : (rawR l i).length = 11 := by
  unfold rawR; simp; omega
theorem rawR_rd {w : World} {A : Option Addr} {l : Bytes} (h : Rd w A l) (i : Nat) (hi : i < 8) (hn : 288 ≤ l.length) : Rd w (A.map (·.add (200 + 11 * i))) (rawR l i) := h.cut (200 + 11 * i) 11 (by omega)
theorem rootO_k (k : Nat) : rootO (k : Int) = 200 + 11 * k := by unfold rootO; omega
def namesL (leads : UInt8 → Bool) (S : Nat → Bytes) (m : Nat) : List Bytes := ((List.range m).filter fun i => kindR leads S i == 6).map fun i => nmR (S i)
theorem namesL_succ (leads : UInt8 → Bool) (S : Nat → Bytes) (m : Nat) : namesL leads S (m + 1) = namesL leads S m ++ (if kindR leads S m = 6 then [nmR (S m)] else []) := by
  unfold namesL
  rw [List.range_succ, List.filter_append, List.map_append]
  congr 1
  by_cases h : kindR leads S m = 6 <;> simp [h]
theorem namesL_len (leads : UInt8 → Bool) (S : Nat → Bytes) (m : Nat) : (namesL leads S m).length ≤ m := by
  unfold namesL
  rw [List.length_map]
  have := List.length_filter_le (fun i => kindR leads S i == 6) (List.range m)
  rwa [List.length_range] at this
theorem namesL_any (leads : UInt8 → Bool) (S : Nat → Bytes) (s : Bytes) : ∀ m, (namesL leads S m).any (fun x => s == x) = (List.range m).any fun j => okR leads (S j) && (s == nmR (S j))
  | 0 => rfl
  | m + 1 => by
    rw [namesL_succ, List.any_append, List.range_succ, List.any_append, namesL_any leads S s m]
    by_cases h : kindR leads S m = 6
    · have hok : okR leads (S m) = true := by
        unfold kindR at h; unfold okR
        split at h
        · simp at h
        · split at h
          · simp at h
          · rename_i h1 h2; simp [h1, h2]
      simp [h, hok]
    · simp only [if_neg h, List.any_nil, List.any_cons, Bool.or_false]
      cases hok : okR leads (S m) with
      | false => simp
      | true =>
        have hz : zeroE (S m) = false := by unfold okR at hok; simp at hok; exact hok.1
        have hb : badR leads (S m) = false := by unfold okR at hok; simp at hok; exact hok.2
        have h5 : ((List.range m).any fun j => okR leads (S j) && (nmR (S m) == nmR (S j))) = true := by
          unfold kindR at h
          rw [hz, hb] at h
          simp only [Bool.false_eq_true, if_false] at h
          split at h
          · assumption
          · simp at h
        by_cases he : s = nmR (S m)
        · subst he; rw [h5]; simp
        · simp [he]
/-- two slices of the call's own: faults, names -/
structure RSt (w : World) (base : Nat) (vf vn : Value) (F : List Flt) (N : List Bytes) : Prop where
  f : w.ownsRow base 200 2 vf F.length (F.flatMap fcells)
  n : w.ownsRow base 9 1 vn N.length (N.map fun x => sv x)
section
variable {w w' : World} {base : Nat} {vf vn vf' vn' : Value} {F : List Flt} {N : List Bytes}
theorem RSt.below (h : RSt w base vf vn F N) (hb : Below w.heap.size w w') : RSt w' base vf vn F N := ⟨own_below h.f hb, own_below h.n hb⟩
theorem RSt.addF (h : RSt w base vf vn F N) {x : Flt} (hg : w.grownBy w' vf.ownBlock) (h' : w'.ownsRow base 200 2 vf' (F.length + 1) (F.flatMap fcells ++ fcells x)) : RSt w' base vf' vn (F ++ [x]) N :=
  ⟨by simpa using h', h.n.kept hg (own_apart h.n h.f (by decide))⟩
theorem RSt.addN (h : RSt w base vf vn F N) {x : Bytes} (hg : w.grownBy w' vn.ownBlock) (h' : w'.ownsRow base 9 1 vn' (N.length + 1) ((N.map fun x => sv x) ++ [sv x])) : RSt w' base vf vn' F (N ++ [x]) :=
  ⟨h.f.kept hg (own_apart h.f h.n (by decide)), by simpa using h'⟩
end
theorem string_info : (Tryz.prog.info? 9).map (fun i => (i.zero, i.size, i.bytes)) = some (some (.string ByteArray.empty), 1, 16) := by kernel_rfl
theorem RdEs.belowB {w w' : World} {A : Option Addr} {L : List (Int × Bytes)} (h : RdEs w A L) (hb : Below w.heap.size w w') : RdEs w' A L := h.below hb
set_option maxRecDepth 100000 in
set_option maxHeartbeats 1000000 in
theorem roots_ok (A Ar : Option Addr) (n c nr cr : Nat) (l : Bytes) (L : List (Int × Bytes)) (leads : UInt8 → Bool) (w : World) (hn : l.length = n) (hr : rightB n = true) (hnc : n ≤ c) (hrd : Rd w A l) (hnr : L.length = nr) (hl : nr ≤ 100) (hrl : RdEs w Ar L)
    (hleads : ∀ x : UInt8, (L.any fun e => e.1 == (x.toNat : Int)) = leads x) :
    Calls Tryz.prog 116 #[.slice A n c, .slice Ar nr cr] w fun e w' => ∃ vf, e = .returned vf ∧ w'.ownsRow w.heap.size 200 2 vf (faultsR leads (rawR l) 8).length ((faultsR leads (rawR l) 8).flatMap fcells) ∧ Below w.heap.size w w' := by
  have hnb := rightB_true.1 hr
  obtain ⟨i1, hi1, hy0, hy1, hy2⟩ := info_parts fault_info
  obtain ⟨i2, hi2, hx0, hx1, hx2⟩ := info_parts string_info
  have HRAW : Hidden (∀ k : Nat, k < 8 → ∀ W, Below w.heap.size w W → Rd W (A.map (·.add (200 + 11 * k))) (rawR l k)) := ⟨fun k hk W hW => rawR_rd (hrd.below hW) k hk (by omega)⟩
  have HLEN : Hidden (∀ k : Nat, k < 8 → (rawR l k).length = 11) := ⟨fun k hk => rawR_len l k hk (by omega)⟩
  have HLD := Hidden.mk hleads
  have HNR := Hidden.mk hnr
  have HRL := Hidden.mk hrl
  generalize rawR l = S at *
  clear hr hrd hn hleads hnr hrl
  go_enter Tryz.func116, Tryz.ntmps116
  go_wp2_with fail
  go_loopw [4, 5, 11] (fun vf vn i wr => ∃ k : Nat, k ≤ 8 ∧ i = .int .i64 (k : Int) ∧ Below w.heap.size w wr ∧ RSt wr w.heap.size vf vn (faultsR leads S k) (namesL leads S k)) (fun _ _ i _ => 8 - (intOf i).toNat)
  case atStart => exact ⟨0, by omega, rfl, Below.refl _ _, World.ownsRow_nil _ _ _ _, World.ownsRow_nil _ _ _ _⟩
  case round =>
    obtain ⟨k, hk, rfl, hbel, hst⟩ := hrel
    by_cases hlt : k < 8
    · have k0 : (k : Int) < 8 := by omega
      have s1 : IntKind.i64.wrap ((k : Int) + 1) = (k : Int) + 1 := IntWalk.i64_in _ (by omega)
      have hlF := faultsR_len leads S k
      have hlN := namesL_len leads S k
      have HSF := Hidden.mk (faultsR_succ leads S k)
      have HSN := Hidden.mk (namesL_succ leads S k)
      have hrw := HRAW.out k hlt wr hbel
      have hlen := HLEN.out k hlt
      obtain ⟨p, off, hA, hpl⟩ := hrw.lt (by omega)
      rw [hA] at hrw
      have HA := Hidden.mk hA
      clear hA hlen
      go_wp2_with fail
      refine (rawRoot_any A n c (k : Int) _ (by omega) (by omega) (by omega) hnc).mono ?_
      rintro e w1 ⟨rfl, rfl⟩
      rw [rootO_k, HA.out]
      have hal : Below wr.heap.size wr (wr.alloc (.cells #[.slice (some ⟨p, off, none⟩) 11 (c - (200 + 11 * k))] 22)) := (Below.refl _ _).alloc (Nat.le_refl _) _
      have hB2 : Below w.heap.size w (wr.alloc (.cells #[.slice (some ⟨p, off, none⟩) 11 (c - (200 + 11 * k))] 22)) := hbel.alloc hbel.size _
      have hst2 := hst.below hal
      have hrw2 := hrw.below hal
      have hbx : (wr.alloc (.cells #[.slice (some ⟨p, off, none⟩) 11 (c - (200 + 11 * k))] 22)).heap[wr.heap.size]? = some (.cells #[.slice (some ⟨p, off, none⟩) 11 (c - (200 + 11 * k))] 22 (0, 0)) := heap_alloc_new wr _
      go_wp2_with fail
      generalize hcc : c - (200 + 11 * k) = cc at *
      have hc8 : 8 ≤ cc := by omega
      generalize wr.alloc (.cells #[.slice (some ⟨p, off, none⟩) 11 cc] 22) = w2 at *
      generalize wr.heap.size = Bx at *
      clear hst hbel hal hrw hcc hpl
      refine (izero_any _ 11 _ (S k) _ (HLEN.out k hlt) (by simp [maxLen]) hrw2).mono ?_
      rintro e w3 ⟨rfl, rfl⟩
      cases hz : zeroE (S k) with
      | true =>
        have hk0 : kindR leads S k = 0 := by unfold kindR; rw [if_pos hz]
        have e1 : faultsR leads S (k + 1) = faultsR leads S k := by rw [HSF.out, hk0]; simp [fltOf]
        have e2 : namesL leads S (k + 1) = namesL leads S k := by rw [HSN.out, hk0]; simp
        have hst3 : RSt w2 w.heap.size u4 u5 (faultsR leads S (k + 1)) (namesL leads S (k + 1)) := by rw [e1, e2]; exact hst2
        have HST := Hidden.mk hst3
        clear e1 e2 hst3 hst2 hz hk0
        go_wp2_with fail
        go_roundw
        case rel => exact ⟨k + 1, by omega, by go_num, hB2, HST.out⟩
        case measure => simp [intOf]; omega
      | false =>
        have HKIND : Hidden (kindR leads S k = if badR leads (S k) = true then 4 else if (namesL leads S k).any (fun x => nmR (S k) == x) = true then 5 else 6) := ⟨by
          rw [namesL_any]; unfold kindR; rw [hz]; simp⟩
        have FIN4 : Hidden (badR leads (S k) = true → faultsR leads S (k + 1) = faultsR leads S k ++ [⟨4, k⟩] ∧ namesL leads S (k + 1) = namesL leads S k) := ⟨fun hb => ⟨by rw [HSF.out, HKIND.out, if_pos hb]; simp [fltOf], by rw [HSN.out, HKIND.out, if_pos hb]; simp⟩⟩
        have FIN5 : Hidden (badR leads (S k) = false → (namesL leads S k).any (fun x => nmR (S k) == x) = true → faultsR leads S (k + 1) = faultsR leads S k ++ [⟨5, k⟩] ∧ namesL leads S (k + 1) = namesL leads S k) := ⟨fun hb ha => ⟨by rw [HSF.out, HKIND.out, hb, ha]; simp [fltOf], by rw [HSN.out, HKIND.out, hb, ha]; simp⟩⟩
        have FIN6 : Hidden (badR leads (S k) = false → (namesL leads S k).any (fun x => nmR (S k) == x) = false → faultsR leads S (k + 1) = faultsR leads S k ∧ namesL leads S (k + 1) = namesL leads S k ++ [nmR (S k)]) := ⟨fun hb ha => ⟨by rw [HSF.out, HKIND.out, hb, ha]; simp [fltOf], by rw [HSN.out, HKIND.out, hb, ha]; simp⟩⟩
        have y0 : w2.cell? ⟨Bx, 0, none⟩ = some (.slice (some ⟨p, off, none⟩) 11 cc) := by simp [World.cell?, hbx]
        have hltx : Bx < w2.heap.size := (Array.getElem?_eq_some_iff.1 hbx).1
        clear hz HKIND
        go_wp2_with fail
        refine (getName_any (some ⟨p, off, none⟩) cc ((S k).take 8) w2 (by simp [HLEN.out k hlt]) hc8 (hrw2.take 8 (by rw [HLEN.out k hlt]; omega))).mono ?_
        rintro e w3 ⟨he, hb3⟩
        have hB3 := hB2.trans (hb3.mono hB2.size)
        have hst3 := hst2.below hb3
        have hrw3 := hrw2.below hb3
        have hbx3 := (hb3.block Bx hltx).trans hbx
        have hltx3 : Bx < w3.heap.size := (Array.getElem?_eq_some_iff.1 hbx3).1
        have hcf := cfe_leads (fun x => x.1 == (((S k).getD 10 0).toNat : Int)) Ar nr cr L (.pointer (some ⟨Bx, 0, none⟩)) w3 HNR.out (by omega) (RdEs.belowB HRL.out hB3) (fun x _ W hW => leads1_any (S k) (HLEN.out k hlt) Bx p off cc x W (by have := (hW.block Bx hltx3).trans hbx3; simp [World.cell?, this]) (hrw3.below hW))
        rw [HLD.out] at hcf
        have HCF := Hidden.mk hcf
        have HLE := HLEN.out k hlt
        have q8 := hrw3.at_ 8 (by rw [HLE]; omega)
        have q9 := hrw3.at_ 9 (by rw [HLE]; omega)
        have g8 : (S k).getD 8 0 = (S k)[8]'(by rw [HLE]; omega) := by simp [HLE]
        have g9 : (S k).getD 9 0 = (S k)[9]'(by rw [HLE]; omega) := by simp [HLE]
        have z3 : w3.cell? ⟨Bx, 0, none⟩ = some (.slice (some ⟨p, off, none⟩) 11 cc) := by simp [World.cell?, hbx3]
        have HBAD : Hidden (badR leads (S k) = (!gotName ((S k).take 8) || (((S k)[8]'(by rw [HLE]; omega)).toNat : Int) != 0 || (((S k)[9]'(by rw [HLE]; omega)).toNat : Int) != 0 || !leads ((S k).getD 10 0))) := ⟨by
          unfold badR; rw [bv_bne, bv_bne, g8, g9]; rfl⟩
        have q8l := block_lt_of_cell q8
        generalize (S k)[8]'(by rw [HLE]; omega) = x8 at *
        generalize (S k)[9]'(by rw [HLE]; omega) = x9 at *
        generalize hld : leads ((S k).getD 10 0) = ld at *
        clear hB2 hst2 hb3 hbx hltx hrw2 hcf y0 HLE g8 g9 hrw3
        have HW4 : Hidden (∀ w4, Below w3.heap.size w3 w4 → Below w.heap.size w w4 ∧ RSt w4 w.heap.size u4 u5 (faultsR leads S k) (namesL leads S k) ∧ w4.cell? ⟨Bx, 0, none⟩ = some (.slice (some ⟨p, off, none⟩) 11 cc) ∧ w4.cell? ⟨p, off + 8, none⟩ = some (bv x8) ∧ w4.cell? ⟨p, off + 9, none⟩ = some (bv x9)) := ⟨fun w4 hb4 =>
          ⟨hB3.trans (hb4.mono hB3.size), hst3.below hb4, (hb4.cell (p := ⟨Bx, 0, none⟩) hltx3).trans z3, (hb4.cell (p := ⟨p, off + 8, none⟩) q8l).trans q8, (hb4.cell (p := ⟨p, off + 9, none⟩) q8l).trans q9⟩⟩
        clear hB3 hst3 z3 q8 q9 hbx3 hltx3 q8l
        cases hg : gotName ((S k).take 8) with
        | false =>
          rw [hg] at he
          simp only [Bool.false_eq_true, if_false] at he
          subst he
          go_wp2_with fail
          refine HCF.out.mono ?_
          rintro e w4 ⟨rfl, hb4⟩
          obtain ⟨hB4, hst4, z4, q8, q9⟩ := HW4.out w4 hb4
          clear hb4
          have HE := Hidden.mk (FIN4.out (by rw [HBAD.out]; simp [hg]))
          clear hg hld
          go_wp2_with (at_builtin; refine wpList_append_lies _ rfl (.tmp 51) (.tmp 54) _ rfl w.heap.size 200 i1 _ 2 16 Tryz.underlying90 hi1 hy0 hy1 hy2 rfl (by decide) u4 (faultsR leads S k).length ((faultsR leads S k).flatMap fcells) rfl (own_below hst4.f ((Below.refl _ _).alloc (Nat.le_refl _) _)) ⟨w4.heap.size, 0, none⟩ 1 1 [.int .i64 4, .int .i64 (k : Int)] rfl rfl (World.news_of_block (cs := #[.int .i64 4, .int .i64 (k : Int)]) (t := 200) (fr := (0, 0)) (heap_alloc_new w4 _)) (by simp [Value.oneCell']) (by omega) (by simp only [maxLen]; omega) (by omega) (by have := hB4.size; simp; omega) (w4.heap.size + 1) (by simp) ?_; intro gf capf w7 hown7 hg7 hat7 hlt7)
          have hgF := grown_trans' ((Below.refl _ _).alloc (Nat.le_refl _) _) hg7
          have hst7 := hst4.addF (x := ⟨4, k⟩) hgF hown7
          have hB7 : Below w.heap.size w w7 := hB4.grown hgF hB4.size (fun q hq => (hst4.f.lt q hq).1)
          clear hown7 hg7 hat7 hlt7 hgF hst4 hB4
          go_roundw
          case rel => exact ⟨k + 1, by omega, by go_num, hB7, by rw [HE.out.1, HE.out.2]; exact hst7⟩
          case measure => simp [intOf]; omega
        | true =>
          rw [hg] at he
          simp only [if_true] at he
          subst he
          go_wp2_with fail
          refine HCF.out.mono ?_
          rintro e w4 ⟨rfl, hb4⟩
          obtain ⟨hB4, hst4, z4, q8, q9⟩ := HW4.out w4 hb4
          clear hb4
          cases h8 : ((x8.toNat : Int) != 0) with
          | true =>
            have HE := Hidden.mk (FIN4.out (by rw [HBAD.out]; simp [h8]))
            go_wp2_with (at_builtin; refine wpList_append_lies _ rfl (.tmp 51) (.tmp 54) _ rfl w.heap.size 200 i1 _ 2 16 Tryz.underlying90 hi1 hy0 hy1 hy2 rfl (by decide) u4 (faultsR leads S k).length ((faultsR leads S k).flatMap fcells) rfl (own_below hst4.f ((Below.refl _ _).alloc (Nat.le_refl _) _)) ⟨w4.heap.size, 0, none⟩ 1 1 [.int .i64 4, .int .i64 (k : Int)] rfl rfl (World.news_of_block (cs := #[.int .i64 4, .int .i64 (k : Int)]) (t := 200) (fr := (0, 0)) (heap_alloc_new w4 _)) (by simp [Value.oneCell']) (by omega) (by simp only [maxLen]; omega) (by omega) (by have := hB4.size; simp; omega) (w4.heap.size + 1) (by simp) ?_; intro gf capf w7 hown7 hg7 hat7 hlt7)
            have hgF := grown_trans' ((Below.refl _ _).alloc (Nat.le_refl _) _) hg7
            have hst7 := hst4.addF (x := ⟨4, k⟩) hgF hown7
            have hB7 : Below w.heap.size w w7 := hB4.grown hgF hB4.size (fun q hq => (hst4.f.lt q hq).1)
            clear hown7 hg7 hat7 hlt7 hgF hst4 hB4
            go_roundw
            case rel => exact ⟨k + 1, by omega, by go_num, hB7, by rw [HE.out.1, HE.out.2]; exact hst7⟩
            case measure => simp [intOf]; omega
          | false =>
            cases h9 : ((x9.toNat : Int) != 0) with
            | true =>
              have HE := Hidden.mk (FIN4.out (by rw [HBAD.out]; simp [h9]))
              go_wp2_with (at_builtin; refine wpList_append_lies _ rfl (.tmp 51) (.tmp 54) _ rfl w.heap.size 200 i1 _ 2 16 Tryz.underlying90 hi1 hy0 hy1 hy2 rfl (by decide) u4 (faultsR leads S k).length ((faultsR leads S k).flatMap fcells) rfl (own_below hst4.f ((Below.refl _ _).alloc (Nat.le_refl _) _)) ⟨w4.heap.size, 0, none⟩ 1 1 [.int .i64 4, .int .i64 (k : Int)] rfl rfl (World.news_of_block (cs := #[.int .i64 4, .int .i64 (k : Int)]) (t := 200) (fr := (0, 0)) (heap_alloc_new w4 _)) (by simp [Value.oneCell']) (by omega) (by simp only [maxLen]; omega) (by omega) (by have := hB4.size; simp; omega) (w4.heap.size + 1) (by simp) ?_; intro gf capf w7 hown7 hg7 hat7 hlt7)
              have hgF := grown_trans' ((Below.refl _ _).alloc (Nat.le_refl _) _) hg7
              have hst7 := hst4.addF (x := ⟨4, k⟩) hgF hown7
              have hB7 : Below w.heap.size w w7 := hB4.grown hgF hB4.size (fun q hq => (hst4.f.lt q hq).1)
              clear hown7 hg7 hat7 hlt7 hgF hst4 hB4
              go_roundw
              case rel => exact ⟨k + 1, by omega, by go_num, hB7, by rw [HE.out.1, HE.out.2]; exact hst7⟩
              case measure => simp [intOf]; omega
            | false =>
              cases ld with
              | false =>
                have HE := Hidden.mk (FIN4.out (by rw [HBAD.out]; simp []))
                go_wp2_with (at_builtin; refine wpList_append_lies _ rfl (.tmp 51) (.tmp 54) _ rfl w.heap.size 200 i1 _ 2 16 Tryz.underlying90 hi1 hy0 hy1 hy2 rfl (by decide) u4 (faultsR leads S k).length ((faultsR leads S k).flatMap fcells) rfl (own_below hst4.f ((Below.refl _ _).alloc (Nat.le_refl _) _)) ⟨w4.heap.size, 0, none⟩ 1 1 [.int .i64 4, .int .i64 (k : Int)] rfl rfl (World.news_of_block (cs := #[.int .i64 4, .int .i64 (k : Int)]) (t := 200) (fr := (0, 0)) (heap_alloc_new w4 _)) (by simp [Value.oneCell']) (by omega) (by simp only [maxLen]; omega) (by omega) (by have := hB4.size; simp; omega) (w4.heap.size + 1) (by simp) ?_; intro gf capf w7 hown7 hg7 hat7 hlt7)
                have hgF := grown_trans' ((Below.refl _ _).alloc (Nat.le_refl _) _) hg7
                have hst7 := hst4.addF (x := ⟨4, k⟩) hgF hown7
                have hB7 : Below w.heap.size w w7 := hB4.grown hgF hB4.size (fun q hq => (hst4.f.lt q hq).1)
                clear hown7 hg7 hat7 hlt7 hgF hst4 hB4
                go_roundw
                case rel => exact ⟨k + 1, by omega, by go_num, hB7, by rw [HE.out.1, HE.out.2]; exact hst7⟩
                case measure => simp [intOf]; omega
              | true =>
                have HB := Hidden.mk (show badR leads (S k) = false by rw [HBAD.out, hg, h8, h9]; rfl)
                obtain ⟨A4, c4, hv4, hc4, hrd4⟩ := own_rdS hst4.n
                subst hv4
                have hct := containsS_any A4 (namesL leads S k).length c4 (namesL leads S k) (nmR (S k)) w4 rfl (by omega) hrd4
                have HCT := Hidden.mk hct
                clear hct hrd4
                go_wp2_with fail
                refine HCT.out.mono ?_
                rintro e w5 ⟨rfl, rfl⟩
                cases hany : (namesL leads S k).any (fun x => nmR (S k) == x) with
                | true =>
                  have HE := Hidden.mk (FIN5.out HB.out hany)
                  clear hany
                  go_wp2_with (at_builtin; refine wpList_append_lies _ rfl (.tmp 60) (.tmp 63) _ rfl w.heap.size 200 i1 _ 2 16 Tryz.underlying90 hi1 hy0 hy1 hy2 rfl (by decide) u4 (faultsR leads S k).length ((faultsR leads S k).flatMap fcells) rfl (own_below hst4.f ((Below.refl _ _).alloc (Nat.le_refl _) _)) ⟨w4.heap.size, 0, none⟩ 1 1 [.int .i64 5, .int .i64 (k : Int)] rfl rfl (World.news_of_block (cs := #[.int .i64 5, .int .i64 (k : Int)]) (t := 200) (fr := (0, 0)) (heap_alloc_new w4 _)) (by simp [Value.oneCell']) (by omega) (by simp only [maxLen]; omega) (by omega) (by have := hB4.size; simp; omega) (w4.heap.size + 1) (by simp) ?_; intro gf capf w7 hown7 hg7 hat7 hlt7)
                  have hgF := grown_trans' ((Below.refl _ _).alloc (Nat.le_refl _) _) hg7
                  have hst7 := hst4.addF (x := ⟨5, k⟩) hgF hown7
                  have hB7 : Below w.heap.size w w7 := hB4.grown hgF hB4.size (fun q hq => (hst4.f.lt q hq).1)
                  clear hown7 hg7 hat7 hlt7 hgF hst4 hB4
                  go_roundw
                  case rel => exact ⟨k + 1, by omega, by go_num, hB7, by rw [HE.out.1, HE.out.2]; exact hst7⟩
                  case measure => simp [intOf]; omega
                | false =>
                  have HE := Hidden.mk (FIN6.out HB.out hany)
                  clear hany
                  go_wp2_with (at_builtin; refine wpList_append_lies _ rfl (.tmp 28) (.tmp 30) _ rfl w.heap.size 9 i2 _ 1 16 Tryz.underlying177 hi2 hx0 hx1 hx2 rfl (by decide) (.slice A4 (namesL leads S k).length c4) (namesL leads S k).length ((namesL leads S k).map fun x => sv x) rfl (own_below hst4.n ((Below.refl _ _).alloc (Nat.le_refl _) _)) ⟨w4.heap.size, 0, none⟩ 1 1 [sv (nmR (S k))] rfl rfl (World.news_of_block (cs := #[sv (nmR (S k))]) (t := 9) (fr := (0, 0)) (heap_alloc_new w4 _)) (by simp [Value.oneCell']) (by omega) (by simp only [maxLen]; omega) (by omega) (by have := hB4.size; simp; omega) (w4.heap.size + 1) (by simp) ?_; intro gf capf w7 hown7 hg7 hat7 hlt7)
                  have hgF := grown_trans' ((Below.refl _ _).alloc (Nat.le_refl _) _) hg7
                  have hst7 := hst4.addN (x := nmR (S k)) hgF hown7
                  have hB7 : Below w.heap.size w w7 := hB4.grown hgF hB4.size (fun q hq => (hst4.n.lt q hq).1)
                  clear hown7 hg7 hat7 hlt7 hgF hst4 hB4
                  go_roundw
                  case rel => exact ⟨k + 1, by omega, by go_num, hB7, by rw [HE.out.1, HE.out.2]; exact hst7⟩
                  case measure => simp [intOf]; omega
    · obtain rfl : k = 8 := by omega
      go_wp2_with fail
      go_ret
      exact ⟨u4, rfl, hst.f, hbel⟩
end Go.Proofs.YtbnobjlphmkgeaaGreatDoor
/- The contracts of image.Entries, Roots and Drop, and of image.Get where there is none. -/
namespace Go.Proofs.YtbnobjlphmkgeaaGreatDoor
open Go.RowKit

/-- the entries of an image -/
def entriesL (l : Bytes) : List (Int × Bytes) := entsL (fun k => hasE (rawE l k)) (rawE l) 40
set_option maxRecDepth 100000 in
theorem ientries_ok (A : Option Addr) (n c : Nat) (l : Bytes) (w : World) (hn : l.length = n) (hr : rightB n = true) (hnc : n ≤ c) (hrd : Rd w A l) :
    Calls Tryz.prog 135 #[.slice A n c] w fun e w' => ∃ v, e = .returned (.tuple #[v, .nilIface]) ∧ w'.ownsRow w.heap.size 66 4 v (entriesL l).length ((entriesL l).flatMap ecells) ∧ Below w.heap.size w w' := by
  have hnb := rightB_true.1 hr
  obtain ⟨i2, hi2, hx0, hx1, hx2⟩ := info_parts entry_info
  have HF : Hidden (∀ k : Nat, k < 40 → ∀ W, Below w.heap.size w W → Calls Tryz.prog 145 #[.slice A n c, .int .i64 ((k : Int) + 1)] W fun e w' => e = .returned (.tuple #[entV ((k : Int) + 1) (rAt (rawE l k)) (rLen (rawE l k)) (rTag (rawE l k)), .bool (hasE (rawE l k))]) ∧ Below W.heap.size W w') :=
    ⟨fun k hk W hW => find_ok A n c l k W hn (by omega) hnc (hrd.below hW) hk⟩
  have HL : Hidden (entriesL l = entsL (fun k => hasE (rawE l k)) (rawE l) 40) := ⟨rfl⟩
  generalize rawE l = R at *
  clear hrd hn
  go_enter Tryz.func135, Tryz.ntmps135
  go_wp2_with fail
  refine (check_ok A n c 1 _ hr (by decide)).mono ?_
  rintro e w1 ⟨rfl, rfl⟩
  go_wp2_with fail
  go_loopg [5, 6] 40 (fun m v h wr => ∃ k : Nat, k ≤ 40 ∧ m = 40 - k ∧ h = .int .i64 ((k : Int) + 1) ∧ Below w.heap.size w wr ∧ wr.ownsRow w.heap.size 66 4 v (entsL (fun k => hasE (R k)) R k).length ((entsL (fun k => hasE (R k)) R k).flatMap ecells))
  case atStart => exact ⟨0, by omega, rfl, rfl, Below.refl _ _, World.ownsRow_nil _ _ _ _⟩
  case round =>
    obtain ⟨k, hk, rfl, rfl, hbel, hown⟩ := hrel
    by_cases hlt : k < 40
    · have k0 : ((k : Int) + 1) ≤ 40 := by omega
      have s1 : IntKind.i64.wrap ((k : Int) + 1 + 1) = (k : Int) + 1 + 1 := IntWalk.i64_in _ (by omega)
      have hll := entsL_len (fun k => hasE (R k)) R k
      have HS := Hidden.mk (entsL_succ (fun k => hasE (R k)) R k)
      have HG := Hidden.mk (HF.out k hlt wr hbel)
      have HC : Hidden (ecells (((k : Int) + 1), R k) = [.int .i64 ((k : Int) + 1), .int .i64 (rAt (R k)), .int .i64 (rLen (R k)), .int .i64 (rTag (R k))]) := ⟨rfl⟩
      generalize entsL (fun k => hasE (R k)) R k = L at *
      go_wp2_with fail
      refine HG.out.mono ?_
      rintro e w1 ⟨rfl, hb1⟩
      generalize (rAt (R k) : Int) = a1 at *
      generalize (rLen (R k) : Int) = a2 at *
      generalize rTag (R k) = a3 at *
      have hB1 := hbel.trans (hb1.mono hbel.size)
      have hown1 := own_below hown hb1
      have hal : Below w1.heap.size w1 (w1.alloc (.cells #[.int .i64 ((k : Int) + 1), .int .i64 a1, .int .i64 a2, .int .i64 a3] 66)) := (Below.refl _ _).alloc (Nat.le_refl _) _
      have hB2 : Below w.heap.size w (w1.alloc (.cells #[.int .i64 ((k : Int) + 1), .int .i64 a1, .int .i64 a2, .int .i64 a3] 66)) := hB1.alloc hB1.size _
      have hown2 := own_below hown1 hal
      have hbx : (w1.alloc (.cells #[.int .i64 ((k : Int) + 1), .int .i64 a1, .int .i64 a2, .int .i64 a3] 66)).heap[w1.heap.size]? = some (.cells #[.int .i64 ((k : Int) + 1), .int .i64 a1, .int .i64 a2, .int .i64 a3] 66 (0, 0)) := heap_alloc_new w1 _
      clear hal hown hown1 hbel hB1 hb1
      cases hE : hasE (R k) with
      | false =>
        rw [hE] at HS
        go_wp2_with fail
        generalize w1.alloc (.cells #[.int .i64 ((k : Int) + 1), .int .i64 a1, .int .i64 a2, .int .i64 a3] 66) = w2 at *
        go_roundg (40 - (k + 1))
        case measure => omega
        case rel => exact ⟨k + 1, by omega, rfl, by go_num, hB2, by rw [HS.out]; simpa using hown2⟩
      | true =>
        rw [hE] at HS
        clear hE hbx
        have hnb : ((w1.alloc (.cells #[.int .i64 ((k : Int) + 1), .int .i64 a1, .int .i64 a2, .int .i64 a3] 66)).alloc (.cells #[.int .i64 ((k : Int) + 1), .int .i64 a1, .int .i64 a2, .int .i64 a3] 66)).heap[w1.heap.size + 1]? = some (.cells #[.int .i64 ((k : Int) + 1), .int .i64 a1, .int .i64 a2, .int .i64 a3] 66) := by
          have := heap_alloc_new (w1.alloc (.cells #[.int .i64 ((k : Int) + 1), .int .i64 a1, .int .i64 a2, .int .i64 a3] 66)) (.cells #[.int .i64 ((k : Int) + 1), .int .i64 a1, .int .i64 a2, .int .i64 a3] 66)
          rwa [World.size_alloc] at this
        have HNB := Hidden.mk hnb
        have HOW := Hidden.mk hown2
        have HBB := Hidden.mk hB2
        clear hnb hown2 hB2
        go_wp2_with (at_builtin; refine wpList_append_lies _ rfl (.tmp 25) (.tmp 27) _ rfl w.heap.size 66 i2 _ 4 32 Tryz.underlying141 hi2 hx0 hx1 hx2 rfl (by decide) u5 L.length (L.flatMap ecells) rfl (own_below HOW.out ((Below.refl _ _).alloc (Nat.le_refl _) _)) ⟨w1.heap.size + 1, 0, none⟩ 1 1 [.int .i64 ((k : Int) + 1), .int .i64 a1, .int .i64 a2, .int .i64 a3] rfl rfl (World.news_of_block (cs := #[.int .i64 ((k : Int) + 1), .int .i64 a1, .int .i64 a2, .int .i64 a3]) (t := 66) (fr := (0, 0)) HNB.out) (by simp [Value.oneCell']) (by omega) (by simp only [maxLen]; omega) (by omega) (by have := HBB.out.size; simp at this ⊢; omega) (w1.heap.size + 2) (by simp) ?_; intro g8 cap8 w8 hown8 hg8 hat8 hlt8)
        have hown2 := HOW.out
        have hB2 := HBB.out
        have hgW := grown_trans' ((Below.refl _ _).alloc (Nat.le_refl _) _) hg8
        have hB8 : Below w.heap.size w w8 := hB2.grown hgW hB2.size (fun q hq => (hown2.lt q hq).1)
        clear hown2 hB2 hg8 hgW hat8 hlt8
        go_roundg (40 - (k + 1))
        case measure => omega
        case rel => exact ⟨k + 1, by omega, rfl, by go_num, hB8, by rw [HS.out]; simpa [HC.out] using hown8⟩
    · obtain rfl : k = 40 := by omega
      go_wp2_with fail
      go_ret2
      exact ⟨_, rfl, by rw [HL.out]; exact hown, hbel⟩

/-- a root: its name, its handle -/
def rootP (r : Bytes) : Bytes × Nat := (if gotName (r.take 8) = true then nmR r else [], (r.getD 10 0).toNat)
def rootsF (S : Nat → Bytes) (m : Nat) : List (Bytes × Nat) := ((List.range m).filter fun i => !zeroE (S i)).map fun i => rootP (S i)
def rootsL (l : Bytes) : List (Bytes × Nat) := rootsF (rawR l) 8
theorem rootsF_succ (S : Nat → Bytes) (m : Nat) : rootsF S (m + 1) = rootsF S m ++ (if zeroE (S m) = true then [] else [rootP (S m)]) := by
  unfold rootsF
  rw [List.range_succ, List.filter_append, List.map_append]
  congr 1
  cases h : zeroE (S m) <;> simp [h]
theorem rootsF_len (S : Nat → Bytes) (m : Nat) : (rootsF S m).length ≤ m := by
  unfold rootsF
  rw [List.length_map]
  have := List.length_filter_le (fun i => !zeroE (S i)) (List.range m)
  rwa [List.length_range] at this
def rcells (x : Bytes × Nat) : List Value := [sv x.1, .int .i64 x.2]
theorem root_info : (Tryz.prog.info? 128).map (fun i => (i.zero, i.size, i.bytes)) = some (some (.agg #[.string ByteArray.empty, .int .i64 0]), 2, 24) := by kernel_rfl
set_option maxRecDepth 100000 in
theorem iroots_ok (A : Option Addr) (n c : Nat) (l : Bytes) (w : World) (hn : l.length = n) (hr : rightB n = true) (hnc : n ≤ c) (hrd : Rd w A l) :
    Calls Tryz.prog 137 #[.slice A n c] w fun e w' => ∃ v, e = .returned (.tuple #[v, .nilIface]) ∧ w'.ownsRow w.heap.size 128 2 v (rootsL l).length ((rootsL l).flatMap rcells) ∧ Below w.heap.size w w' := by
  have hnb := rightB_true.1 hr
  obtain ⟨i2, hi2, hx0, hx1, hx2⟩ := info_parts root_info
  have HRAW : Hidden (∀ k : Nat, k < 8 → ∀ W, Below w.heap.size w W → Rd W (A.map (·.add (200 + 11 * k))) (rawR l k)) := ⟨fun k hk W hW => rawR_rd (hrd.below hW) k hk (by omega)⟩
  have HLEN : Hidden (∀ k : Nat, k < 8 → (rawR l k).length = 11) := ⟨fun k hk => rawR_len l k hk (by omega)⟩
  have HL : Hidden (rootsL l = rootsF (rawR l) 8) := ⟨rfl⟩
  generalize rawR l = S at *
  clear hrd hn
  go_enter Tryz.func137, Tryz.ntmps137
  go_wp2_with fail
  refine (check_ok A n c 1 _ hr (by decide)).mono ?_
  rintro e w1 ⟨rfl, rfl⟩
  go_wp2_with fail
  go_loopg [5, 15] 8 (fun m v i wr => ∃ k : Nat, k ≤ 8 ∧ m = 8 - k ∧ i = .int .i64 (k : Int) ∧ Below w.heap.size w wr ∧ wr.ownsRow w.heap.size 128 2 v (rootsF S k).length ((rootsF S k).flatMap rcells))
  case atStart => exact ⟨0, by omega, rfl, rfl, Below.refl _ _, World.ownsRow_nil _ _ _ _⟩
  case round =>
    obtain ⟨k, hk, rfl, rfl, hbel, hown⟩ := hrel
    by_cases hlt : k < 8
    · have k0 : (k : Int) < 8 := by omega
      have s1 : IntKind.i64.wrap ((k : Int) + 1) = (k : Int) + 1 := IntWalk.i64_in _ (by omega)
      have hll := rootsF_len S k
      have HS := Hidden.mk (rootsF_succ S k)
      have hrw := HRAW.out k hlt wr hbel
      have hlen := HLEN.out k hlt
      obtain ⟨p, off, hA, hpl⟩ := hrw.lt (by omega)
      rw [hA] at hrw
      have HA := Hidden.mk hA
      have q10 := hrw.at_ 10 (by omega)
      have g10 : (S k).getD 10 0 = (S k)[10]'(by omega) := by simp [hlen]
      have HP : Hidden (rootP (S k) = (if gotName ((S k).take 8) = true then nmR (S k) else [], ((S k)[10]'(by omega)).toNat)) := ⟨by unfold rootP; rw [g10]⟩
      have HLK := Hidden.mk hlen
      generalize (S k)[10]'(by omega) = x10 at *
      generalize rootsF S k = L at *
      have w10 : IntKind.i64.wrap (x10.toNat : Int) = (x10.toNat : Int) := IntWalk.i64_in _ (by have := u8_lt x10; omega)
      generalize hcc : c - (200 + 11 * k) = cc at *
      have hc8 : 8 ≤ cc := by omega
      have HCC := Hidden.mk hcc
      clear hA g10 hcc hlen
      go_wp2_with fail
      refine (rawRoot_any A n c (k : Int) _ (by omega) (by omega) (by omega) hnc).mono ?_
      rintro e w1 ⟨rfl, rfl⟩
      rw [rootO_k, HA.out, HCC.out]
      go_wp2_with fail
      refine (izero_any _ 11 _ (S k) _ HLK.out (by simp [maxLen]) hrw).mono ?_
      rintro e w1 ⟨rfl, rfl⟩
      cases hz : zeroE (S k) with
      | true =>
        rw [hz] at HS
        clear hz q10
        go_wp2_with fail
        go_roundg (8 - (k + 1))
        case measure => omega
        case rel => exact ⟨k + 1, by omega, rfl, by go_num, hbel, by rw [HS.out]; simpa using hown⟩
      | false =>
        rw [hz] at HS
        clear hz
        go_wp2_with fail
        refine (getName_any (some ⟨p, off, none⟩) cc ((S k).take 8) _ (by simp [HLK.out]) hc8 (hrw.take 8 (by rw [HLK.out]; omega))).mono ?_
        rintro e w3 ⟨he, hb3⟩
        have hB3 := hbel.trans (hb3.mono hbel.size)
        have hown3 := own_below hown hb3
        have z10 := (hb3.cell (p := ⟨p, off + 10, none⟩) hpl).trans q10
        clear hb3 hbel hown q10 hpl hrw
        cases hg : gotName ((S k).take 8)
        all_goals
          rw [hg] at he HP
          first | simp only [Bool.false_eq_true, if_false] at he | simp only [if_true] at he
          subst he
          have HG := Hidden.mk hg
          clear hg
        case false =>
          go_wp2_with (at_builtin; refine wpList_append_lies _ rfl (.tmp 29) (.tmp 36) _ rfl w.heap.size 128 i2 _ 2 24 Tryz.underlying125 hi2 hx0 hx1 hx2 rfl (by decide) u5 L.length (L.flatMap rcells) rfl (own_below hown3 ((Below.refl _ _).alloc (Nat.le_refl _) _)) ⟨w3.heap.size, 0, none⟩ 1 1 [sv [], .int .i64 x10.toNat] rfl rfl (World.news_of_block (cs := #[sv [], .int .i64 x10.toNat]) (t := 128) (fr := (0, 0)) (heap_alloc_new w3 _)) (by simp [Value.oneCell']) (by omega) (by simp only [maxLen]; omega) (by omega) (by have := hB3.size; simp; omega) (w3.heap.size + 1) (by simp) ?_; intro g8 cap8 w8 hown8 hg8 hat8 hlt8)
          have hgW := grown_trans' ((Below.refl _ _).alloc (Nat.le_refl _) _) hg8
          have hB8 : Below w.heap.size w w8 := hB3.grown hgW hB3.size (fun q hq => (hown3.lt q hq).1)
          have hpp := HP.out
          simp only [Bool.false_eq_true, if_false] at hpp
          have HPP := Hidden.mk hpp
          clear hown3 hB3 hg8 hgW hat8 hlt8 hpp
          go_roundg (8 - (k + 1))
          case measure => omega
          case rel => exact ⟨k + 1, by omega, rfl, by go_num, hB8, by rw [HS.out, HPP.out]; simpa [rcells] using hown8⟩
        case true =>
          have hpp := HP.out
          simp only [if_true] at hpp
          have HPP := Hidden.mk hpp
          have HNM : Hidden (nmR (S k) = nameAt ((S k).take 8)) := ⟨rfl⟩
          generalize nameAt ((S k).take 8) = nm at *
          clear hpp
          go_wp2_with (at_builtin; refine wpList_append_lies _ rfl (.tmp 29) (.tmp 36) _ rfl w.heap.size 128 i2 _ 2 24 Tryz.underlying125 hi2 hx0 hx1 hx2 rfl (by decide) u5 L.length (L.flatMap rcells) rfl (own_below hown3 ((Below.refl _ _).alloc (Nat.le_refl _) _)) ⟨w3.heap.size, 0, none⟩ 1 1 [sv nm, .int .i64 x10.toNat] rfl rfl (World.news_of_block (cs := #[sv nm, .int .i64 x10.toNat]) (t := 128) (fr := (0, 0)) (heap_alloc_new w3 _)) (by simp [Value.oneCell']) (by omega) (by simp only [maxLen]; omega) (by omega) (by have := hB3.size; simp; omega) (w3.heap.size + 1) (by simp) ?_; intro g8 cap8 w8 hown8 hg8 hat8 hlt8)
          have hgW := grown_trans' ((Below.refl _ _).alloc (Nat.le_refl _) _) hg8
          have hB8 : Below w.heap.size w w8 := hB3.grown hgW hB3.size (fun q hq => (hown3.lt q hq).1)
          clear hown3 hB3 hg8 hgW hat8 hlt8
          go_roundg (8 - (k + 1))
          case measure => omega
          case rel => exact ⟨k + 1, by omega, rfl, by go_num, hB8, by rw [HS.out, HPP.out, HNM.out]; simpa [rcells] using hown8⟩
    · obtain rfl : k = 8 := by omega
      go_wp2_with fail
      go_ret2
      exact ⟨_, rfl, by rw [HL.out]; exact hown, hbel⟩

theorem iget_e1 (A : Option Addr) (n c : Nat) (h : Int) (w : World) (hr : rightB n = true) (hh : handleB h = false) :
    Calls Tryz.prog 66 #[.slice A n c, .int .i64 h] w fun e w' => e = .returned (.tuple #[entV 0 0 0 0, .iface 111 (.int .i64 1)]) ∧ Below w.heap.size w w' := by
  have hW : Below w.heap.size w (w.alloc (.cells #[.int .i64 0, .int .i64 0, .int .i64 0, .int .i64 0] 66)) := (Below.refl _ _).alloc (Nat.le_refl _) _
  go_enter Tryz.func66, Tryz.ntmps66
  go_wp2_with fail
  refine (check_e1 A n c h _ hr hh).mono ?_
  rintro e w1 ⟨rfl, rfl⟩
  go_wp2_with fail
  refine bodyPost_ret (v := .tuple #[entV 0 0 0 0, .iface 111 (.int .i64 1)]) ?_ rfl ?_
  · rw [results_cell_tmp rfl]
    go_simp
  · exact ⟨rfl, hW⟩
end Go.Proofs.YtbnobjlphmkgeaaGreatDoor
/- The contracts of the reference's Get, Put, Name, NameBytes and ReadName. -/
namespace Go.Proofs.YtbnobjlphmkgeaaGreatDoor
open Go.RowKit

end Go.Proofs.YtbnobjlphmkgeaaGreatDoor
/- The contract of the reference's Put. -/
namespace Go.Proofs.YtbnobjlphmkgeaaGreatDoor
open Go.RowKit

end Go.Proofs.YtbnobjlphmkgeaaGreatDoor
/- The contract of the reference's Make. -/
namespace Go.Proofs.YtbnobjlphmkgeaaGreatDoor
open Go.RowKit

end Go.Proofs.YtbnobjlphmkgeaaGreatDoor
/- The contracts of the reference's Name, NameBytes and ReadName. -/
namespace Go.Proofs.YtbnobjlphmkgeaaGreatDoor
open Go.RowKit

end Go.Proofs.YtbnobjlphmkgeaaGreatDoor
/- The reference on images: Image, Handle, Zero, RootAt, Entry, Wipe. -/
namespace Go.Proofs.YtbnobjlphmkgeaaGreatDoor
open Go.RowKit

end Go.Proofs.YtbnobjlphmkgeaaGreatDoor
/- The reference on images: copied, Wipe. -/
namespace Go.Proofs.YtbnobjlphmkgeaaGreatDoor
open Go.RowKit

end Go.Proofs.YtbnobjlphmkgeaaGreatDoor
/- The reference's device in memory: what lies where; step, Fail. -/
namespace Go.Proofs.YtbnobjlphmkgeaaGreatDoor
open Go.RowKit Go.Maps Go.ChangeMaps

/-- where it lies -/
structure RLay where
  gs : Nat
  cs : Nat
  vl : Value
  sb : Nat → Nat
  sc : Nat → Nat
  mb : Nat → Nat
  mc : Nat → Nat
section
variable {w w' : World} {F F' : Nat → Prop} {d : Nat} {D : Dv} {Y : RLay}
end
end Go.Proofs.YtbnobjlphmkgeaaGreatDoor
/- Package view: Write where there are bytes to lay. -/
namespace Go.Proofs.YtbnobjlphmkgeaaGreatDoor
open Go.RowKit Go.Maps Go.ChangeMaps

/-- how many numbers below 200 a set has -/
def cntS (S : Nat → Bool) : Nat := ((List.range 200).filter S).length
theorem len_eq_of_mem {a b : List Nat} (ha : a.Nodup) (hb : b.Nodup) (h : ∀ x, x ∈ a ↔ x ∈ b) : a.length = b.length :=
  List.Perm.length_eq ((List.perm_ext_iff_of_nodup ha hb).2 h)
theorem IM.cntS {P : Program} {K : TypeId} {w : World} {b cnt : Nat} {S : Nat → Bool} (h : IM P K natL w b (setF S) cnt) (hK : P.underlying K = some (.int .i64)) (hS : ∀ k, S k = true → k < 200) : cnt = cntS S := by
  obtain ⟨D, hown, hs, hnd, h1, h2⟩ := h.keys hK
  have hl : (intKeys D).length = cnt := by
    obtain ⟨L, hD, _⟩ := hown.entries (Go.Maps.int_keyed hK)
    subst hD
    rw [← hs]; simp [intKeys, Maps.size]
  have hm : ((intKeys D).map Int.toNat).Nodup := by
    refine List.pairwise_map.2 (hnd.imp_of_mem fun {a b} ha hb hne e => hne ?_)
    obtain ⟨x, rfl, _⟩ := h1 a ha
    obtain ⟨y, rfl, _⟩ := h1 b hb
    simp only [Int.toNat_natCast] at e
    rw [e]
  have hsome : ∀ k, (setF S k).isSome = true ↔ S k = true := fun k => by
    unfold setF
    by_cases hk : S k = true
    · rw [if_pos hk]; simp [hk]
    · rw [if_neg hk]; simp [hk]
  have := len_eq_of_mem hm (List.nodup_range.filter S) (fun x => by
    rw [List.mem_map, List.mem_filter, List.mem_range]
    constructor
    · rintro ⟨y, hy, rfl⟩
      obtain ⟨z, rfl, hz⟩ := h1 y hy
      rw [Int.toNat_natCast]
      exact ⟨hS z ((hsome z).1 hz), (hsome z).1 hz⟩
    · rintro ⟨-, hx⟩
      exact ⟨(x : Int), h2 x ((hsome x).2 hx), by simp⟩)
  rw [List.length_map, hl] at this
  exact this
section
variable {w : World} {G : Nat → Prop} {v p : Nat} {K N : Bytes} {S : Nat → Bool}
end
end Go.Proofs.YtbnobjlphmkgeaaGreatDoor
/- Package view: Write of whatever, in one form. -/
namespace Go.Proofs.YtbnobjlphmkgeaaGreatDoor
open Go.RowKit Go.Maps Go.ChangeMaps

section
variable {w : World} {G : Nat → Prop} {v p : Nat} {K N : Bytes} {S : Nat → Bool}
end
end Go.Proofs.YtbnobjlphmkgeaaGreatDoor
/- Pages: a commit of pages that are right, while the power stays, says nothing. No program in sight. -/
namespace Go.Proofs.YtbnobjlphmkgeaaGreatDoor
open Go.RowKit

theorem chkL_ok {n : Nat} : ∀ (m : List (Int × Bytes)) (seen : List Int), (∀ x ∈ m, 0 ≤ x.1 ∧ x.1 < n ∧ x.2.length = 32) → (m.map (·.1)).Nodup → (∀ x ∈ m, x.1 ∉ seen) → chkL n seen m = 0
  | [], _, _, _, _ => rfl
  | x :: r, seen, h, hn, hs => by
    obtain ⟨h1, h2, h3⟩ := h x List.mem_cons_self
    unfold chkL
    rw [if_neg (by omega), if_neg (by omega), if_neg (hs x List.mem_cons_self)]
    rw [List.map_cons, List.nodup_cons] at hn
    refine chkL_ok r _ (fun y hy => h y (List.mem_cons_of_mem _ hy)) hn.2 (fun y hy hm => ?_)
    rcases List.mem_append.1 hm with hm | hm
    · exact hs y (List.mem_cons_of_mem _ hy) hm
    · have := List.mem_singleton.1 hm
      exact hn.1 (this ▸ List.mem_map_of_mem hy)
theorem chkP_ok {n : Nat} {m : List (Int × Bytes)} (h : ChkOk n m) : chkP n m = 0 := by
  unfold chkP
  rw [if_neg (by have := h.len; omega)]
  exact chkL_ok m [] h.each h.nd (fun x _ hx => by cases hx)
/-- up, and of so many sectors -/
def UpN (k : Nat) (D : Dv) : Prop := Up D ∧ D.S.length = k
theorem wr_zero {k : Nat} {D : Dv} (h : UpN k D) {i : Int} {b : Bytes} (h0 : 0 ≤ i) (h1 : i < k) (hb : b.length = 32) : (wrD D i b).2 = 0 ∧ UpN k (wrD D i b).1 := by
  have hw : wrD D i b = (stepD (putD D i.toNat b), 0) := by
    unfold wrD
    rw [if_neg (by rw [h.2]; omega), if_neg (by omega), if_neg (by rw [h.1.2]; decide), if_neg (by rw [h.1.1]; decide)]
  refine ⟨by rw [hw], (wrD_stays h.1 i b).1, ?_⟩
  rw [hw]; exact h.2
theorem fl_zero {k : Nat} {D : Dv} (h : UpN k D) : (flD D).2 = 0 ∧ UpN k (flD D).1 := by
  obtain ⟨a, b⟩ := flD_stays h.1
  refine ⟨b, a, ?_⟩
  have e : flD D = (flushD (stepD D), 0) := by
    unfold flD
    rw [if_neg (by rw [h.1.2]; decide), if_neg (by rw [h.1.1]; decide)]
  rw [e]
  show ((List.range _).map _).length = k
  rw [List.length_map, List.length_range]
  exact h.2
theorem run_zero {X : Type} {f : Nat → X → Dv → Dv × Nat} {P : Dv → Prop} {Q : Nat → X → Prop} (hf : ∀ k x D, P D → Q k x → (f k x D).2 = 0 ∧ P (f k x D).1) : ∀ (l : List X) (k : Nat) (D : Dv), P D → (∀ j (hj : j < l.length), Q (k + j) l[j]) → (runE f k l D).2 = 0 ∧ P (runE f k l D).1
  | [], _, _, h, _ => ⟨rfl, h⟩
  | x :: r, k, D, h, hq => by
    rw [runE_cons]
    obtain ⟨h1, h2⟩ := hf k x D h (hq 0 (by simp))
    rw [if_pos h1]
    refine run_zero hf r (k + 1) _ h2 (fun j hj => ?_)
    have := hq (j + 1) (by simpa using hj)
    rw [show k + 1 + j = k + (j + 1) by omega]
    exact this
theorem then_zero {P : Dv → Prop} {a : Dv × Nat} {g : Dv → Dv × Nat} (h : a.2 = 0 ∧ P a.1) (hg : ∀ D, P D → (g D).2 = 0 ∧ P (g D).1) : (andThen a g).2 = 0 ∧ P (andThen a g).1 := by
  unfold andThen
  rw [if_pos h.1]
  exact hg _ h.2
theorem commit_zero {D : Dv} (h : Up D) (st n : Nat) (m : List (Int × Bytes)) (hn : n + 48 ≤ D.S.length) (hc : ChkOk n m) (hst : st < 4294967295) : (commitP st n m D).2 = 0 := by
  unfold commitP
  rw [chkP_ok hc, if_neg (by omega), if_neg (by rw [h.2]; decide)]
  by_cases hm : m.length = 0
  · rw [if_pos hm]
  · rw [if_neg hm, if_neg (by omega)]
    have hl := hc.len
    have h0 : UpN D.S.length D := ⟨h, rfl⟩
    refine (then_zero (P := UpN D.S.length) (then_zero (then_zero (then_zero (then_zero (run_zero (P := UpN D.S.length) (Q := fun (k : Nat) (x : Int × Bytes) => k < 23 ∧ x.2.length = 32) (fun k x D' hD hq => ?_) m 0 D h0 (fun j hj => ⟨by omega, (hc.each _ (List.getElem_mem hj)).2.2⟩)) (fun D' hD => fl_zero hD)) (fun D' hD => ?_)) (fun D' hD => fl_zero hD)) (fun D' hD => run_zero (P := UpN D.S.length) (Q := fun (_ : Nat) (x : Int × Bytes) => 0 ≤ x.1 ∧ x.1 < (n : Int) ∧ x.2.length = 32) (fun k x D'' hD' hq => ?_) m 0 D' hD (fun j hj => hc.each _ (List.getElem_mem hj)))) (fun D' hD => fl_zero hD)).1
    · exact wr_zero hD (by unfold areaP; omega) (by unfold areaP; omega) hq.2
    · exact wr_zero hD (by omega) (by omega) (makeB_len _ _ (by simp [numsB]; omega))
    · exact wr_zero hD' (by omega) (by omega) hq.2.2
end Go.Proofs.YtbnobjlphmkgeaaGreatDoor
/- Package view: Read. -/
namespace Go.Proofs.YtbnobjlphmkgeaaGreatDoor
open Go.RowKit Go.Maps Go.ChangeMaps

section
variable {w : World} {G : Nat → Prop} {v p cnt : Nat} {K N : Bytes} {f : Nat → Option Value}
end
end Go.Proofs.YtbnobjlphmkgeaaGreatDoor
/- ViewParts: the plain law: written in parts is written at once. -/
namespace Go.Proofs.YtbnobjlphmkgeaaGreatDoor
open Go.RowKit Go.Maps Go.ChangeMaps

section
variable {N : Bytes} {x k : Nat} {b : Bytes}
end
end Go.Proofs.YtbnobjlphmkgeaaGreatDoor
/- Slices of the call's own, element by element. -/
namespace Go.Proofs.YtbnobjlphmkgeaaGreatDoor
open Go.RowKit

theorem flat_at {X : Type} (f : X → List Value) (C : Nat) (hC : ∀ x, (f x).length = C) : ∀ (L : List X) (i : Nat) (h : i < L.length) (q : Nat), q < C → (L.flatMap f)[i * C + q]? = (f L[i])[q]?
  | [], i, h, _, _ => absurd h (by simp)
  | x :: r, 0, _, q, hq => by
    rw [List.flatMap_cons, Nat.zero_mul, Nat.zero_add, List.getElem?_append_left (by rw [hC]; exact hq)]; rfl
  | x :: r, i + 1, h, q, hq => by
    have hx := hC x
    rw [List.flatMap_cons, List.getElem?_append_right (by rw [hx, Nat.succ_mul]; omega), hx, show (i + 1) * C + q - C = i * C + q by rw [Nat.succ_mul]; omega]
    exact flat_at f C hC r i (by simpa using h) q hq
section
variable {X : Type} {f : X → List Value} {C : Nat} {w : World} {base : Nat} {e : TypeId} {v : Value} {A : Option Addr} {n c : Nat} {L : List X}
theorem own_at (hC : ∀ x, (f x).length = C) (h : w.ownsRow base e C (.slice A n c) n (L.flatMap f)) (k : Nat) (hk : k < L.length) (h0 : 0 < n) :
    ∃ g off, A = some ⟨g, off, none⟩ ∧ base ≤ g ∧ g < w.heap.size ∧ ∀ q u, (f L[k])[q]? = some u → w.cell? ⟨g, off + k * C + q, none⟩ = some u := by
  rcases h.2 with ⟨he, hn0⟩ | ⟨g, cap, cur, he, hb, hh, _⟩
  · omega
  · injection he with he
    subst he
    refine ⟨g, 0, rfl, hb, (Array.getElem?_eq_some_iff.1 hh).1, fun q u hq => ?_⟩
    have hqC : q < C := by rw [← hC L[k]]; exact (List.getElem?_eq_some_iff.1 hq).1
    have := h.cells (g := g) rfl (k * C + q) u (by rw [flat_at f C hC L k hk q hqC]; exact hq)
    rw [Addr.add_lit] at this
    rw [Nat.add_assoc]
    exact this
theorem own_split (h : w.ownsRow base e C v n (L.flatMap f)) : ∃ A c, v = .slice A n c ∧ n ≤ c ∧ c ≤ maxLen := by
  rcases h.2 with ⟨rfl, rfl⟩ | ⟨g, cap, cur, rfl, _, hh, hc, hm, _⟩
  · exact ⟨none, 0, rfl, Nat.le_refl _, by simp [maxLen]⟩
  · exact ⟨_, cap, rfl, hc, hm⟩
theorem own_rdX3 (hC : ∀ x, (f x).length = C) (hn : L.length = n) (h : w.ownsRow base e C (.slice A n c) n (L.flatMap f)) : RdX f C w A L := fun i hi => by
  obtain ⟨g, off, hA, _, _, hc⟩ := own_at hC h i hi (by omega)
  exact ⟨g, off, hA, hc⟩
end
end Go.Proofs.YtbnobjlphmkgeaaGreatDoor
/- vaultsame.Ints of lists that are the same. -/
namespace Go.Proofs.YtbnobjlphmkgeaaGreatDoor
open Go.RowKit

def ncell (i : Nat) : List Value := [.int .i64 (i : Int)]
end Go.Proofs.YtbnobjlphmkgeaaGreatDoor
/- Package view: Cut. -/
namespace Go.Proofs.YtbnobjlphmkgeaaGreatDoor
open Go.RowKit Go.Maps Go.ChangeMaps

theorem page_info : (Tryz.prog.info? 89).map (fun i => (i.zero, i.size, i.bytes)) = some (some (.agg #[.int .i64 0, .slice none 0 0]), 2, 32) := by kernel_rfl
/-- pages cut out of bytes -/
def cutL (N : Bytes) (L : List Nat) : List (Int × Bytes) := L.map fun i : Nat => ((i : Int), (N.drop (i * 32)).take 32)
/-- pages that are the call's own -/
structure OwnPg (w0 w : World) (v : Value) (m : Nat) (X : List PgX) (l : List (Int × Bytes)) : Prop where
  len : X.length = m
  eq : pgs X = l
  own : w.ownsRow w0.heap.size 89 2 v m (X.flatMap pcells)
  body : ∀ x ∈ X, ∃ g, x.A = some ⟨g, 0, none⟩ ∧ w0.heap.size ≤ g ∧ Row w 5 g x.cap x.body ∧ v.ownBlock ≠ some g
  bel : Below w0.heap.size w0 w
set_option maxRecDepth 100000 in
theorem cut_ok (g n c : Nat) (N : Bytes) (B : Option Addr) (m cb : Nat) (L : List Nat) (w : World) (hN : N.length = n) (hn : n ≤ 6400) (hr : Row w 5 g c N) (hm : L.length = m) (hm2 : m ≤ 200) (hL : RdX ncell 1 w B L) (hin : ∀ i ∈ L, (i + 1) * 32 ≤ n) :
    Calls Tryz.prog 161 #[.slice (some ⟨g, 0, none⟩) n c, .slice B m cb] w fun e w' => ∃ v X, e = .returned v ∧ OwnPg w w' v m X (cutL N L) := by
  obtain ⟨i0, hi0, hz0, hz1, hz2⟩ := info_parts page_info
  have HR := Hidden.mk hr
  have HL := Hidden.mk hL
  have HM := Hidden.mk hm
  have HI := Hidden.mk hin
  have HNN := Hidden.mk hN
  have hcn := hr.le.1
  clear hr hL hm hin
  rw [hN] at hcn
  clear hN
  go_enter Tryz.func161, Tryz.ntmps161
  go_wp2_with fail
  go_loopg [4, 9] m (fun r v i wr => ∃ (k : Nat) (X : List PgX), k ≤ m ∧ r = m - k ∧ i = .int .i64 (k : Int) ∧ Hidden (OwnPg w wr v k X (cutL N (L.take k))))
  case atStart => exact ⟨0, [], by omega, rfl, rfl, ⟨rfl, rfl, World.ownsRow_nil _ _ _ _, (fun x hx => by cases hx), Below.refl _ _⟩⟩
  case round =>
    obtain ⟨k, X, hk, rfl, rfl, hst⟩ := hrel
    by_cases hlt : k < m
    · have hkl : k < L.length := by rw [HM.out]; exact hlt
      have k0 : (0 : Int) ≤ k := by omega
      have k1 : (k : Int) < m := by omega
      have s0 : IntKind.i64.wrap ((k : Int) + 1) = (k : Int) + 1 := IntWalk.i64_in _ (by omega)
      obtain ⟨pb, off, rfl, hc⟩ := HL.out k hkl
      have e0 := hc 0 _ rfl
      rw [Nat.add_zero, Nat.mul_one] at e0
      have c0 := (hst.out.bel.cell (p := ⟨pb, off + k, none⟩) (block_lt_of_cell e0)).trans e0
      have hin := HI.out L[k] (List.getElem_mem hkl)
      have HTK : Hidden (cutL N (L.take (k + 1)) = cutL N (L.take k) ++ [((L[k] : Int), (N.drop (L[k] * 32)).take 32)]) := ⟨by rw [List.take_succ_eq_append_getElem hkl]; unfold cutL; rw [List.map_append]; rfl⟩
      generalize L[k] = q at *
      have s1 : IntKind.i64.wrap ((q : Int) * 32) = (q : Int) * 32 := IntWalk.i64_in _ (by omega)
      have s2 : IntKind.i64.wrap ((q : Int) + 1) = (q : Int) + 1 := IntWalk.i64_in _ (by omega)
      have s3 : IntKind.i64.wrap (((q : Int) + 1) * 32) = ((q : Int) + 1) * 32 := IntWalk.i64_in _ (by omega)
      have hcut := fun W => run_cut g 0 n c (q * 32) ((q + 1) * 32) (by omega) (by omega) (by omega) W
      rw [show (((q * 32 : Nat)) : Int) = (q : Int) * 32 by omega, show ((((q + 1) * 32 : Nat)) : Int) = ((q : Int) + 1) * 32 by omega, show (q + 1) * 32 - q * 32 = 32 by omega, Nat.zero_add] at hcut
      have hrd := (HR.out.below hst.out.bel HR.out.lt).rd.cut (q * 32) 32 (by rw [HNN.out]; omega)
      rw [Option.map_some, Addr.add_lit, Nat.zero_add] at hrd
      have hbl : ((N.drop (q * 32)).take 32).length = 32 := by simp; have := HNN.out; omega
      have HC := Hidden.mk (clone_some ⟨g, q * 32, none⟩ 32 (c - q * 32) ((N.drop (q * 32)).take 32) wr hbl (by omega) hrd)
      have HS := Hidden.mk hst.out
      have HBL := Hidden.mk hbl
      generalize (N.drop (q * 32)).take 32 = bq at *
      clear hst e0 hc hin hrd hbl
      go_wp2_with fail
      refine HC.out.mono ?_
      rintro e w1 ⟨g1, cap1, rfl, hg1, hr1, hb1⟩
      have hown1 := own_below HS.out.own hb1
      have HB1 := Hidden.mk (HS.out.bel.trans (hb1.mono HS.out.bel.size))
      have HR1 := Hidden.mk (And.intro hg1 hr1)
      have hal := (Below.refl w1.heap.size w1).alloc (Nat.le_refl _) (.cells #[.int .i64 (q : Int), .slice (some ⟨g1, 0, none⟩) 32 cap1] 89)
      have hown2 := own_below hown1 hal
      have hsz : w.heap.size ≤ w1.heap.size + 1 := by have := HB1.out.size; omega
      have HX := Hidden.mk (And.intro hb1 hal)
      have HO1 := Hidden.mk hown1
      clear hg1 hr1 hb1 hal hown1 HC
      go_wp2_with (at_builtin; refine wpList_append_lies _ rfl (.tmp 13) (.tmp 24) _ rfl w.heap.size 89 i0 _ 2 32 Tryz.underlying72 hi0 hz0 hz1 hz2 rfl (by decide) u4 k (X.flatMap pcells) rfl hown2 ⟨w1.heap.size, 0, none⟩ 1 1 [.int .i64 (q : Int), .slice (some ⟨g1, 0, none⟩) 32 cap1] rfl rfl (World.news_of_block (cs := #[.int .i64 (q : Int), .slice (some ⟨g1, 0, none⟩) 32 cap1]) (t := 89) (fr := (0, 0)) (heap_alloc_new w1 _)) (by simp [Value.oneCell']) (by omega) (by simp only [maxLen]; omega) (by omega) (by simp; exact hsz) (w1.heap.size + 1) (by simp) ?_; intro g8 cap8 w8 hown8 hg8 hat8 hlt8)
      have HN : Hidden (OwnPg w w8 (.slice (some ⟨g8, 0, none⟩) (k + 1) cap8) (k + 1) (X ++ [⟨(q : Int), some ⟨g1, 0, none⟩, cap1, bq⟩]) (cutL N (L.take (k + 1)))) := ⟨by
        obtain ⟨hb1, hal⟩ := HX.out
        obtain ⟨hg1, hr1⟩ := HR1.out
        have hold : ∀ p, u4.ownBlock = some p → p < wr.heap.size := fun p hp => (HS.out.own.lt p hp).2
        have hne1 : u4.ownBlock ≠ some g1 := fun e => by have := hold _ e; omega
        have h8 : g8 < w1.heap.size → u4.ownBlock = some g8 := fun h => by
          rcases hat8 with h' | h'
          · exact h'
          · omega
        refine ⟨by rw [List.length_append, HS.out.len]; rfl, ?_, ?_, fun x hx => ?_, ?_⟩
        · rw [HTK.out, ← HS.out.eq]; unfold pgs; rw [List.map_append]; rfl
        · rw [List.flatMap_append]
          have : (([⟨(q : Int), some ⟨g1, 0, none⟩, cap1, bq⟩] : List PgX)).flatMap pcells = [.int .i64 (q : Int), .slice (some ⟨g1, 0, none⟩) 32 cap1] := by
            simp [pcells, HBL.out]
          rw [this]; exact hown8
        · rcases List.mem_append.1 hx with hx | hx
          · obtain ⟨g', e1, e2, e3, e4⟩ := HS.out.body x hx
            have l3 := e3.lt
            refine ⟨g', e1, e2, (((e3.below hb1 l3).below hal (Nat.lt_of_lt_of_le l3 hb1.size)).grown hg8 e4), fun e => ?_⟩
            obtain rfl : g8 = g' := by simpa [Value.ownBlock] using e
            have := hb1.size
            exact e4 (h8 (by omega))
          · obtain rfl := List.mem_singleton.1 hx
            refine ⟨g1, rfl, Nat.le_trans HS.out.bel.size hg1, (hr1.below hal hr1.lt).grown hg8 hne1, fun e => ?_⟩
            obtain rfl : g8 = g1 := by simpa [Value.ownBlock] using e
            exact hne1 (h8 hr1.lt)
        · refine (HB1.out.trans (hal.mono HB1.out.size)).grown hg8 (Nat.le_trans HB1.out.size hal.size) (fun p hp => (HS.out.own.lt p hp).1)⟩
      clear hown2 hsz hown8 hg8 hat8 hlt8 HX HO1 HS HR1 HB1
      go_roundg (m - (k + 1))
      case measure => omega
      case rel => exact ⟨k + 1, _, by omega, rfl, by go_num, HN⟩
    · obtain rfl : k = m := by omega
      have t5 : decide ((k : Int) < k) = false := by simp
      have HS := Hidden.mk hst.out
      clear hst
      go_wp2_with fail
      go_ret
      exact ⟨_, X, rfl, by have := HS.out; rwa [List.take_of_length_le (by rw [HM.out]; exact Nat.le_refl _)] at this⟩
end Go.Proofs.YtbnobjlphmkgeaaGreatDoor
/- Package view: Abort. -/
namespace Go.Proofs.YtbnobjlphmkgeaaGreatDoor
open Go.RowKit Go.Maps Go.ChangeMaps

section
variable {w : World} {G : Nat → Prop} {v p cnt : Nat} {K N : Bytes} {f : Nat → Option Value}
end
end Go.Proofs.YtbnobjlphmkgeaaGreatDoor
/- Package view: Commit. -/
namespace Go.Proofs.YtbnobjlphmkgeaaGreatDoor
open Go.RowKit Go.Maps Go.ChangeMaps

section
variable {w0 w : World} {F G : Nat → Prop} {v p d st n : Nat} {D : Dv} {K N : Bytes} {S : Nat → Bool}
theorem setF_some {S : Nat → Bool} {k : Nat} : (setF S k).isSome = true ↔ S k = true := by
  unfold setF
  by_cases hk : S k = true
  · rw [if_pos hk]; simp [hk]
  · rw [if_neg hk]; simp [hk]
theorem OwnPg.pgsR {w1 w2 : World} {A : Option Addr} {m c : Nat} {X : List PgX} {l : List (Int × Bytes)} (h : OwnPg w1 w2 (.slice A m c) m X l) (hF : ∀ q, F q → q < w1.heap.size) : PgsR w2 F A X where
  rd := own_rdX3 (f := pcells) (fun _ => rfl) h.len h.own
  na := fun hl ad e hf => by
    obtain ⟨g, off, hA, hb, -⟩ := own_at (f := pcells) (fun _ => rfl) h.own 0 hl (by have := h.len; omega)
    rw [e] at hA
    obtain rfl := Option.some.inj hA
    have := hF _ hf
    dsimp only at this
    omega
  body := fun x hx => by
    obtain ⟨g, e, hb, hr, -⟩ := h.body x hx
    rw [e]; exact hr.rd
  nb := fun x hx _ ad e hf => by
    obtain ⟨g, e', hb, hr, -⟩ := h.body x hx
    rw [e] at e'
    obtain rfl := Option.some.inj e'
    have := hF _ hf
    dsimp only at this
    omega
end
end Go.Proofs.YtbnobjlphmkgeaaGreatDoor
/- ViewBack: the plain law: pages of bytes, written, committed, opened. No program in sight. -/
namespace Go.Proofs.YtbnobjlphmkgeaaGreatDoor
open Go.RowKit Go.Maps Go.ChangeMaps

/-- a page of bytes -/
def pgB (N : Bytes) (k : Nat) : Bytes := (N.drop (k * 32)).take 32
theorem pgB_at {N : Bytes} {k j : Nat} (hj : j < 32) : (pgB N k)[j]? = N[k * 32 + j]? := by
  unfold pgB
  rw [List.getElem?_take, if_pos hj, List.getElem?_drop]
theorem pgB_len {N : Bytes} {n k : Nat} (h : N.length = 32 * n) (hk : k < n) : (pgB N k).length = 32 := by
  unfold pgB
  simp
  omega
theorem pgB_ext {a b : Bytes} {k : Nat} (h : ∀ j, j < 32 → a[k * 32 + j]? = b[k * 32 + j]?) : pgB a k = pgB b k := by
  apply List.ext_getElem?
  intro j
  by_cases hj : j < 32
  · rw [pgB_at hj, pgB_at hj, h j hj]
  · unfold pgB
    rw [List.getElem?_take, List.getElem?_take, if_neg hj, if_neg hj]
theorem eq_of_pages {a b : Bytes} {n : Nat} (ha : a.length = 32 * n) (hb : b.length = 32 * n) (h : ∀ k, k < n → pgB a k = pgB b k) : a = b := by
  apply List.ext_getElem?
  intro i
  by_cases hi : i < 32 * n
  · have h1 := congrArg (fun l => l[i % 32]?) (h (i / 32) (by omega))
    rw [pgB_at (by omega), pgB_at (by omega), show i / 32 * 32 + i % 32 = i by omega] at h1
    exact h1
  · rw [List.getElem?_eq_none (by omega), List.getElem?_eq_none (by omega)]
theorem allB_page {D : Dv} : ∀ (n k : Nat), (∀ i, i < n → (readD D (48 + i)).length = 32) → k < n → pgB (allB D n) k = readD D (48 + k)
  | 0, k, _, hk => by omega
  | n + 1, k, h, hk => by
    have hl := allB_len (D := D) n (fun i hi => h i (by omega))
    rw [allB_succ]
    by_cases hkn : k < n
    · rw [← allB_page n k (fun i hi => h i (by omega)) hkn]
      refine pgB_ext fun j hj => ?_
      rw [List.getElem?_append_left (by omega)]
    · obtain rfl : k = n := by omega
      have h32 := h k (by omega)
      unfold pgB
      rw [List.drop_append, List.drop_eq_nil_of_le (by omega), List.nil_append, hl, show k * 32 - 32 * k = 0 by omega, List.drop_zero, List.take_of_length_le (by omega)]
theorem keysS_cnt {S : Nat → Bool} {L : List Nat} (hk : KeysOf (setF S) L) (hS : ∀ k, S k = true → k < 200) : L.length = cntS S := by
  unfold cntS
  refine len_eq_of_mem (hk.up.imp (fun h => Nat.ne_of_lt h)) (List.nodup_range.filter S) fun x => ?_
  rw [hk.mem, setF_some, List.mem_filter, List.mem_range]
  exact ⟨fun h => ⟨hS x h, h⟩, fun h => h.2⟩
theorem cutL_ok {N : Bytes} {n : Nat} {L : List Nat} (hN : N.length = 32 * n) (hL : ∀ i ∈ L, i < n) (hn : L.Nodup) (hc : L.length ≤ 23) : ChkOk n (cutL N L) where
  len := by unfold cutL; rw [List.length_map]; exact hc
  each := fun x hx => by
    obtain ⟨i, hi, rfl⟩ := List.mem_map.1 hx
    have := hL i hi
    refine ⟨by simp, by simp; omega, pgB_len hN this⟩
  nd := by
    unfold cutL
    rw [List.map_map]
    refine List.pairwise_map.2 (hn.imp fun {a b} hab e => hab ?_)
    simp only [Function.comp] at e
    omega
theorem fold_cut {N : Bytes} {k : Nat} : ∀ (L : List Nat) (d : Bytes), (cutL N L).foldl (fun d x => if x.1 = (k : Int) then x.2 else d) d = if k ∈ L then pgB N k else d
  | [], d => by simp [cutL]
  | i :: r, d => by
    show (cutL N r).foldl _ (if (i : Int) = (k : Int) then (N.drop (i * 32)).take 32 else d) = _
    rw [fold_cut r]
    by_cases hr : k ∈ r
    · rw [if_pos hr, if_pos (List.mem_cons_of_mem _ hr)]
    · rw [if_neg hr]
      by_cases hik : i = k
      · subst hik
        rw [if_pos rfl, if_pos List.mem_cons_self]
        rfl
      · rw [if_neg (by omega), if_neg (fun h => (List.mem_cons.1 h).elim (fun e => hik e.symm) hr)]
theorem updPg_cut {N : Bytes} {pg : Nat → Bytes} {L : List Nat} (k : Nat) : updPg pg (cutL N L) k = if k ∈ L then pgB N k else pg k := fold_cut L (pg k)
/-- what a commit of the dirty pages makes -/
theorem commit_view {nn n st : Nat} {D : Dv} {pg : Nat → Bytes} {N K : Bytes} {S : Nat → Bool} {L : List Nat} (h : SfP nn n D st pg) (hst : st < 4294967295) (hn1 : 1 ≤ n) (hN : N.length = 32 * n) (hK : K = allB D n) (hag : ∀ k, k < n → S k = false → pgB N k = pgB K k) (hS : ∀ k, S k = true → k < n) (hc : cntS S ≤ 23) (hk : KeysOf (setF S) L) (hn2 : n ≤ 200) :
    (commitP st n (cutL N L) D).2 = 0 ∧ (∃ pg', SfP nn n (commitP st n (cutL N L) D).1 (if L.length ≠ 0 then st + 1 else st) pg') ∧ allB (commitP st n (cutL N L) D).1 n = N := by
  have hlen : L.length ≤ 23 := by rw [keysS_cnt hk (fun k h => by have := hS k h; omega)]; exact hc
  have hLn : ∀ i ∈ L, i < n := fun i hi => hS i (setF_some.1 ((hk.mem i).1 hi))
  have hok := cutL_ok hN hLn (hk.up.imp (fun h => Nat.ne_of_lt h)) hlen
  have hn0 := h.n0
  have hz := commit_zero h.up st n (cutL N L) (by have := h.len; unfold nP at hn0; omega) hok hst
  obtain ⟨h2, -⟩ := h.commit2 (cutL N L)
  have hcl : (cutL N L).length = L.length := by unfold cutL; rw [List.length_map]
  rw [if_pos hz, hcl] at h2
  have e : (if (commitP st n (cutL N L) D).2 = 0 ∧ L.length ≠ 0 then st + 1 else st) = if L.length ≠ 0 then st + 1 else st := by
    by_cases h : L.length ≠ 0
    · rw [if_pos ⟨hz, h⟩, if_pos h]
    · rw [if_neg (fun x => h x.2), if_neg h]
  rw [e] at h2
  have hp : ∀ i, i < n → (readD (commitP st n (cutL N L) D).1 (48 + i)).length = 32 := fun i hi => by
    rw [(h2.page i hi).1]; exact (h2.page i hi).2
  refine ⟨hz, ⟨_, h2⟩, eq_of_pages (allB_len n hp) hN fun k hk' => ?_⟩
  rw [allB_page n k hp hk', (h2.page k hk').1, updPg_cut]
  by_cases hkL : k ∈ L
  · rw [if_pos hkL]
  · rw [if_neg hkL]
    have hSk : S k = false := by
      cases hs : S k with
      | false => rfl
      | true => exact absurd ((hk.mem k).2 (setF_some.2 hs)) hkL
    rw [hag k hk' hSk, hK, allB_page n k (fun i hi => by rw [(h.page i hi).1]; exact (h.page i hi).2) hk', (h.page k hk').1]
end Go.Proofs.YtbnobjlphmkgeaaGreatDoor
/- ViewBack: what the law keeps at hand. -/
namespace Go.Proofs.YtbnobjlphmkgeaaGreatDoor
open Go.RowKit Go.Maps Go.ChangeMaps

section
variable {w0 w w' : World} {F F' G G' : Nat → Prop} {d p v gx cx gy cy nn n st : Nat} {D : Dv} {M R N K : Bytes} {S : Nat → Bool}
/-- opened again -/
theorem opened_view {nn n st : Nat} {D : Dv} (h : ∃ pg, SfP nn n D st pg) : (openP D).2 = 0 ∧ (∃ pg, SfP nn n (openP D).1 st pg) ∧ (openMk D).1 = st ∧ allB (openP D).1 n = allB D n ∧ (allB D n).length = 32 * n ∧ (openP D).1.down = false ∧ ∀ i, i < n → (readD (openP D).1 (48 + i)).length = 32 := by
  obtain ⟨pg, h⟩ := h
  obtain ⟨l, hl⟩ := h.full
  obtain ⟨a, b, _, c, e, f⟩ := open_up hl.hold h.wf h.up
  have h2 : SfP nn n (openP D).1 st pg := ⟨⟨l, b⟩, e, c, f.trans h.len, by rw [show nP (openP D).1 = nP D from by unfold nP; rw [f]]; exact h.n0⟩
  have p1 : ∀ i, i < n → (readD D (48 + i)).length = 32 := fun i hi => by rw [(h.page i hi).1]; exact (h.page i hi).2
  have p2 : ∀ i, i < n → (readD (openP D).1 (48 + i)).length = 32 := fun i hi => by rw [(h2.page i hi).1]; exact (h2.page i hi).2
  refine ⟨a, ⟨pg, h2⟩, by rw [hl.hold.opened], ?_, allB_len n p1, c.2, p2⟩
  refine eq_of_pages (allB_len n p2) (allB_len n p1) fun k hk => ?_
  rw [allB_page n k p2 hk, allB_page n k p1 hk, (h2.page k hk).1, (h.page k hk).1]
end
end Go.Proofs.YtbnobjlphmkgeaaGreatDoor
/- PutRoot at any arguments, and what the difference to the empty image is. -/
namespace Go.Proofs.YtbnobjlphmkgeaaGreatDoor
open Go.RowKit

end Go.Proofs.YtbnobjlphmkgeaaGreatDoor
/- The reference on images: Entries, Roots. -/
namespace Go.Proofs.YtbnobjlphmkgeaaGreatDoor
open Go.RowKit

end Go.Proofs.YtbnobjlphmkgeaaGreatDoor
/- The reference on images: PutEntry. -/
namespace Go.Proofs.YtbnobjlphmkgeaaGreatDoor
open Go.RowKit

end Go.Proofs.YtbnobjlphmkgeaaGreatDoor
/- The contract of check.handles: the walk. -/
namespace Go.Proofs.YtbnobjlphmkgeaaGreatDoor
open Go.RowKit

set_option maxRecDepth 100000 in
set_option maxHeartbeats 1000000 in
theorem handles_ok (A : Option Addr) (n c : Nat) (l : Bytes) (w : World) (hn : l.length = n) (hr : rightB n = true) (hnc : n ≤ c) (hrd : Rd w A l) :
    Calls Tryz.prog 115 #[.slice A n c] w fun e w' => ∃ vf vr vw, e = .returned (.tuple #[vf, vr]) ∧ HSt w' w.heap.size vf vr vw (faultsH n (rawE l) 40) (rightL n (rawE l) 40) (wholeL n (rawE l) 40) ∧ Below w.heap.size w w' := by
  have hnb := rightB_true.1 hr
  obtain ⟨i1, hi1, hy0, hy1, hy2⟩ := info_parts fault_info
  obtain ⟨i2, hi2, hx0, hx1, hx2⟩ := info_parts entry_info
  have HGET : Hidden (∀ k : Nat, k < 40 → ∀ W, Below w.heap.size w W → Calls Tryz.prog 66 #[.slice A n c, .int .i64 ((k : Int) + 1)] W fun e w' => (hasE (rawE l k) = true → e = .returned (.tuple #[entR ((k : Int) + 1) (rawE l k), .nilIface])) ∧ (hasE (rawE l k) = false → e = .returned (.tuple #[entV 0 0 0 0, .iface 111 (.int .i64 5)])) ∧ Below W.heap.size W w') :=
    ⟨fun k hk W hW => iget_ok A n c l k W hn hr hnc (hrd.below hW) hk⟩
  have HRAW : Hidden (∀ k : Nat, k < 40 → ∀ W, Below w.heap.size w W → Rd W (A.map (·.add (5 * k))) (rawE l k)) := ⟨fun k hk W hW => rawE_rd (hrd.below hW) k hk (by omega)⟩
  have HLEN : Hidden (∀ k : Nat, k < 40 → (rawE l k).length = 5) := ⟨fun k hk => rawE_len l k hk (by omega)⟩
  generalize rawE l = R at *
  clear hr hrd hn
  go_enter Tryz.func115, Tryz.ntmps115
  go_wp2_with fail
  go_loopw [2, 3, 4, 5] (fun vf vr vw h wr => ∃ k : Nat, k ≤ 40 ∧ h = .int .i64 ((k : Int) + 1) ∧ Below w.heap.size w wr ∧ HSt wr w.heap.size vf vr vw (faultsH n R k) (rightL n R k) (wholeL n R k)) (fun _ _ _ h _ => 41 - (intOf h).toNat)
  case atStart => exact ⟨0, by omega, rfl, Below.refl _ _, World.ownsRow_nil _ _ _ _, World.ownsRow_nil _ _ _ _, World.ownsRow_nil _ _ _ _, fun b hb => by cases hb⟩
  case round =>
    obtain ⟨k, hk, rfl, hbel, hst⟩ := hrel
    by_cases hlt : k < 40
    · have k0 : ((k : Int) + 1) ≤ 40 := by omega
      have s1 : IntKind.i64.wrap ((k : Int) + 1 + 1) = (k : Int) + 1 + 1 := IntWalk.i64_in _ (by omega)
      have hlF := faultsH_len n R k
      have hlR : (rightL n R k).length ≤ k := entsL_len _ R k
      have hlW : (wholeL n R k).length ≤ k := entsL_len _ R k
      have hget := HGET.out k hlt wr hbel
      have HG := Hidden.mk hget
      clear hget
      have HSF := Hidden.mk (faultsH_succ n R k)
      have HSR : Hidden (rightL n R (k + 1) = rightL n R k ++ if (kindH n R k == 6) = true then [(((k : Int) + 1), R k)] else []) := ⟨entsL_succ _ R k⟩
      have HSW : Hidden (wholeL n R (k + 1) = wholeL n R k ++ if wholeE n (R k) = true then [(((k : Int) + 1), R k)] else []) := ⟨entsL_succ _ R k⟩
      cases hE : hasE (R k) with
      | false =>
        have hW0 : wholeE n (R k) = false := by simp [wholeE, hE]
        have hKK : kindH n R k = if zeroE (R k) = true then 0 else 3 := by unfold kindH; rw [hE]; simp
        have HKK := Hidden.mk hKK
        have HW0 := Hidden.mk hW0
        have HEE := Hidden.mk hE
        clear hW0 hKK hE
        go_wp2_with fail
        refine HG.out.mono ?_
        rintro e w1 ⟨_, he, hb1⟩
        have he := he HEE.out
        subst he
        have hB1 := hbel.trans (hb1.mono hbel.size)
        have hst1 := hst.below hb1
        have hB2 : Below w.heap.size w (w1.alloc (.cells #[.int .i64 0, .int .i64 0, .int .i64 0, .int .i64 0] 66)) := hB1.alloc hB1.size _
        have hst2 := hst1.below ((Below.refl _ _).alloc (Nat.le_refl _) (.cells #[.int .i64 0, .int .i64 0, .int .i64 0, .int .i64 0] 66))
        clear hst hst1 hB1 hb1 hbel
        go_wp2_with fail
        generalize w1.alloc (.cells #[.int .i64 0, .int .i64 0, .int .i64 0, .int .i64 0] 66) = w2 at *
        refine (raw_any A n c ((k : Int) + 1) _ (by omega) (by omega) (by omega) hnc).mono ?_
        rintro e w3 ⟨rfl, rfl⟩
        rw [entO_k]
        go_wp2_with fail
        refine (izero_any _ 5 _ (R k) _ (HLEN.out k hlt) (by simp [maxLen]) (HRAW.out k hlt w2 hB2)).mono ?_
        rintro e w3 ⟨rfl, rfl⟩
        cases hz : zeroE (R k) with
        | true =>
          have e1 : faultsH n R (k + 1) = faultsH n R k := by rw [HSF.out, HKK.out, hz]; simp [fltOf]
          have e2 : rightL n R (k + 1) = rightL n R k := by rw [HSR.out, HKK.out, hz]; simp
          have e3 : wholeL n R (k + 1) = wholeL n R k := by rw [HSW.out, HW0.out]; simp
          have hst3 : HSt w2 w.heap.size u2 u3 u4 (faultsH n R (k + 1)) (rightL n R (k + 1)) (wholeL n R (k + 1)) := by rw [e1, e2, e3]; exact hst2
          have HST := Hidden.mk hst3
          clear e1 e2 e3 hst3 hst2 hz
          go_wp2_with fail
          go_roundw
          case rel => exact ⟨k + 1, by omega, by go_num, hB2, HST.out⟩
          case measure => simp [intOf]; omega
        | false =>
          have e1 : faultsH n R (k + 1) = faultsH n R k ++ [⟨3, k + 1⟩] := by rw [HSF.out, HKK.out, hz]; simp [fltOf]
          have e2 : rightL n R (k + 1) = rightL n R k := by rw [HSR.out, HKK.out, hz]; simp
          have e3 : wholeL n R (k + 1) = wholeL n R k := by rw [HSW.out, HW0.out]; simp
          have HE1 := Hidden.mk e1
          have HE2 := Hidden.mk e2
          have HE3 := Hidden.mk e3
          clear e1 e2 e3 hz
          go_wp2_with (at_builtin; refine wpList_append_lies _ rfl (.tmp 30) (.tmp 33) _ rfl w.heap.size 200 i1 _ 2 16 Tryz.underlying90 hi1 hy0 hy1 hy2 rfl (by decide) u2 (faultsH n R k).length ((faultsH n R k).flatMap fcells) rfl (own_below hst2.f ((Below.refl _ _).alloc (Nat.le_refl _) _)) ⟨w2.heap.size, 0, none⟩ 1 1 [.int .i64 3, .int .i64 ((k : Int) + 1)] rfl rfl (World.news_of_block (cs := #[.int .i64 3, .int .i64 ((k : Int) + 1)]) (t := 200) (fr := (0, 0)) (heap_alloc_new w2 _)) (by simp [Value.oneCell']) (by omega) (by simp only [maxLen]; omega) (by omega) (by have := hB2.size; simp; omega) (w2.heap.size + 1) (by simp) ?_; intro gf capf w7 hown7 hg7 hat7 hlt7)
          have hgF := grown_trans' ((Below.refl _ _).alloc (Nat.le_refl _) _) hg7
          have hst7 := hst2.addF (x := ⟨3, k + 1⟩) hgF hown7
          have hB7 : Below w.heap.size w w7 := hB2.grown hgF hB2.size (fun q hq => (hst2.f.lt q hq).1)
          clear hown7 hg7 hat7 hlt7 hgF hst2 hB2
          go_roundw
          case rel => exact ⟨k + 1, by omega, by go_num, hB7, by rw [HE1.out, HE2.out, HE3.out]; exact hst7⟩
          case measure => simp [intOf]; omega
      | true =>
        have HKK : Hidden (kindH n R k = if strayE n (R k) = true then 1 else if (wholeL n R k).any (fun x => overE (R k) x.2) = true then 2 else 6) := ⟨by rw [wholeL_any]; unfold kindH; rw [hE]; simp⟩
        have HWW : Hidden (wholeE n (R k) = !strayE n (R k)) := ⟨by unfold wholeE; rw [hE]; simp⟩
        have HEE := Hidden.mk hE
        have HSTR : Hidden ((!(tagB (rTag (R k)) && lenB (rLen (R k)) && withinB n (rAt (R k)) (rLen (R k)))) = strayE n (R k)) := ⟨rfl⟩
        have HENT : Hidden (∀ h, entR h (R k) = entV h (rAt (R k)) (rLen (R k)) (rTag (R k))) := ⟨fun _ => rfl⟩
        have b1 := rAt_le (R k)
        have b2 := rLen_le (R k)
        have HCELL : Hidden (ecells (((k : Int) + 1), R k) = [.int .i64 ((k : Int) + 1), .int .i64 (rAt (R k)), .int .i64 (rLen (R k)), .int .i64 (rTag (R k))]) := ⟨rfl⟩
        have HOV : Hidden (∀ (Bx : Nat) (x : Int × Bytes) (W : World), W.cell? ⟨Bx, 1, none⟩ = some (.int .i64 (rAt (R k))) → W.cell? ⟨Bx, 2, none⟩ = some (.int .i64 (rLen (R k))) → Calls Tryz.prog 169 #[entR x.1 x.2, .pointer (some ⟨Bx, 0, none⟩)] W fun e w' => e = .returned (.bool (overE (R k) x.2)) ∧ Below W.heap.size W w') := ⟨fun (Bx : Nat) (x : Int × Bytes) (W : World) h1 h2 => over1_any (R k) Bx x W h1 h2⟩
        clear hE
        go_wp2_with fail
        refine HG.out.mono ?_
        rintro e w1 ⟨he, _, hb1⟩
        have he := he HEE.out
        rw [HENT.out] at he
        subst he
        generalize rAt (R k) = a1 at *
        generalize rLen (R k) = a2 at *
        generalize rTag (R k) = a3 at *
        have hB1 := hbel.trans (hb1.mono hbel.size)
        have hst1 := hst.below hb1
        have nf : ∀ q, u2.ownBlock = some q → q < w1.heap.size := fun q hq => Nat.lt_of_lt_of_le (hst.f.lt q hq).2 hb1.size
        have nr : ∀ q, u3.ownBlock = some q → q < w1.heap.size := fun q hq => Nat.lt_of_lt_of_le (hst.r.lt q hq).2 hb1.size
        have NF := Hidden.mk nf
        have NR := Hidden.mk nr
        have hal : Below w1.heap.size w1 (w1.alloc (.cells #[.int .i64 ((k : Int) + 1), .int .i64 a1, .int .i64 a2, .int .i64 a3] 66)) := (Below.refl _ _).alloc (Nat.le_refl _) _
        have hB2 : Below w.heap.size w (w1.alloc (.cells #[.int .i64 ((k : Int) + 1), .int .i64 a1, .int .i64 a2, .int .i64 a3] 66)) := hB1.alloc hB1.size _
        have hst2 := hst1.below hal
        have hbx : (w1.alloc (.cells #[.int .i64 ((k : Int) + 1), .int .i64 a1, .int .i64 a2, .int .i64 a3] 66)).heap[w1.heap.size]? = some (.cells #[.int .i64 ((k : Int) + 1), .int .i64 a1, .int .i64 a2, .int .i64 a3] 66 (0, 0)) := heap_alloc_new w1 _
        clear hst hst1 hB1 hb1 hbel hal nf nr
        go_wp2_with fail
        generalize w1.alloc (.cells #[.int .i64 ((k : Int) + 1), .int .i64 a1, .int .i64 a2, .int .i64 a3] 66) = w2 at *
        generalize w1.heap.size = Bx at *
        refine (stray_any A n c ((k : Int) + 1) a1 a2 a3 _ (by omega) (by omega) (by omega) (by omega)).mono ?_
        rintro e w3 ⟨rfl, hb3⟩
        rw [HSTR.out]
        have hB3 := hB2.trans (hb3.mono hB2.size)
        have hst3 := hst2.below hb3
        have hltx : Bx < w2.heap.size := (Array.getElem?_eq_some_iff.1 hbx).1
        have hbx3 := (hb3.block Bx hltx).trans hbx
        have hltx3 : Bx < w3.heap.size := (Array.getElem?_eq_some_iff.1 hbx3).1
        clear hB2 hst2 hb3 hbx hltx
        cases hs : strayE n (R k) with
        | true =>
          have HE1 : Hidden (faultsH n R (k + 1) = faultsH n R k ++ [⟨1, k + 1⟩]) := ⟨by rw [HSF.out, HKK.out, hs]; simp [fltOf]⟩
          have HE2 : Hidden (rightL n R (k + 1) = rightL n R k) := ⟨by rw [HSR.out, HKK.out, hs]; simp⟩
          have HE3 : Hidden (wholeL n R (k + 1) = wholeL n R k) := ⟨by rw [HSW.out, HWW.out, hs]; simp⟩
          clear hs
          go_wp2_with (at_builtin; refine wpList_append_lies _ rfl (.tmp 39) (.tmp 42) _ rfl w.heap.size 200 i1 _ 2 16 Tryz.underlying90 hi1 hy0 hy1 hy2 rfl (by decide) u2 (faultsH n R k).length ((faultsH n R k).flatMap fcells) rfl (own_below hst3.f ((Below.refl _ _).alloc (Nat.le_refl _) _)) ⟨w3.heap.size, 0, none⟩ 1 1 [.int .i64 1, .int .i64 ((k : Int) + 1)] rfl rfl (World.news_of_block (cs := #[.int .i64 1, .int .i64 ((k : Int) + 1)]) (t := 200) (fr := (0, 0)) (heap_alloc_new w3 _)) (by simp [Value.oneCell']) (by omega) (by simp only [maxLen]; omega) (by omega) (by have := hB3.size; simp; omega) (w3.heap.size + 1) (by simp) ?_; intro gf capf w7 hown7 hg7 hat7 hlt7)
          have hgF := grown_trans' ((Below.refl _ _).alloc (Nat.le_refl _) _) hg7
          have hst7 := hst3.addF (x := ⟨1, k + 1⟩) hgF hown7
          have hB7 : Below w.heap.size w w7 := hB3.grown hgF hB3.size (fun q hq => (hst3.f.lt q hq).1)
          clear hown7 hg7 hat7 hlt7 hgF hst3 hB3
          go_roundw
          case rel => exact ⟨k + 1, by omega, by go_num, hB7, by rw [HE1.out, HE2.out, HE3.out]; exact hst7⟩
          case measure => simp [intOf]; omega
        | false =>
          obtain ⟨A4, c4, hv4, hc4, hrd4⟩ := own_rdEs hst3.o
          subst hv4
          have hcf := cfe_over (fun x => overE (R k) x.2) A4 (wholeL n R k).length c4 (wholeL n R k) (.pointer (some ⟨Bx, 0, none⟩)) w3 rfl (by omega) hrd4 (fun x _ W hW => HOV.out Bx x W (by have := (hW.block Bx hltx3).trans hbx3; simp [World.cell?, this]) (by have := (hW.block Bx hltx3).trans hbx3; simp [World.cell?, this]))
          have HCF := Hidden.mk hcf
          clear hcf
          go_wp2_with fail
          refine HCF.out.mono ?_
          rintro e w4 ⟨rfl, hb4⟩
          have hB4 := hB3.trans (hb4.mono hB3.size)
          have hst4 := hst3.below hb4
          have hbx4 := (hb4.block Bx hltx3).trans hbx3
          have hltx4 : Bx < w4.heap.size := (Array.getElem?_eq_some_iff.1 hbx4).1
          have hrdc4 : ∀ W : World, W.heap[Bx]? = some (.cells #[.int .i64 ((k : Int) + 1), .int .i64 a1, .int .i64 a2, .int .i64 a3] 66 (0, 0)) → W.cell? ⟨Bx, 0, none⟩ = some (.int .i64 ((k : Int) + 1)) ∧ W.cell? ⟨Bx, 1, none⟩ = some (.int .i64 a1) ∧ W.cell? ⟨Bx, 2, none⟩ = some (.int .i64 a2) ∧ W.cell? ⟨Bx, 3, none⟩ = some (.int .i64 a3) := fun W h => by simp [World.cell?, h]
          have HRD := Hidden.mk hrdc4
          obtain ⟨y0, y1, y2, y3⟩ := hrdc4 w4 hbx4
          clear hB3 hst3 hb4 hbx3 hltx3 hrd4 hrdc4
          have HE3 : Hidden (wholeL n R (k + 1) = wholeL n R k ++ [(((k : Int) + 1), R k)]) := ⟨by rw [HSW.out, HWW.out, hs]; simp⟩
          cases hany : (wholeL n R k).any (fun x => overE (R k) x.2) with
          | true =>
            have HE1 : Hidden (faultsH n R (k + 1) = faultsH n R k ++ [⟨2, k + 1⟩]) := ⟨by rw [HSF.out, HKK.out, hs, hany]; simp [fltOf]⟩
            have HE2 : Hidden (rightL n R (k + 1) = rightL n R k) := ⟨by rw [HSR.out, HKK.out, hs, hany]; simp⟩
            clear hs hany
            go_wp2_with (first | (at_builtin; refine wpList_append_lies _ rfl (.tmp 48) (.tmp 51) _ rfl w.heap.size 200 i1 _ 2 16 Tryz.underlying90 hi1 hy0 hy1 hy2 rfl (by decide) u2 (faultsH n R k).length ((faultsH n R k).flatMap fcells) rfl (own_below hst4.f ((Below.refl _ _).alloc (Nat.le_refl _) _)) ⟨w4.heap.size, 0, none⟩ 1 1 [.int .i64 2, .int .i64 ((k : Int) + 1)] rfl rfl (World.news_of_block (cs := #[.int .i64 2, .int .i64 ((k : Int) + 1)]) (t := 200) (fr := (0, 0)) (heap_alloc_new w4 _)) (by simp [Value.oneCell']) (by omega) (by simp only [maxLen]; omega) (by omega) (by have := hB4.size; simp; omega) (w4.heap.size + 1) (by simp) ?_; intro gf capf w7 hown7 hg7 hat7 hlt7; have hgF := grown_trans' ((Below.refl _ _).alloc (Nat.le_refl _) _) hg7; have hst7 := hst4.addF (x := ⟨2, k + 1⟩) hgF hown7; have hB7 : Below w.heap.size w w7 := hB4.grown hgF hB4.size (fun q hq => (hst4.f.lt q hq).1); obtain ⟨z0, z1, z2, z3⟩ := HRD.out w7 ((hgF.block Bx hltx4 (fun e => Nat.lt_irrefl _ (NF.out Bx e.symm))).trans hbx4)) | (at_builtin; refine wpList_append_lies _ rfl (.tmp 53) (.tmp 55) _ rfl w.heap.size 66 i2 _ 4 32 Tryz.underlying141 hi2 hx0 hx1 hx2 rfl (by decide) (.slice A4 (wholeL n R k).length c4) (wholeL n R k).length ((wholeL n R k).flatMap ecells) rfl (own_below hst7.o ((Below.refl _ _).alloc (Nat.le_refl _) _)) ⟨w7.heap.size, 0, none⟩ 1 1 [.int .i64 ((k : Int) + 1), .int .i64 a1, .int .i64 a2, .int .i64 a3] rfl rfl (World.news_of_block (cs := #[.int .i64 ((k : Int) + 1), .int .i64 a1, .int .i64 a2, .int .i64 a3]) (t := 66) (fr := (0, 0)) (heap_alloc_new w7 _)) (by simp [Value.oneCell']) (by omega) (by simp only [maxLen]; omega) (by omega) (by have := hB7.size; simp; omega) (w7.heap.size + 1) (by simp) ?_; intro g8 cap8 w8 hown8 hg8 hat8 hlt8))
            have hgW := grown_trans' ((Below.refl _ _).alloc (Nat.le_refl _) _) hg8
            have hst8 := hst7.addW (x := (((k : Int) + 1), R k)) hgW rfl (by rw [HCELL.out]; exact hown8) (by rcases hat8 with h | h; exact .inl h; exact .inr (by omega))
            have hB8 : Below w.heap.size w w8 := hB7.grown hgW hB7.size (fun q hq => (hst7.o.lt q hq).1)
            go_roundw
            case rel => exact ⟨k + 1, by omega, by go_num, hB8, by rw [HE1.out, HE2.out, HE3.out]; exact hst8⟩
            case measure => simp [intOf]; omega
          | false =>
            have HE1 : Hidden (faultsH n R (k + 1) = faultsH n R k) := ⟨by rw [HSF.out, HKK.out, hs, hany]; simp [fltOf]⟩
            have HE2 : Hidden (rightL n R (k + 1) = rightL n R k ++ [(((k : Int) + 1), R k)]) := ⟨by rw [HSR.out, HKK.out, hs, hany]; simp⟩
            clear hs hany
            go_wp2_with (first | (at_builtin; refine wpList_append_lies _ rfl (.tmp 18) (.tmp 20) _ rfl w.heap.size 66 i2 _ 4 32 Tryz.underlying141 hi2 hx0 hx1 hx2 rfl (by decide) u3 (rightL n R k).length ((rightL n R k).flatMap ecells) rfl (own_below hst4.r ((Below.refl _ _).alloc (Nat.le_refl _) _)) ⟨w4.heap.size, 0, none⟩ 1 1 [.int .i64 ((k : Int) + 1), .int .i64 a1, .int .i64 a2, .int .i64 a3] rfl rfl (World.news_of_block (cs := #[.int .i64 ((k : Int) + 1), .int .i64 a1, .int .i64 a2, .int .i64 a3]) (t := 66) (fr := (0, 0)) (heap_alloc_new w4 _)) (by simp [Value.oneCell']) (by omega) (by simp only [maxLen]; omega) (by omega) (by have := hB4.size; simp; omega) (w4.heap.size + 1) (by simp) ?_; intro g6 cap6 w6 hown6 hg6 hat6 hlt6; have hgR := grown_trans' ((Below.refl _ _).alloc (Nat.le_refl _) _) hg6; have hst6 := hst4.addR (x := (((k : Int) + 1), R k)) hgR rfl (by rw [HCELL.out]; exact hown6) (by rcases hat6 with h | h; exact .inl h; exact .inr (by omega)); have hB6 : Below w.heap.size w w6 := hB4.grown hgR hB4.size (fun q hq => (hst4.r.lt q hq).1); obtain ⟨z0, z1, z2, z3⟩ := HRD.out w6 ((hgR.block Bx hltx4 (fun e => Nat.lt_irrefl _ (NR.out Bx e.symm))).trans hbx4)) | (at_builtin; refine wpList_append_lies _ rfl (.tmp 53) (.tmp 55) _ rfl w.heap.size 66 i2 _ 4 32 Tryz.underlying141 hi2 hx0 hx1 hx2 rfl (by decide) (.slice A4 (wholeL n R k).length c4) (wholeL n R k).length ((wholeL n R k).flatMap ecells) rfl (own_below hst6.o ((Below.refl _ _).alloc (Nat.le_refl _) _)) ⟨w6.heap.size, 0, none⟩ 1 1 [.int .i64 ((k : Int) + 1), .int .i64 a1, .int .i64 a2, .int .i64 a3] rfl rfl (World.news_of_block (cs := #[.int .i64 ((k : Int) + 1), .int .i64 a1, .int .i64 a2, .int .i64 a3]) (t := 66) (fr := (0, 0)) (heap_alloc_new w6 _)) (by simp [Value.oneCell']) (by omega) (by simp only [maxLen]; omega) (by omega) (by have := hB6.size; simp; omega) (w6.heap.size + 1) (by simp) ?_; intro g8 cap8 w8 hown8 hg8 hat8 hlt8))
            have hgW := grown_trans' ((Below.refl _ _).alloc (Nat.le_refl _) _) hg8
            have hst8 := hst6.addW (x := (((k : Int) + 1), R k)) hgW rfl (by rw [HCELL.out]; exact hown8) (by rcases hat8 with h | h; exact .inl h; exact .inr (by omega))
            have hB8 : Below w.heap.size w w8 := hB6.grown hgW hB6.size (fun q hq => (hst6.o.lt q hq).1)
            go_roundw
            case rel => exact ⟨k + 1, by omega, by go_num, hB8, by rw [HE1.out, HE2.out, HE3.out]; exact hst8⟩
            case measure => simp [intOf]; omega
    · obtain rfl : k = 40 := by omega
      go_wp2_with fail
      go_ret2
      exact ⟨u2, u3, u4, rfl, hst, hbel⟩
end Go.Proofs.YtbnobjlphmkgeaaGreatDoor
/- The contract of check.Check. -/
namespace Go.Proofs.YtbnobjlphmkgeaaGreatDoor
open Go.RowKit

theorem flt_one (F : List Flt) : ∀ u ∈ F.flatMap fcells, u.oneCell' = true := by
  intro u hu
  obtain ⟨f, _, h⟩ := List.mem_flatMap.1 hu
  simp only [fcells, List.mem_cons, List.not_mem_nil, or_false] at h
  rcases h with rfl | rfl <;> rfl
theorem right_leads (n : Nat) (R : Nat → Bytes) (x : UInt8) : ((rightL n R 40).any fun e => e.1 == (x.toNat : Int)) = leadsE n R x := by
  unfold rightL entsL leadsE
  rw [List.any_map, List.any_filter]
  congr 1
  funext k
  simp only [Function.comp]
  congr 1
  rw [Bool.eq_iff_iff]; simp; omega
theorem check_no (A : Option Addr) (n c : Nat) (w : World) (hr : rightB n = false) :
    Calls Tryz.prog 44 #[.slice A n c] w fun e w' => e = .returned (.tuple #[.slice none 0 0, .iface 111 (.int .i64 3)]) ∧ w = w' := by
  go_enter Tryz.func44, Tryz.ntmps44
  go_wp2_with fail
  refine (right_any _ _).mono ?_
  rintro e w1 ⟨rfl, rfl⟩
  rw [hr]
  go_wp2_with fail
  go_ret2
  exact ⟨rfl, rfl⟩
set_option maxRecDepth 100000 in
theorem check_yes (A : Option Addr) (n c : Nat) (l : Bytes) (w : World) (hn : l.length = n) (hr : rightB n = true) (hnc : n ≤ c) (hrd : Rd w A l) :
    Calls Tryz.prog 44 #[.slice A n c] w fun e w' => ∃ v, e = .returned (.tuple #[v, .nilIface]) ∧ w'.ownsRow w.heap.size 200 2 v (checkL l).length ((checkL l).flatMap fcells) ∧ Below w.heap.size w w' := by
  obtain ⟨i1, hi1, hy0, hy1, hy2⟩ := info_parts fault_info
  have hlF := faultsH_len n (rawE l) 40
  have hlR : (rightL n (rawE l) 40).length ≤ 40 := entsL_len _ _ 40
  have hlG := faultsR_len (leadsE n (rawE l)) (rawR l) 8
  have HCL : Hidden (checkL l = faultsH n (rawE l) 40 ++ faultsR (leadsE n (rawE l)) (rawR l) 8) := ⟨by unfold checkL; rw [hn]⟩
  go_enter Tryz.func44, Tryz.ntmps44
  go_wp2_with fail
  refine (right_any _ _).mono ?_
  rintro e w1 ⟨rfl, rfl⟩
  rw [hr]
  go_wp2_with fail
  refine (handles_ok A n c l _ hn hr hnc hrd).mono ?_
  rintro e w1 ⟨vf, vr, vw, rfl, hst, hb1⟩
  obtain ⟨Ar, cr, rfl, hcr, hre⟩ := own_rdEs hst.r
  go_wp2_with fail
  refine (roots_ok A Ar n c _ cr l (rightL n (rawE l) 40) (leadsE n (rawE l)) _ hn hr hnc (hrd.below hb1) rfl (by omega) hre (right_leads n (rawE l))).mono ?_
  rintro e w2 ⟨vg, rfl, hg2, hb2⟩
  have hf2 := own_below hst.f hb2
  obtain ⟨Ag, cg, rfl, hcg, hsrc⟩ := Src.of_own hg2
  have hB2 := hb1.trans (hb2.mono hb1.size)
  generalize faultsH n (rawE l) 40 = FH at *
  generalize faultsR (leadsE n (rawE l)) (rawR l) 8 = FR at *
  have HS := Hidden.mk hsrc
  have HF2 := Hidden.mk hf2
  clear hst hre hg2 hsrc hf2 hb1 hb2 hn hr hrd
  go_wp2_with (at_builtin; refine wpList_append_src _ rfl (.tmp 16) (.tmp 19) _ rfl w.heap.size 200 i1 _ 2 16 Tryz.underlying90 hi1 hy0 hy1 hy2 rfl (by decide) vf FH.length (FH.flatMap fcells) rfl HF2.out Ag FR.length cg (FR.flatMap fcells) rfl HS.out (flt_one _) (by simp only [maxLen]; omega) (by omega) hB2.size ?_; intro v7 w7 hown7 hg7 hat7)
  have hB7 : Below w.heap.size w w7 := hB2.grown hg7 hB2.size (fun q hq => (HF2.out.lt q hq).1)
  go_ret2
  refine ⟨_, rfl, ?_, hB7⟩
  rw [HCL.out]
  simpa using hown7
end Go.Proofs.YtbnobjlphmkgeaaGreatDoor
/- The contract of check.Mend. -/
namespace Go.Proofs.YtbnobjlphmkgeaaGreatDoor
open Go.RowKit

end Go.Proofs.YtbnobjlphmkgeaaGreatDoor
/- The contract of image.Drop; what puts leave of an image, in plain words. -/
namespace Go.Proofs.YtbnobjlphmkgeaaGreatDoor
open Go.RowKit

set_option maxRecDepth 100000 in
theorem idrop_ok (A : Option Addr) (n c : Nat) (l : Bytes) (k : Nat) (w : World) (hn : l.length = n) (hr : rightB n = true) (hnc : n ≤ c) (hrd : Rd w A l) (hk : k < 40) (hE : hasE (rawE l k) = true) :
    Calls Tryz.prog 72 #[.slice A n c, .int .i64 ((k : Int) + 1)] w fun e w' => ∃ g cap, e = .returned (.tuple #[.slice (some ⟨g, 0, none⟩) n cap, .nilIface]) ∧ w.heap.size ≤ g ∧ Row w' 5 g cap (splice l (5 * k) (List.replicate 5 0)) ∧ Below w.heap.size w w' := by
  have hnb := rightB_true.1 hr
  have HG := Hidden.mk ((iget_ok A n c l k w hn hr hnc hrd hk).mono fun _ _ h => (⟨h.1 hE, h.2.2⟩ : _ ∧ _))
  unfold entR entV at HG
  generalize (rAt (rawE l k) : Int) = a1 at *
  generalize (rLen (rawE l k) : Int) = a2 at *
  generalize rTag (rawE l k) = a3 at *
  clear hE
  obtain ⟨p, off, rfl, hpl⟩ := hrd.lt (by omega)
  go_enter Tryz.func72, Tryz.ntmps72
  go_wp2_with fail
  refine HG.out.mono ?_
  rintro e w1 ⟨rfl, hb1⟩
  have hB2 : Below w.heap.size w (w1.alloc (.cells #[.int .i64 ((k : Int) + 1), .int .i64 a1, .int .i64 a2, .int .i64 a3] 66)) := hb1.alloc hb1.size _
  clear hb1
  go_wp2_with fail
  generalize w1.alloc (.cells #[.int .i64 ((k : Int) + 1), .int .i64 a1, .int .i64 a2, .int .i64 a3] 66) = w2 at *
  refine (clone_some _ n c l _ hn (by omega) (hrd.below hB2)).mono ?_
  rintro e w3 ⟨g, cap, rfl, hg, hrow, hb3⟩
  have hB3 := hB2.trans (hb3.mono hB2.size)
  have hgw : w.heap.size ≤ g := Nat.le_trans hB2.size hg
  have hlc := hrow.le.1
  clear hg hb3 hB2
  go_wp2_with fail
  refine (raw_any (some ⟨g, 0, none⟩) n cap ((k : Int) + 1) _ (by omega) (by omega) (by omega) (by omega)).mono ?_
  rintro e w4 ⟨rfl, rfl⟩
  rw [entO_k]
  simp only [Option.map_some, Addr.add_lit, Nat.zero_add]
  obtain ⟨cur, hcur, _, _, hcs, _⟩ := id hrow
  have hclear := fun c' ty => run_clear_row w3 g (5 * k) 5 c' cur _ hcur (by omega) (by omega) ty
  have hrow5 := hrow.set_ (5 * k) (List.replicate 5 0) (by simp; omega) cur hcur
  have hB5 : Below w.heap.size w (w3.setRow g (setB cur (5 * k) ((List.replicate 5 (0 : UInt8)).map bv))) := below_setRow hB3 hgw _
  have H5 := Hidden.mk (And.intro hrow5 hB5)
  clear hrow hrow5 hB5 hB3 hcur hcs hlc
  generalize w3.setRow g (setB cur (5 * k) ((List.replicate 5 (0 : UInt8)).map bv)) = w5 at *
  go_wp2_with (simp only [hclear])
  go_ret2
  exact ⟨g, cap, rfl, hgw, H5.out.1, H5.out.2⟩
theorem rawE_splice (l x : Bytes) (k j : Nat) (hx : x.length = 5) (hk : k < 40) (_hj : j < 40) (hl : 200 ≤ l.length) : rawE (splice l (5 * k) x) j = if j = k then x else rawE l j := by
  apply List.ext_getElem?
  intro q
  unfold rawE
  rw [List.getElem?_take, List.getElem?_drop, splice_at _ _ _ _ (by omega)]
  by_cases hq : q < 5
  · rw [if_pos hq]
    by_cases hjk : j = k
    · subst hjk
      rw [if_pos (by omega), if_pos rfl]
      congr 1; omega
    · rw [if_neg (by omega), if_neg hjk, List.getElem?_take, if_pos hq, List.getElem?_drop]
  · rw [if_neg hq]
    by_cases hjk : j = k
    · rw [if_pos hjk, List.getElem?_eq_none (by omega)]
    · rw [if_neg hjk, List.getElem?_take, if_neg hq]
theorem rawR_splice (l x : Bytes) (i j : Nat) (hx : x.length = 11) (hi : i < 8) (_hj : j < 8) (hl : 288 ≤ l.length) : rawR (splice l (200 + 11 * i) x) j = if j = i then x else rawR l j := by
  apply List.ext_getElem?
  intro q
  unfold rawR
  rw [List.getElem?_take, List.getElem?_drop, splice_at _ _ _ _ (by omega)]
  by_cases hq : q < 11
  · rw [if_pos hq]
    by_cases hji : j = i
    · subst hji
      rw [if_pos (by omega), if_pos rfl]
      congr 1; omega
    · rw [if_neg (by omega), if_neg hji, List.getElem?_take, if_pos hq, List.getElem?_drop]
  · rw [if_neg hq]
    by_cases hji : j = i
    · rw [if_pos hji, List.getElem?_eq_none (by omega)]
    · rw [if_neg hji, List.getElem?_take, if_neg hq]
theorem rawR_head (l x : Bytes) (o j : Nat) (hx : o + x.length ≤ 200) (hl : 200 ≤ l.length) : rawR (splice l o x) j = rawR l j := by
  apply List.ext_getElem?
  intro q
  unfold rawR
  rw [List.getElem?_take, List.getElem?_drop, List.getElem?_take, List.getElem?_drop]
  by_cases hq : q < 11
  · rw [if_pos hq, if_pos hq, splice_at _ _ _ _ (by omega), if_neg (by omega)]
  · rw [if_neg hq, if_neg hq]
theorem ofB_two (n : Nat) (h : n < 65536) : ofB (numB n 2) = n := by
  have h1 := ofNat_mod n
  have h2 := ofNat_mod (n / 256)
  simp only [numB, ofB, h1, h2]
  omega
theorem entB_rd (a b t : Nat) (ha : a < 65536) (hb : b < 65536) (ht : t ≤ 15) : hasE (entB a b t) = true ∧ rAt (entB a b t) = a ∧ rLen (entB a b t) = b ∧ rTag (entB a b t) = t := by
  have hd : (UInt8.ofNat (t + 1)).toNat = t + 1 := by rw [UInt8.toNat_ofNat', Nat.mod_eq_of_lt (by omega)]
  have h2 : (numB a 2).length = 2 := numB_length a 2
  have h3 : (numB b 2).length = 2 := numB_length b 2
  refine ⟨?_, ?_, ?_, ?_⟩
  · unfold hasE rHd entB
    simp only [List.headD_cons]
    rw [bne_iff_ne]
    intro e
    rw [e] at hd
    simp at hd
  · unfold rAt entB
    rw [List.drop_one, List.tail_cons, List.take_append_of_le_length (by omega), List.take_of_length_le (by omega), ofB_two a ha]
  · unfold rLen entB
    rw [List.drop_succ_cons, List.drop_append, List.drop_of_length_le (by omega), h2, List.nil_append, List.drop_zero, List.take_of_length_le (by omega), ofB_two b hb]
  · unfold rTag rHd entB
    simp only [List.headD_cons]
    omega
theorem rootsF_congr (S S' : Nat → Bytes) : ∀ m, (∀ j, j < m → S j = S' j) → rootsF S m = rootsF S' m
  | 0, _ => rfl
  | m + 1, h => by rw [rootsF_succ, rootsF_succ, h m (by omega), rootsF_congr S S' m (fun j hj => h j (by omega))]
theorem idrop_e (A : Option Addr) (n c : Nat) (h k : Int) (w : World) (hget : Calls Tryz.prog 66 #[.slice A n c, .int .i64 h] w fun e w' => e = .returned (.tuple #[entV 0 0 0 0, .iface 111 (.int .i64 k)]) ∧ Below w.heap.size w w') :
    Calls Tryz.prog 72 #[.slice A n c, .int .i64 h] w fun e w' => e = .returned (.tuple #[.slice none 0 0, .iface 111 (.int .i64 k)]) ∧ Below w.heap.size w w' := by
  have HG := Hidden.mk hget
  unfold entV at HG
  clear hget
  go_enter Tryz.func72, Tryz.ntmps72
  go_wp2_with fail
  refine HG.out.mono ?_
  rintro e w1 ⟨rfl, hb1⟩
  have hB2 : Below w.heap.size w (w1.alloc (.cells #[.int .i64 0, .int .i64 0, .int .i64 0, .int .i64 0] 66)) := hb1.alloc hb1.size _
  clear hb1
  go_wp2_with fail
  go_ret2
  exact ⟨rfl, hB2⟩
end Go.Proofs.YtbnobjlphmkgeaaGreatDoor
/- An image that is right, plainly: its handles, its roots; what stays right. No walk here. -/
namespace Go.Proofs.YtbnobjlphmkgeaaGreatDoor
open Go.RowKit

/-- which handles have an object -/
def leadsS (R : Nat → Bytes) (x : UInt8) : Bool := (List.range 40).any fun k => hasE (R k) && x.toNat == k + 1
/-- an image of n bytes that is right: R its handles, S its roots -/
structure GoodS (n : Nat) (R S : Nat → Bytes) : Prop where
  none : ∀ k, k < 40 → hasE (R k) = false → zeroE (R k) = true
  fit : ∀ k, k < 40 → hasE (R k) = true → strayE n (R k) = false
  apart : ∀ k, k < 40 → ∀ j, j < k → hasE (R k) = true → hasE (R j) = true → overE (R k) (R j) = false
  root : ∀ i, i < 8 → zeroE (S i) = false → badR (leadsS R) (S i) = false
  name : ∀ i, i < 8 → ∀ j, j < i → zeroE (S i) = false → zeroE (S j) = false → nmR (S i) ≠ nmR (S j)
structure Good (l : Bytes) : Prop where
  len : rightB l.length = true
  chk : checkL l = []
theorem checkL_nil {l : Bytes} : checkL l = [] ↔ (∀ k, k < 40 → kindH l.length (rawE l) k = 0 ∨ kindH l.length (rawE l) k = 6) ∧ (∀ i, i < 8 → kindR (leadsE l.length (rawE l)) (rawR l) i = 0 ∨ kindR (leadsE l.length (rawE l)) (rawR l) i = 6) := by
  constructor
  · intro h
    have hn : ∀ f, f ∉ checkL l := fun f hf => by rw [h] at hf; cases hf
    refine ⟨fun k hk => ?_, fun i hi => ?_⟩
    · exact Classical.byContradiction fun hc => hn _ (mem_checkL.2 (.inl ⟨k, hk, hc, rfl⟩))
    · exact Classical.byContradiction fun hc => hn _ (mem_checkL.2 (.inr ⟨i, hi, hc, rfl⟩))
  · rintro ⟨h1, h2⟩
    refine List.eq_nil_iff_forall_not_mem.2 fun f hf => ?_
    rcases mem_checkL.1 hf with ⟨k, hk, hn, _⟩ | ⟨i, hi, hn, _⟩
    · exact hn (h1 k hk)
    · exact hn (h2 i hi)
theorem overE_symm (r s : Bytes) : overE r s = overE s r := by unfold overE; rw [Bool.and_comm]
theorem kindH_has {n : Nat} {R : Nat → Bytes} {k : Nat} (h : kindH n R k = 0 ∨ kindH n R k = 6) : (hasE (R k) = true → kindH n R k = 6 ∧ strayE n (R k) = false ∧ (List.range k).any (fun j => wholeE n (R j) && overE (R k) (R j)) = false) ∧ (hasE (R k) = false → kindH n R k = 0 ∧ zeroE (R k) = true) := by
  unfold kindH at h ⊢
  constructor
  · intro hh
    rw [if_pos hh] at h ⊢
    cases hs : strayE n (R k) with
    | true => rw [hs] at h; simp at h
    | false =>
      rw [hs] at h
      cases ha : (List.range k).any (fun j => wholeE n (R j) && overE (R k) (R j)) with
      | true => rw [ha] at h; simp at h
      | false => simp
  · intro hh
    rw [if_neg (by rw [hh]; decide)] at h ⊢
    cases hz : zeroE (R k) with
    | true => simp
    | false => rw [hz] at h; simp at h
theorem leads_eq {n : Nat} {R : Nat → Bytes} (h : ∀ k, k < 40 → (kindH n R k = 6 ↔ hasE (R k) = true)) : leadsE n R = leadsS R := by
  funext x
  unfold leadsE leadsS
  have : ∀ k ∈ List.range 40, (kindH n R k == 6 && x.toNat == k + 1) = (hasE (R k) && x.toNat == k + 1) := fun k hk => by
    have := h k (List.mem_range.1 hk)
    congr 1
    rw [Bool.eq_iff_iff, beq_iff_eq]
    exact this
  rw [Bool.eq_iff_iff, List.any_eq_true, List.any_eq_true]
  constructor
  · rintro ⟨k, hk, h⟩; exact ⟨k, hk, (this k hk) ▸ h⟩
  · rintro ⟨k, hk, h⟩; exact ⟨k, hk, (this k hk).symm ▸ h⟩
theorem kinds_good {n : Nat} {R S : Nat → Bytes} : ((∀ k, k < 40 → kindH n R k = 0 ∨ kindH n R k = 6) ∧ (∀ i, i < 8 → kindR (leadsE n R) S i = 0 ∨ kindR (leadsE n R) S i = 6)) ↔ GoodS n R S := by
  constructor
  · rintro ⟨hH, hR⟩
    have hle : leadsE n R = leadsS R := leads_eq fun k hk => by
      have := kindH_has (hH k hk)
      constructor
      · intro h6
        cases hh : hasE (R k) with
        | true => rfl
        | false => have := (this.2 hh).1; omega
      · intro hh; exact (this.1 hh).1
    rw [hle] at hR
    have hr : ∀ i, i < 8 → zeroE (S i) = false → badR (leadsS R) (S i) = false ∧ (List.range i).any (fun j => okR (leadsS R) (S j) && (nmR (S i) == nmR (S j))) = false := fun i hi hz => by
      have h := hR i hi
      unfold kindR at h
      rw [if_neg (by rw [hz]; decide)] at h
      cases hb : badR (leadsS R) (S i) with
      | true => rw [hb] at h; simp at h
      | false =>
        rw [hb] at h
        cases ha : (List.range i).any (fun j => okR (leadsS R) (S j) && (nmR (S i) == nmR (S j))) with
        | true => rw [ha] at h; simp at h
        | false => simp
    refine ⟨fun k hk hh => ((kindH_has (hH k hk)).2 hh).2, fun k hk hh => ((kindH_has (hH k hk)).1 hh).2.1, fun k hk j hj hh hh' => ?_, fun i hi hz => (hr i hi hz).1, fun i hi j hj hz hz' => ?_⟩
    · have h1 := ((kindH_has (hH k hk)).1 hh).2.2
      have h2 := ((kindH_has (hH j (by omega))).1 hh').2.1
      rw [List.any_eq_false] at h1
      have h3 := h1 j (List.mem_range.2 hj)
      unfold wholeE at h3
      rw [hh', h2] at h3
      simpa using h3
    · have h1 := (hr i hi hz).2
      have h2 := (hr j (by omega) hz').1
      rw [List.any_eq_false] at h1
      have h3 := h1 j (List.mem_range.2 hj)
      unfold okR at h3
      rw [hz', h2] at h3
      simpa using h3
  · intro g
    have hH : ∀ k, k < 40 → (hasE (R k) = true → kindH n R k = 6) ∧ (hasE (R k) = false → kindH n R k = 0) := fun k hk => by
      unfold kindH
      constructor
      · intro hh
        rw [if_pos hh, if_neg (by rw [g.fit k hk hh]; decide), if_neg]
        rw [Bool.not_eq_true, List.any_eq_false]
        intro j hj
        have hj := List.mem_range.1 hj
        cases hh' : hasE (R j) with
        | false => simp [wholeE, hh']
        | true => rw [g.apart k hk j hj hh hh']; simp
      · intro hh
        rw [if_neg (by rw [hh]; decide), if_pos (g.none k hk hh)]
    have hle : leadsE n R = leadsS R := leads_eq fun k hk => by
      constructor
      · intro h6
        cases hh : hasE (R k) with
        | true => rfl
        | false => have := (hH k hk).2 hh; omega
      · intro hh; exact (hH k hk).1 hh
    rw [hle]
    refine ⟨fun k hk => ?_, fun i hi => ?_⟩
    · cases hh : hasE (R k) with
      | true => exact .inr ((hH k hk).1 hh)
      | false => exact .inl ((hH k hk).2 hh)
    · unfold kindR
      cases hz : zeroE (S i) with
      | true => left; simp
      | false =>
        right
        rw [if_neg (by decide), if_neg (by rw [g.root i hi hz]; decide), if_neg]
        rw [Bool.not_eq_true, List.any_eq_false]
        intro j hj
        have hj := List.mem_range.1 hj
        cases hz' : zeroE (S j) with
        | true => simp [okR, hz']
        | false =>
          have := g.name i hi j hj hz hz'
          simp [this]
theorem good_iff {l : Bytes} : Good l ↔ rightB l.length = true ∧ GoodS l.length (rawE l) (rawR l) := by
  constructor
  · rintro ⟨h1, h2⟩; exact ⟨h1, kinds_good.1 (checkL_nil.1 h2)⟩
  · rintro ⟨h1, h2⟩; exact ⟨h1, checkL_nil.2 (kinds_good.2 h2)⟩
theorem Good.s {l : Bytes} (h : Good l) : GoodS l.length (rawE l) (rawR l) := (good_iff.1 h).2
theorem Good.bd {l : Bytes} (h : Good l) : 288 ≤ l.length ∧ l.length ≤ 6400 := by have := rightB_true.1 h.len; omega
section
variable {n : Nat} {R R' S S' : Nat → Bytes}
theorem leadsS_iff {x : UInt8} : leadsS R x = true ↔ ∃ k, k < 40 ∧ hasE (R k) = true ∧ x.toNat = k + 1 := by
  unfold leadsS
  rw [List.any_eq_true]
  simp only [List.mem_range, Bool.and_eq_true, beq_iff_eq]
theorem badR_mono {L L' : UInt8 → Bool} {r : Bytes} (h : badR L r = false) (hm : L (r.getD 10 0) = true → L' (r.getD 10 0) = true) : badR L' r = false := by
  unfold badR at h ⊢
  simp only [Bool.or_eq_false_iff, Bool.not_eq_false'] at h ⊢
  exact ⟨h.1, hm h.2⟩
theorem badR_lead {L : UInt8 → Bool} {r : Bytes} (h : badR L r = false) : L (r.getD 10 0) = true := by
  unfold badR at h
  simp only [Bool.or_eq_false_iff, Bool.not_eq_false'] at h
  exact h.2
/-- an entry that is put -/
theorem GoodS.putE (g : GoodS n R S) (k : Nat) (hk : k < 40) (r : Bytes) (h' : ∀ j, j < 40 → R' j = if j = k then r else R j) (hr : hasE r = true) (hs : strayE n r = false) (ho : ∀ j, j < 40 → j ≠ k → hasE (R j) = true → overE r (R j) = false) : GoodS n R' S where
  none j hj hh := by
    rw [h' j hj] at hh ⊢
    by_cases e : j = k
    · rw [if_pos e, hr] at hh; cases hh
    · rw [if_neg e] at hh ⊢; exact g.none j hj hh
  fit j hj hh := by
    rw [h' j hj] at hh ⊢
    by_cases e : j = k
    · rw [if_pos e]; exact hs
    · rw [if_neg e] at hh ⊢; exact g.fit j hj hh
  apart i hi j hj hh hh' := by
    rw [h' i hi] at hh ⊢
    rw [h' j (by omega)] at hh' ⊢
    by_cases e : i = k
    · rw [if_pos e, if_neg (by omega)]
      rw [if_neg (by omega)] at hh'
      exact ho j (by omega) (by omega) hh'
    · rw [if_neg e] at hh ⊢
      by_cases e' : j = k
      · rw [if_pos e', overE_symm]
        exact ho i hi (by omega) hh
      · rw [if_neg e'] at hh' ⊢
        exact g.apart i hi j hj hh hh'
  root i hi hz := badR_mono (g.root i hi hz) fun hl => by
    obtain ⟨j, hj, hh, hx⟩ := leadsS_iff.1 hl
    refine leadsS_iff.2 ⟨j, hj, ?_, hx⟩
    rw [h' j hj]
    by_cases e : j = k
    · rw [if_pos e]; exact hr
    · rw [if_neg e]; exact hh
  name := g.name
/-- an entry that is dropped: no root leads to it -/
theorem GoodS.dropE (g : GoodS n R S) (k : Nat) (_hk : k < 40) (h' : ∀ j, j < 40 → R' j = if j = k then List.replicate 5 0 else R j) (hno : ∀ i, i < 8 → zeroE (S i) = false → ((S i).getD 10 0).toNat ≠ k + 1) : GoodS n R' S where
  none j hj hh := by
    rw [h' j hj] at hh ⊢
    by_cases e : j = k
    · rw [if_pos e]; exact zeros_zero 5
    · rw [if_neg e] at hh ⊢; exact g.none j hj hh
  fit j hj hh := by
    rw [h' j hj] at hh ⊢
    by_cases e : j = k
    · rw [if_pos e, zeros_has] at hh; cases hh
    · rw [if_neg e] at hh ⊢; exact g.fit j hj hh
  apart i hi j hj hh hh' := by
    rw [h' i hi] at hh ⊢
    rw [h' j (by omega)] at hh' ⊢
    by_cases e : i = k
    · rw [if_pos e, zeros_has] at hh; cases hh
    · by_cases e' : j = k
      · rw [if_pos e', zeros_has] at hh'; cases hh'
      · rw [if_neg e] at hh ⊢
        rw [if_neg e'] at hh' ⊢
        exact g.apart i hi j hj hh hh'
  root i hi hz := badR_mono (g.root i hi hz) fun hl => by
    obtain ⟨j, hj, hh, hx⟩ := leadsS_iff.1 hl
    refine leadsS_iff.2 ⟨j, hj, ?_, hx⟩
    rw [h' j hj]
    by_cases e : j = k
    · exact absurd (by omega) (hno i hi hz)
    · rw [if_neg e]; exact hh
  name := g.name
/-- a root that is put, or nothing in its place -/
theorem GoodS.putR (g : GoodS n R S) (i : Nat) (r : Bytes) (h' : ∀ j, j < 8 → S' j = if j = i then r else S j) (hr : zeroE r = true ∨ (badR (leadsS R) r = false ∧ ∀ j, j < 8 → j ≠ i → zeroE (S j) = false → nmR r ≠ nmR (S j))) : GoodS n R S' where
  none := g.none
  fit := g.fit
  apart := g.apart
  root j hj hz := by
    rw [h' j hj] at hz ⊢
    by_cases e : j = i
    · rw [if_pos e] at hz ⊢
      rcases hr with h | h
      · rw [h] at hz; cases hz
      · exact h.1
    · rw [if_neg e] at hz ⊢; exact g.root j hj hz
  name a ha b hb hz hz' := by
    rw [h' a ha] at hz ⊢
    rw [h' b (by omega)] at hz' ⊢
    by_cases e : a = i
    · rw [if_pos e] at hz ⊢
      rw [if_neg (by omega)] at hz' ⊢
      rcases hr with h | h
      · rw [h] at hz; cases hz
      · exact h.2 b (by omega) (by omega) hz'
    · rw [if_neg e] at hz ⊢
      by_cases e' : b = i
      · rw [if_pos e'] at hz' ⊢
        rcases hr with h | h
        · rw [h] at hz'; cases hz'
        · exact (h.2 a ha e hz).symm
      · rw [if_neg e'] at hz' ⊢; exact g.name a ha b hb hz hz'
end
theorem zeros_cut' (n a m : Nat) (h : a + m ≤ n) : ((List.replicate n (0 : UInt8)).drop a).take m = List.replicate m 0 := by
  rw [List.drop_replicate, List.take_replicate]; congr 1; omega
/-- an image of nothing -/
theorem good_zero' {n : Nat} (h : rightB n = true) : Good (List.replicate n 0) := by
  have hb := rightB_true.1 h
  have hE : ∀ k, k < 40 → rawE (List.replicate n 0) k = List.replicate 5 0 := fun k hk => zeros_cut' n (5 * k) 5 (by omega)
  have hR : ∀ i, i < 8 → rawR (List.replicate n 0) i = List.replicate 11 0 := fun i hi => zeros_cut' n (200 + 11 * i) 11 (by omega)
  refine good_iff.2 ⟨by rw [List.length_replicate]; exact h, ⟨fun k hk _ => by rw [hE k hk]; exact zeros_zero 5, fun k hk hh => ?_, fun k hk j hj hh _ => ?_, fun i hi hz => ?_, fun i hi j hj hz _ => ?_⟩⟩
  · rw [hE k hk, zeros_has] at hh; cases hh
  · rw [hE k hk, zeros_has] at hh; cases hh
  · rw [hR i hi, zeros_zero] at hz; cases hz
  · rw [hR i hi, zeros_zero] at hz; cases hz
end Go.Proofs.YtbnobjlphmkgeaaGreatDoor
/- The reference's Check: a row of numbers in memory; what is wrong with handles. -/
namespace Go.Proofs.YtbnobjlphmkgeaaGreatDoor
open Go.RowKit

section
variable {w w' : World} {g N : Nat} {f : Nat → Int}
end
theorem int_infoC : (Tryz.prog.info? 3).map (fun i => (i.zero, i.size, i.bytes)) = some (some (.int .i64 0), 1, 8) := by kernel_rfl
end Go.Proofs.YtbnobjlphmkgeaaGreatDoor
/- The reference's Check: its contract. -/
namespace Go.Proofs.YtbnobjlphmkgeaaGreatDoor
open Go.RowKit

theorem FourAt.block {w w' : World} {p : Nat} {a b c d : Int} (h : FourAt w p a b c d) (hb : w'.heap[p]? = w.heap[p]?) : FourAt w' p a b c d :=
  ⟨(World.cell?_of_block (w := w) (a := ⟨p, 0, none⟩) hb).trans h.1, (World.cell?_of_block (w := w) (a := ⟨p, 1, none⟩) hb).trans h.2.1, (World.cell?_of_block (w := w) (a := ⟨p, 2, none⟩) hb).trans h.2.2.1, (World.cell?_of_block (w := w) (a := ⟨p, 3, none⟩) hb).trans h.2.2.2⟩
section
variable {w wr w' : World} {g : Nat} {v v' : Value} {F : List Flt} {f : Nat → Int}
end
end Go.Proofs.YtbnobjlphmkgeaaGreatDoor
/- A heap in memory; the contracts of heap.New and Bytes. -/
namespace Go.Proofs.YtbnobjlphmkgeaaGreatDoor
open Go.RowKit

/-- block h is a heap that was made behind w0: its image is l -/
structure Hp (w0 w : World) (F : Nat → Prop) (h : Nat) (l : Bytes) : Prop where
  hd : ∃ g cap, w.heap[h]? = some (.cells #[.slice (some ⟨g, 0, none⟩) l.length cap] 110 (0, 0)) ∧ Row w 5 g cap l ∧ F g
  fh : F h
  len : rightB l.length = true
  new : ∀ k, F k → w0.heap.size ≤ k
  flt : ∀ k, F k → k < w.heap.size
  bel : Below w0.heap.size w0 w
section
variable {w0 w w' : World} {F : Nat → Prop} {h : Nat} {l : Bytes}
theorem Hp.below (hp : Hp w0 w F h l) (hb : Below w.heap.size w w') : Hp w0 w' F h l := by
  obtain ⟨g, cap, h1, h2, h3⟩ := hp.hd
  exact ⟨⟨g, cap, (hb.block _ (hp.flt _ hp.fh)).trans h1, h2.block (hb.block _ (hp.flt _ h3)), h3⟩, hp.fh, hp.len, hp.new, fun k hk => Nat.lt_of_lt_of_le (hp.flt k hk) hb.size, hp.bel.trans (hb.mono hp.bel.size)⟩
theorem Hp.keep {G : Nat → Prop} (hp : Hp w0 w F h l) (hk : Keep G w w') (hG : ∀ k, F k → ¬ G k) (hn : ∀ k, G k → w0.heap.size ≤ k) : Hp w0 w' F h l := by
  obtain ⟨g, cap, h1, h2, h3⟩ := hp.hd
  exact ⟨⟨g, cap, (hk.block _ (hp.flt _ hp.fh) (hG _ hp.fh)).trans h1, h2.block (hk.block _ (hp.flt _ h3) (hG _ h3)), h3⟩, hp.fh, hp.len, hp.new, fun k hk' => Nat.lt_of_lt_of_le (hp.flt k hk') hk.size, hp.bel.trans (hk.below hp.bel.size hn)⟩
/-- what a walk wants of it -/
theorem Hp.open_ (hp : Hp w0 w F h l) : ∃ g cap, w.cell? ⟨h, 0, none⟩ = some (.slice (some ⟨g, 0, none⟩) l.length cap) ∧ l.length ≤ cap ∧ Row w 5 g cap l ∧ F g := by
  obtain ⟨g, cap, h1, h2, h3⟩ := hp.hd
  exact ⟨g, cap, by simp [World.cell?, h1], h2.le.1, h2, h3⟩
end
theorem hbytes_ok (w0 w : World) (F : Nat → Prop) (h : Nat) (l : Bytes) (hp : Hp w0 w F h l) :
    Calls Tryz.prog 32 #[.pointer (some ⟨h, 0, none⟩)] w fun e w' => ∃ g cap, e = .returned (.slice (some ⟨g, 0, none⟩) l.length cap) ∧ w.heap.size ≤ g ∧ Row w' 5 g cap l ∧ Below w.heap.size w w' := by
  obtain ⟨g, cap, c0, hcap, hrow, hF⟩ := hp.open_
  have hb := rightB_true.1 hp.len
  have HC := Hidden.mk (clone_some ⟨g, 0, none⟩ l.length cap l w rfl (by omega) hrow.rd)
  clear hp hrow
  go_enter Tryz.func32, Tryz.ntmps32
  go_wp2_with fail
  refine HC.out.mono ?_
  rintro e w1 ⟨g1, cap1, rfl, hg, hrow, hb1⟩
  clear HC
  go_wp2_with fail
  go_ret
  exact ⟨g1, cap1, rfl, hg, hrow, hb1⟩
end Go.Proofs.YtbnobjlphmkgeaaGreatDoor
/- The contracts of check.Fine and check.Object. -/
namespace Go.Proofs.YtbnobjlphmkgeaaGreatDoor
open Go.RowKit

theorem fine_no (A : Option Addr) (n c : Nat) (w : World) (hr : rightB n = false) :
    Calls Tryz.prog 56 #[.slice A n c] w fun e w' => e = .returned (.iface 111 (.int .i64 3)) ∧ w = w' := by
  go_enter Tryz.func56, Tryz.ntmps56
  go_wp2_with fail
  refine (check_no A n c _ hr).mono ?_
  rintro e w1 ⟨rfl, rfl⟩
  go_wp2_with fail
  go_ret
  exact ⟨rfl, rfl⟩
theorem fine_t (A : Option Addr) (n c : Nat) (l : Bytes) (w : World) (hn : l.length = n) (hr : rightB n = true) (hnc : n ≤ c) (hrd : Rd w A l) (h0 : checkL l = []) :
    Calls Tryz.prog 56 #[.slice A n c] w fun e w' => e = .returned .nilIface ∧ Below w.heap.size w w' := by
  have HC := Hidden.mk (check_yes A n c l w hn hr hnc hrd)
  rw [h0] at HC
  clear h0 hn hr hrd
  go_enter Tryz.func56, Tryz.ntmps56
  go_wp2_with fail
  refine HC.out.mono ?_
  rintro e w1 ⟨v, rfl, hown, hb⟩
  obtain ⟨A1, c1, rfl, -, -⟩ := Src.of_own hown
  simp only [List.length_nil]
  clear hown
  go_wp2_with fail
  go_ret
  exact ⟨rfl, hb⟩
theorem fine_f (A : Option Addr) (n c : Nat) (l : Bytes) (w : World) (hn : l.length = n) (hr : rightB n = true) (hnc : n ≤ c) (hrd : Rd w A l) (h0 : checkL l ≠ []) :
    Calls Tryz.prog 56 #[.slice A n c] w fun e w' => e = .returned (.iface 111 (.int .i64 6)) ∧ Below w.heap.size w w' := by
  have HC := Hidden.mk (check_yes A n c l w hn hr hnc hrd)
  have hl := List.length_pos_iff.2 h0
  generalize checkL l = F at *
  clear h0 hn hr hrd
  go_enter Tryz.func56, Tryz.ntmps56
  go_wp2_with fail
  refine HC.out.mono ?_
  rintro e w1 ⟨v, rfl, hown, hb⟩
  obtain ⟨A1, c1, rfl, -, -⟩ := Src.of_own hown
  clear hown
  have t1 : decide (0 < F.length) = true := by simpa using hl
  clear hl
  go_wp2_with fail
  go_ret
  exact ⟨rfl, hb⟩
theorem strayE_false {n : Nat} {r : Bytes} (h : strayE n r = false) : (0 ≤ rTag r ∧ rTag r ≤ 15) ∧ (1 ≤ rLen r ∧ rLen r ≤ 1000) ∧ 288 ≤ rAt r ∧ rLen r ≤ n ∧ rAt r + rLen r ≤ n := by
  unfold strayE at h
  simp only [Bool.not_eq_false', Bool.and_eq_true] at h
  obtain ⟨⟨h1, h2⟩, h3⟩ := h
  have h1 := tagB_true.1 h1
  have h2 := lenB_true.1 h2
  have h3 := withinB_true.1 h3
  omega
end Go.Proofs.YtbnobjlphmkgeaaGreatDoor
/- Extents: plain words; the contract of extent.Check. -/
namespace Go.Proofs.YtbnobjlphmkgeaaGreatDoor
open Go.RowKit

abbrev Ext := Int × Int
def tcells (x : Ext) : List Value := [.int .i64 x.1, .int .i64 x.2]
theorem tcells_len (x : Ext) : (tcells x).length = 2 := rfl
def badX (n : Int) (e : Ext) : Bool := decide (e.2 < 1) || decide (e.1 < 0) || decide (n < e.2) || decide (n - e.2 < e.1)
def hitX (e o : Ext) : Bool := decide (e.1 < o.1 + o.2) && decide (o.1 < e.1 + e.2)
/-- the fault of the element k -/
def faultX (n : Int) (l : List Ext) (k : Nat) (e : Ext) : Nat := if badX n e = true then 1 else if (l.take k).any (hitX e) = true then 7 else 0
def loopX (n : Int) (l : List Ext) : Nat → Nat
  | 0 => 0
  | k + 1 => if loopX n l k = 0 then faultX n l k (l.getD k (0, 0)) else loopX n l k
/-- what is wrong with extents -/
def chkX (n : Int) (l : List Ext) : Nat := if n < 0 ∨ 6400 < n then 1 else if 200 < l.length then 4 else loopX n l l.length
theorem loopX_stop (n : Int) (l : List Ext) (k : Nat) (h : loopX n l k ≠ 0) : ∀ m, k ≤ m → loopX n l m = loopX n l k
  | 0, hm => by obtain rfl : k = 0 := by omega
                rfl
  | m + 1, hm => by
    by_cases hk : k = m + 1
    · rw [hk]
    · have := loopX_stop n l k h m (by omega)
      rw [loopX, if_neg (by rw [this]; exact h), this]
theorem loopX_zero (n : Int) (l : List Ext) : ∀ k, loopX n l k = 0 → ∀ j, j < k → faultX n l j (l.getD j (0, 0)) = 0
  | 0, _, j, hj => by omega
  | k + 1, h, j, hj => by
    rw [loopX] at h
    split at h
    · rename_i h0
      rcases Nat.lt_succ_iff_lt_or_eq.1 hj with h' | rfl
      · exact loopX_zero n l k h0 j h'
      · exact h
    · rename_i h0; exact absurd h h0
theorem badX_false {n : Int} {e : Ext} (h : badX n e = false) : 1 ≤ e.2 ∧ 0 ≤ e.1 ∧ e.2 ≤ n ∧ e.1 + e.2 ≤ n := by
  unfold badX at h
  simp only [Bool.or_eq_false_iff, decide_eq_false_iff_not] at h
  omega
theorem faultX_zero {n : Int} {l : List Ext} {k : Nat} {e : Ext} (h : faultX n l k e = 0) : badX n e = false ∧ (l.take k).any (hitX e) = false := by
  unfold faultX at h
  split at h
  · cases h
  · rename_i h1
    split at h
    · cases h
    · rename_i h2
      exact ⟨by simpa using h1, by simpa using h2⟩
theorem RdX.take {X : Type} {cells : X → List Value} {C : Nat} {w : World} {A : Option Addr} {L : List X} (h : RdX cells C w A L) (k : Nat) : RdX cells C w A (L.take k) := fun i hi => by
  have hi' : i < L.length := by rw [List.length_take] at hi; omega
  obtain ⟨b, off, hA, hc⟩ := h i hi'
  exact ⟨b, off, hA, fun q u hq => hc q u (by rwa [List.getElem_take] at hq)⟩
/-- the closure of Check -/
theorem hit1_any (e x : Ext) (Bx : Nat) (W : World) (h1 : W.cell? ⟨Bx, 0, none⟩ = some (.int .i64 e.1)) (h2 : W.cell? ⟨Bx, 1, none⟩ = some (.int .i64 e.2)) (he : 0 ≤ e.1 ∧ e.1 ≤ 6400 ∧ 0 ≤ e.2 ∧ e.2 ≤ 6400) (hx : 0 ≤ x.1 ∧ x.1 ≤ 6400 ∧ 0 ≤ x.2 ∧ x.2 ≤ 6400) :
    Calls Tryz.prog 187 #[.agg #[.int .i64 x.1, .int .i64 x.2], .pointer (some ⟨Bx, 0, none⟩)] W fun e' w' => e' = .returned (.bool (hitX e x)) ∧ Below W.heap.size W w' := by
  obtain ⟨e1, e2⟩ := e
  obtain ⟨x1, x2⟩ := x
  dsimp only at *
  have hlt := block_lt_of_cell h1
  have hW : Below W.heap.size W (W.alloc (.cells #[.int .i64 x1, .int .i64 x2] 64)) := (Below.refl _ _).alloc (Nat.le_refl _) _
  have s1 : IntKind.i64.wrap (x1 + x2) = x1 + x2 := IntWalk.i64_in _ (by omega)
  have s2 : IntKind.i64.wrap (e1 + e2) = e1 + e2 := IntWalk.i64_in _ (by omega)
  unfold hitX
  dsimp only
  by_cases hc : e1 < x1 + x2
  · have d1 : decide (e1 < x1 + x2) = true := by simpa using hc
    go_enter Tryz.func187, Tryz.ntmps187
    go_wp2_with fail
    go_ret
    exact ⟨by simp, hW⟩
  · have d1 : decide (e1 < x1 + x2) = false := by simpa using hc
    go_enter Tryz.func187, Tryz.ntmps187
    go_wp2_with fail
    go_ret
    exact ⟨by simp, hW⟩
theorem idxX_check (p : Ext → Bool) (A : Option Addr) (n c : Nat) (L : List Ext) (cap : Value) (w : World) (hn : L.length = n) (hl : n ≤ 1000) (hr : RdX tcells 2 w A L)
    (hP : ∀ x ∈ L, ∀ W, Below w.heap.size w W → Calls Tryz.prog 187 #[.agg #[.int .i64 x.1, .int .i64 x.2], cap] W fun e w' => e = .returned (.bool (p x)) ∧ Below W.heap.size W w') :
    Calls Tryz.prog 218 #[.slice A n c, .func (.func 187) #[] #[cap]] w fun e w' => ∃ z : Int, e = .returned (.int .i64 z) ∧ decide (0 ≤ z) = L.any p ∧ Below w.heap.size w w' := by
  subst hn
  have HP := Hidden.mk hP
  clear hP
  go_enter Tryz.func218, Tryz.ntmps218
  go_wp2_with fail
  go_loopw [8] (fun i wr => Below w.heap.size w wr ∧ ∃ k : Nat, k ≤ L.length ∧ i = .int .i64 k ∧ Hidden (∀ x ∈ L.take k, p x = false)) (fun i _ => L.length - (intOf i).toNat)
  case atStart => exact ⟨Below.refl _ _, 0, Nat.zero_le _, rfl, ⟨by simp⟩⟩
  case round =>
    obtain ⟨hbel, k, hk, rfl, hnot⟩ := hrel
    by_cases hlt : k < L.length
    · obtain ⟨b, off, rfl, hcx⟩ := (hr.below hbel) k hlt
      have c0 := hcx 0 _ rfl
      have c1 := hcx 1 _ rfl
      rw [Nat.add_zero] at c0
      have hp := HP.out L[k] (List.getElem_mem hlt) wr hbel
      have HPK := Hidden.mk hp
      have i0 : (0 : Int) ≤ k := by omega
      have i1 : (k : Int) < L.length := by omega
      clear hp hcx
      go_wp2_with fail
      refine (HPK.out).mono ?_
      rintro e w1 ⟨rfl, hb1⟩
      have hB1 := hbel.trans (hb1.mono hbel.size)
      cases he : p L[k] with
      | true =>
        have hi : Hidden (true = L.any p) := ⟨(List.any_eq_true.2 ⟨L[k], List.getElem_mem hlt, he⟩).symm⟩
        clear he hb1 hbel
        go_wp2_with fail
        go_ret
        exact ⟨_, rfl, by rw [← hi.out]; simp, hB1⟩
      | false =>
        have hnk : Hidden (∀ x ∈ L.take (k + 1), p x = false) := ⟨forall_take_succ' hlt hnot.out he⟩
        clear he hnot hb1 hbel
        go_wp2_with fail
        go_roundw
        case rel => exact ⟨hB1, k + 1, by omega, by go_num, hnk⟩
        case measure => simp [intOf]; omega
    · have hi : Hidden (false = L.any p) := ⟨by
        have := hnot.out
        rw [List.take_of_length_le (by omega)] at this
        symm; simpa using this⟩
      go_wp2_with fail
      go_ret
      exact ⟨-1, rfl, by rw [← hi.out]; rfl, hbel⟩
theorem cfX_check (p : Ext → Bool) (A : Option Addr) (n c : Nat) (L : List Ext) (cap : Value) (w : World) (hn : L.length = n) (hl : n ≤ 1000) (hr : RdX tcells 2 w A L)
    (hP : ∀ x ∈ L, ∀ W, Below w.heap.size w W → Calls Tryz.prog 187 #[.agg #[.int .i64 x.1, .int .i64 x.2], cap] W fun e w' => e = .returned (.bool (p x)) ∧ Below W.heap.size W w') :
    Calls Tryz.prog 186 #[.slice A n c, .func (.func 187) #[] #[cap]] w fun e w' => e = .returned (.bool (L.any p)) ∧ Below w.heap.size w w' := by
  have HC := Hidden.mk (idxX_check p A n c L cap w hn hl hr hP)
  clear hP
  go_enter Tryz.func186, Tryz.ntmps186
  go_wp2_with fail
  refine HC.out.mono ?_
  rintro e w1 ⟨z, rfl, hz, hb⟩
  have HZ := Hidden.mk hz
  clear hz
  go_wp2_with fail
  go_ret
  exact ⟨congrArg (fun b => Ending.returned (.bool b)) HZ.out, hb⟩
theorem run_headX (A : Option Addr) (n c k : Nat) (hkc : k ≤ c) (W : World) :
    (Instr.sliceAt 114 (.slice A n c) none (some (.int .i64 k)) none).run Tryz.prog W = .ok (.slice A k c) W := by
  obtain ⟨i0, hi0, hz0, hz1, hz2⟩ := info_parts (show (Tryz.prog.info? 64).map (fun i => (i.zero, i.size, i.bytes)) = some (some (.agg #[.int .i64 0, .int .i64 0]), 2, 16) by kernel_rfl)
  cases A <;> simp [Instr.sliceAt, Instr.slice, Instr.sliceBounds, Instr.sliceBound, run_underlying Tryz.underlying114, asIntOf, sizeOf, typeInfo, hi0, hkc, Addr.add]
set_option maxRecDepth 100000 in
theorem xcheck_any (n : Int) (A : Option Addr) (m c : Nat) (l : List Ext) (w : World) (hl : l.length = m) (hmc : m ≤ c) (hr : RdX tcells 2 w A l) :
    Calls Tryz.prog 146 #[.int .i64 n, .slice A m c] w fun e w' => e = .returned (errV (chkX n l)) ∧ Below w.heap.size w w' := by
  by_cases h1 : n < 0
  · have HC : Hidden (chkX n l = 1) := ⟨by unfold chkX; rw [if_pos (.inl h1)]⟩
    clear hr hl
    go_enter Tryz.func146, Tryz.ntmps146
    go_wp2_with fail
    go_ret
    exact ⟨by rw [HC.out]; rfl, Below.refl _ _⟩
  by_cases h2 : 6400 < n
  · have HC : Hidden (chkX n l = 1) := ⟨by unfold chkX; rw [if_pos (.inr h2)]⟩
    clear hr hl
    go_enter Tryz.func146, Tryz.ntmps146
    go_wp2_with fail
    go_ret
    exact ⟨by rw [HC.out]; rfl, Below.refl _ _⟩
  have d1 : decide (n < 0) = false := by simpa using h1
  have d2 : decide (6400 < n) = false := by simpa using h2
  by_cases h3 : 200 < m
  · have HC : Hidden (chkX n l = 4) := ⟨by unfold chkX; rw [if_neg (by omega), if_pos (by omega)]⟩
    have d3 : decide (200 < m) = true := by simpa using h3
    clear hr hl
    go_enter Tryz.func146, Tryz.ntmps146
    go_wp2_with fail
    go_ret
    exact ⟨by rw [HC.out]; rfl, Below.refl _ _⟩
  have d3 : decide (200 < m) = false := by simpa using h3
  have HC : Hidden (chkX n l = loopX n l m) := ⟨by unfold chkX; rw [if_neg (by omega), if_neg (by omega), hl]⟩
  have HL := Hidden.mk hl
  have HR := Hidden.mk hr
  clear hr hl
  go_enter Tryz.func146, Tryz.ntmps146
  go_wp2_with fail
  go_loopg [22] m (fun q i wr => ∃ k : Nat, k ≤ m ∧ q = m - k ∧ i = .int .i64 (k : Int) ∧ Hidden (Below w.heap.size w wr ∧ loopX n l k = 0))
  case atStart => exact ⟨0, by omega, rfl, rfl, ⟨Below.refl _ _, rfl⟩⟩
  case round =>
    obtain ⟨k, hk, rfl, rfl, hst⟩ := hrel
    by_cases hlt : k < m
    · have hkl : k < l.length := by have := HL.out; omega
      obtain ⟨p, off, rfl, hcx⟩ := (HR.out.below hst.out.1) k hkl
      have c0 := hcx 0 _ rfl
      have c1 := hcx 1 _ rfl
      rw [Nat.add_zero] at c0
      have HF : Hidden (loopX n l (k + 1) = faultX n l k l[k]) := ⟨by rw [loopX, if_pos hst.out.2]; simp [hkl]⟩
      have HG : Hidden (faultX n l k l[k] = if badX n l[k] = true then 1 else if (l.take k).any (hitX l[k]) = true then 7 else 0) := ⟨rfl⟩
      have HBX : Hidden (badX n l[k] = (decide (l[k].2 < 1) || decide (l[k].1 < 0) || decide (n < l[k].2) || decide (n - l[k].2 < l[k].1))) := ⟨rfl⟩
      have HEND : Hidden (∀ x, x ≠ 0 → loopX n l (k + 1) = x → chkX n l = x) := ⟨fun x hx he => by rw [HC.out, loopX_stop n l (k + 1) (by rw [he]; exact hx) m (by omega), he]⟩
      have k0 : (0 : Int) ≤ k := by omega
      have k1 : (k : Int) < m := by omega
      have HEL : Hidden (l[k].1 = l[k].1 ∧ l[k].2 = l[k].2) := ⟨rfl, rfl⟩
      have hall : ∀ j, j < k → badX n (l.getD j (0, 0)) = false := fun j hj => (faultX_zero (loopX_zero n l k hst.out.2 j hj)).1
      have hprev : ∀ x ∈ l.take k, 0 ≤ x.1 ∧ x.1 ≤ 6400 ∧ 0 ≤ x.2 ∧ x.2 ≤ 6400 := fun x hx => by
        obtain ⟨j, hj, rfl⟩ := List.getElem_of_mem hx
        rw [List.length_take] at hj
        have := hall j (by omega)
        rw [List.getElem_take]
        have he : l.getD j (0, 0) = l[j] := by simp [show j < l.length by omega]
        rw [he] at this
        have := badX_false this
        omega
      have HPREV := Hidden.mk hprev
      have hrt := (HR.out.below hst.out.1).take k
      have HRT := Hidden.mk hrt
      clear hcx hall hprev hrt
      have HHIT : Hidden (∀ x : Ext, hitX l[k] x = hitX (l[k].1, l[k].2) x) := ⟨fun _ => rfl⟩
      generalize hlk : l[k] = e at *
      obtain ⟨e1, e2⟩ := e
      dsimp only at HF HG HBX c0 c1 HHIT
      have hal : Below wr.heap.size wr (wr.alloc (.cells #[.int .i64 e1, .int .i64 e2] 64)) := (Below.refl _ _).alloc (Nat.le_refl _) _
      have HB2 : Hidden (Below w.heap.size w (wr.alloc (.cells #[.int .i64 e1, .int .i64 e2] 64))) := ⟨hst.out.1.trans (hal.mono hst.out.1.size)⟩
      have hbk : (wr.alloc (.cells #[.int .i64 e1, .int .i64 e2] 64)).heap[wr.heap.size]? = some (.cells #[.int .i64 e1, .int .i64 e2] 64 (0, 0)) := heap_alloc_new wr _
      have HBK := Hidden.mk hbk
      have HLK := Hidden.mk hlk
      have HRT2 := Hidden.mk (HRT.out.below hal)
      clear hal hbk hlk HEL HRT
      by_cases b1 : e2 < 1
      · have t1 : decide (e2 < 1) = true := by simpa using b1
        have HE := Hidden.mk (HEND.out 1 (by decide) (by rw [HF.out, HG.out, if_pos (by rw [HBX.out, t1]; rfl)]))
        go_wp2_with fail
        go_ret
        exact ⟨by rw [HE.out]; rfl, HB2.out⟩
      have t1 : decide (e2 < 1) = false := by simpa using b1
      by_cases b2 : e1 < 0
      · have t2 : decide (e1 < 0) = true := by simpa using b2
        have HE := Hidden.mk (HEND.out 1 (by decide) (by rw [HF.out, HG.out, if_pos (by rw [HBX.out, t1, t2]; rfl)]))
        go_wp2_with fail
        go_ret
        exact ⟨by rw [HE.out]; rfl, HB2.out⟩
      have t2 : decide (e1 < 0) = false := by simpa using b2
      by_cases b3 : n < e2
      · have t3 : decide (n < e2) = true := by simpa using b3
        have HE := Hidden.mk (HEND.out 1 (by decide) (by rw [HF.out, HG.out, if_pos (by rw [HBX.out, t1, t2, t3]; rfl)]))
        go_wp2_with fail
        go_ret
        exact ⟨by rw [HE.out]; rfl, HB2.out⟩
      have t3 : decide (n < e2) = false := by simpa using b3
      have s1 : IntKind.i64.wrap (n - e2) = n - e2 := IntWalk.i64_in _ (by omega)
      by_cases b4 : n - e2 < e1
      · have t4 : decide (n - e2 < e1) = true := by simpa using b4
        have HE := Hidden.mk (HEND.out 1 (by decide) (by rw [HF.out, HG.out, if_pos (by rw [HBX.out, t1, t2, t3, t4]; rfl)]))
        go_wp2_with fail
        go_ret
        exact ⟨by rw [HE.out]; rfl, HB2.out⟩
      have t4 : decide (n - e2 < e1) = false := by simpa using b4
      have HBAD : Hidden (badX n (e1, e2) = false) := ⟨by rw [HBX.out, t1, t2, t3, t4]; rfl⟩
      have hsl := run_headX (some ⟨p, off, none⟩) m c k (by omega)
      go_wp2_with fail
      generalize wr.alloc (.cells #[.int .i64 e1, .int .i64 e2] 64) = w2 at *
      generalize wr.heap.size = Bx at *
      clear c0 c1 b1 b2 b3 b4
      have y0 : ∀ W, Below w2.heap.size w2 W → W.cell? ⟨Bx, 0, none⟩ = some (.int .i64 e1) ∧ W.cell? ⟨Bx, 1, none⟩ = some (.int .i64 e2) := fun W hW => by
        have hb := (hW.block _ (Array.getElem?_eq_some_iff.1 HBK.out).1).trans HBK.out
        exact ⟨by simp [World.cell?, hb], by simp [World.cell?, hb]⟩
      have hb2 := badX_false HBAD.out
      have hcf := cfX_check (hitX (e1, e2)) (some ⟨p, off, none⟩) k c (l.take k) (.pointer (some ⟨Bx, 0, none⟩)) w2 (by rw [List.length_take]; omega) (by omega) HRT2.out
        (fun x hx W hW => hit1_any (e1, e2) x Bx W (y0 W hW).1 (y0 W hW).2 (by dsimp only at hb2 ⊢; omega) (HPREV.out x hx))
      have HCF := Hidden.mk hcf
      clear hcf y0 hb2
      refine HCF.out.mono ?_
      rintro e w3 ⟨rfl, hb⟩
      have HB3 := Hidden.mk (HB2.out.trans (hb.mono HB2.out.size))
      clear hb
      cases hq : (l.take k).any (hitX (e1, e2)) with
      | true =>
        have HE := Hidden.mk (HEND.out 7 (by decide) (by rw [HF.out, HG.out, if_neg (by rw [HBAD.out]; decide), if_pos hq]))
        clear hq
        go_wp2_with fail
        go_ret
        exact ⟨by rw [HE.out]; rfl, HB3.out⟩
      | false =>
        have HE : Hidden (loopX n l (k + 1) = 0) := ⟨by rw [HF.out, HG.out, if_neg (by rw [HBAD.out]; decide), if_neg (by rw [hq]; decide)]⟩
        have q1 : IntKind.i64.wrap ((k : Int) + 1) = (k : Int) + 1 := IntWalk.i64_in _ (by omega)
        clear hq
        go_wp2_with fail
        go_roundg (m - (k + 1))
        case measure => omega
        case rel => exact ⟨k + 1, by omega, rfl, by go_num, ⟨HB3.out, HE.out⟩⟩
    · obtain rfl : k = m := by omega
      have HF : Hidden (chkX n l = 0) := ⟨by rw [HC.out]; exact hst.out.2⟩
      go_wp2_with fail
      go_ret
      exact ⟨by rw [HF.out]; rfl, hst.out.1⟩
end Go.Proofs.YtbnobjlphmkgeaaGreatDoor
/- A row of structs that the library has sorted: what it holds then. No program in sight. -/
namespace Go.Proofs.YtbnobjlphmkgeaaGreatDoor
open Go.RowKit Go.Sort Go.Shelf Go.Lib

theorem flatK_list {α : Type} [Inhabited α] (enc : α → List Value) (k : Nat) (hk : ∀ x, (enc x).length = k) (h0 : 0 < k) (d : Array α) : (flatK enc k d).toList = d.toList.flatMap enc := by
  apply List.ext_getElem?
  intro t
  by_cases ht : t < d.size * k
  · have h1 : t / k < d.size := by rw [Nat.div_lt_iff_lt_mul h0]; exact ht
    have h2 := flat_at enc k hk d.toList (t / k) (by simpa using h1) (t % k) (Nat.mod_lt _ h0)
    rw [Nat.div_add_mod' t k] at h2
    rw [h2]
    have h3 : t < (flatK enc k d).size := by simpa using ht
    have h4 := get_flatK enc k d t ht
    rw [getElem!_pos _ t h3] at h4
    rw [Array.getElem?_toList, Array.getElem?_eq_getElem h3, h4]
    have h5 : t % k < (enc d[t / k]!).length := by rw [hk]; exact Nat.mod_lt _ h0
    have h6 : d[t / k]! = d.toList[t / k]'(by simpa using h1) := by rw [getElem!_pos d (t / k) h1, Array.getElem_toList]
    rw [getElem!_pos (enc d[t / k]!) (t % k) h5, ← h6, List.getElem?_eq_getElem h5]
  · have hl : (d.toList.flatMap enc).length = d.size * k := by
      rw [List.length_flatMap]
      have : d.toList.map (fun x => (enc x).length) = List.replicate d.size k := by
        rw [List.eq_replicate_iff]
        exact ⟨by simp, fun b hb => by obtain ⟨x, _, rfl⟩ := List.mem_map.1 hb; exact hk x⟩
      rw [this]; simp
    rw [List.getElem?_eq_none (by rw [Array.length_toList, size_flatK]; omega), List.getElem?_eq_none (by omega)]
theorem take_putCellsK (cur F : Array Value) (h : F.size ≤ cur.size) : (putCells id 0 F cur).toList.take F.size = F.toList := by
  apply List.ext_getElem?
  intro j
  by_cases hj : j < F.size
  · rw [List.getElem?_take_of_lt hj, Array.getElem?_toList]
    simp [putCells, hj, show j < cur.size by omega]
  · rw [List.getElem?_take_eq_none (by omega), List.getElem?_eq_none (by simp; omega)]
theorem holdsK_own {α : Type} [Inhabited α] {enc : α → List Value} {k : Nat} (hk : ∀ x, (enc x).length = k) (h0 : 0 < k) {w : World} {base : Nat} {e : TypeId} {g n cap : Nat} {L : List α} (h : w.ownsRow base e k (.slice (some ⟨g, 0, none⟩) n cap) n (L.flatMap enc)) :
    HoldsK enc k w g 0 L.toArray := by
  rcases h.2 with ⟨h1, _⟩ | ⟨g', cap', cur, he, _, hh, _⟩
  · cases h1
  · injection he with he _ hcap
    injection he with he
    injection he with he
    subst he hcap
    intro j hj
    have hf := flatK_list enc k hk h0 L.toArray
    have hj' : j < L.length * k := by simpa using hj
    have hc : (L.flatMap enc)[j]? = some ((flatK enc k L.toArray)[j]!) := by
      have : (flatK enc k L.toArray).toList[j]? = some ((flatK enc k L.toArray)[j]!) := by
        rw [getElem!_pos _ j hj, Array.getElem?_toList, Array.getElem?_eq_getElem hj]
      rw [hf] at this
      simpa using this
    have := h.cells (g := g) rfl j _ hc
    rw [Addr.add_lit] at this
    exact ⟨this, by simp [World.frozen?, hh]⟩
theorem own_sortedK {α : Type} [Inhabited α] {enc : α → List Value} {k : Nat} (hk : ∀ x, (enc x).length = k) (h0 : 0 < k) {w : World} {base : Nat} {e : TypeId} {g n cap m : Nat} {L : List α} {d : Array α} {os : Array Obj} (hd : d.size = n) (h : w.ownsRow base e k (.slice (some ⟨g, 0, none⟩) n cap) n (L.flatMap enc)) :
    (sortWorldK enc k w g 0 m d os).ownsRow base e k (.slice (some ⟨g, 0, none⟩) n cap) n (d.toList.flatMap enc) ∧ w.grownBy (sortWorldK enc k w g 0 m d os) (some g) := by
  rcases h.2 with ⟨h1, _⟩ | ⟨g', cap', cur, he, hb, hh, hc, hm, hz, ht⟩
  · cases h1
  · injection he with he _ hcap
    injection he with he
    injection he with he
    subst he hcap
    have hg : g < w.heap.size := (Array.getElem?_eq_some_iff.1 hh).1
    have hfs : (flatK enc k d).size = n * k := by simp [hd]
    have hheap : (sortWorldK enc k w g 0 m d os).heap[g]? = some (.cells (putCells id 0 (flatK enc k d) cur) e (0, 0)) := by
      unfold sortWorldK
      rw [heap_grow_old _ _ (by simpa [putRowK] using hg)]
      simp [putRowK, putRow, mapBlock, Sort.ahead, Array.getElem?_modify, hh, onCells]
    have hle : n * k ≤ cap * k := Nat.mul_le_mul_right _ hc
    refine ⟨⟨?_, .inr ⟨g, cap, _, rfl, hb, hheap, hc, hm, by simp [putCells, hz], ?_⟩⟩, ?_⟩
    · rw [← flatK_list enc k hk h0 d, Array.length_toList, hfs]
    · rw [← hfs, take_putCellsK _ _ (by rw [hfs, hz]; exact hle), flatK_list enc k hk h0 d]
    · unfold sortWorldK
      refine ⟨rfl, rfl, rfl, by simp [putRowK], fun q hq hne => ?_⟩
      rw [heap_grow_old _ _ (by simpa [putRowK] using hq)]
      have : g ≠ q := fun e => hne (by rw [e])
      simp [putRowK, putRow, mapBlock, Sort.ahead, Array.getElem?_modify, this]
/-- sorted as the library sorts -/
def pdqL {α : Type} [Inhabited α] (cf : α → α → Int) (l : List α) : List α := (pdq (ltOf cf) l.toArray 0 l.length (Lib.bitLen l.length) true true).toList
theorem pdqL_perm {α : Type} [Inhabited α] (cf : α → α → Int) (hO : SWO (ltOf cf)) (l : List α) : (pdqL cf l).Perm l ∧ (pdqL cf l).Pairwise (fun a b => ltOf cf b a = false) := by
  have h := pdq_sorts (ltOf cf) hO l.toArray 0 l.length (Lib.bitLen l.length) true true (Nat.zero_le _) (by simp) (Or.inl rfl)
  obtain ⟨⟨hs, _, hp⟩, hsort⟩ := h
  have hs' : (pdq (ltOf cf) l.toArray 0 l.length (Lib.bitLen l.length) true true).size = l.length := by simpa using hs
  refine ⟨?_, ?_⟩
  · unfold pdqL
    have e1 : ∀ d : Array α, d.size = l.length → (d.extract 0 l.length).toList = d.toList := fun d hd => by
      rw [← hd]; simp
    rw [e1 _ hs', e1 _ (by simp)] at hp
    simpa using hp
  · unfold pdqL
    rw [List.pairwise_iff_getElem]
    intro i j hi hj hij
    have h1 := hsort i j (Nat.zero_le _) hij (by rw [Array.length_toList] at hj; omega)
    rw [getElem!_pos _ j (by simpa using hj), getElem!_pos _ i (by simpa using hi)] at h1
    simpa using h1
end Go.Proofs.YtbnobjlphmkgeaaGreatDoor
/- Laid: library functions whose contracts are proved over whatever program: the table of numbers, and a field a function or a type. -/
namespace Go.Proofs.YtbnobjlphmkgeaaGreatDoor
open Go.Shelf
def layX_ren : Go.Shelf.Ren := ⟨fun | 6 => 189 | 15 => 156 | 14 => 219 | 28 => 204 | 29 => 205 | 20 => 230 | 21 => 231 | 22 => 232 | 23 => 233 | 24 => 234 | 25 => 235 | 26 => 236 | 27 => 237 | 46 => 258 | 47 => 222 | 48 => 223 | 49 => 259 | 50 => 260 | 57 => 268 | n => n, fun | 22 => 114 | 24 => 64 | 25 => 260 | 3 => 3 | 39 => 213 | 0 => 0 | 53 => 272 | 55 => 274 | 4 => 4 | 46 => 266 | 45 => 265 | 50 => 217 | 5 => 5 | 9 => 9 | 66 => 296 | 70 => 300 | 76 => 310 | 77 => 58 | n => n, fun | n => n⟩
theorem layX : Go.Proofs.SlLaysF0.n6 Tryz.prog layX_ren := {
  mixed := by kernel_rfl
  f6 := ⟨Tryz.f189.name, by decide, Tryz.func189.trans (congrArg some (by kernel_rfl))⟩
  f14 := ⟨Tryz.f219.name, by decide, Tryz.func219.trans (congrArg some (by kernel_rfl))⟩
  f15 := Tryz.func156.trans (congrArg some (by kernel_rfl))
  f20 := ⟨Tryz.f230.name, by decide, Tryz.func230.trans (congrArg some (by kernel_rfl))⟩
  f21 := ⟨Tryz.f231.name, by decide, Tryz.func231.trans (congrArg some (by kernel_rfl))⟩
  f22 := ⟨Tryz.f232.name, by decide, Tryz.func232.trans (congrArg some (by kernel_rfl))⟩
  f23 := ⟨Tryz.f233.name, by decide, Tryz.func233.trans (congrArg some (by kernel_rfl))⟩
  f24 := ⟨Tryz.f234.name, by decide, Tryz.func234.trans (congrArg some (by kernel_rfl))⟩
  f25 := ⟨Tryz.f235.name, by decide, Tryz.func235.trans (congrArg some (by kernel_rfl))⟩
  f26 := ⟨Tryz.f236.name, by decide, Tryz.func236.trans (congrArg some (by kernel_rfl))⟩
  f27 := ⟨Tryz.f237.name, by decide, Tryz.func237.trans (congrArg some (by kernel_rfl))⟩
  f28 := Tryz.func204.trans (congrArg some (by kernel_rfl))
  f29 := Tryz.func205.trans (congrArg some (by kernel_rfl))
  f46 := ⟨Tryz.f258.name, by decide, Tryz.func258.trans (congrArg some (by kernel_rfl))⟩
  f47 := Tryz.func222.trans (congrArg some (by kernel_rfl))
  f48 := Tryz.func223.trans (congrArg some (by kernel_rfl))
  f49 := ⟨Tryz.f259.name, by decide, Tryz.func259.trans (congrArg some (by kernel_rfl))⟩
  f50 := ⟨Tryz.f260.name, by decide, Tryz.func260.trans (congrArg some (by kernel_rfl))⟩
  f57 := ⟨Tryz.f268.name, by decide, Tryz.func268.trans (congrArg some (by kernel_rfl))⟩
  t0 := Tryz.underlying0
  a0 := Tryz.isAgg0
  z0 := Tryz.sizeOf0
  v0 := Tryz.zeroValue0
  t3 := Tryz.underlying3
  a3 := Tryz.isAgg3
  z3 := Tryz.sizeOf3
  v3 := Tryz.zeroValue3
  t4 := Tryz.underlying4
  a4 := Tryz.isAgg4
  z4 := Tryz.sizeOf4
  v4 := Tryz.zeroValue4
  t5 := Tryz.underlying5
  a5 := Tryz.isAgg5
  z5 := Tryz.sizeOf5
  v5 := Tryz.zeroValue5
  t9 := Tryz.underlying9
  a9 := Tryz.isAgg9
  z9 := Tryz.sizeOf9
  v9 := Tryz.zeroValue9
  t22 := Tryz.underlying114
  a22 := Tryz.isAgg114
  z22 := Tryz.sizeOf114
  v22 := Tryz.zeroValue114
  t25 := Tryz.underlying260
  a25 := Tryz.isAgg260
  z25 := Tryz.sizeOf260
  v25 := Tryz.zeroValue260
  t39 := Tryz.underlying213
  a39 := Tryz.isAgg213
  z39 := Tryz.sizeOf213
  v39 := Tryz.zeroValue213
  t45 := Tryz.underlying265
  a45 := Tryz.isAgg265
  z45 := Tryz.sizeOf265
  v45 := Tryz.zeroValue265
  t46 := Tryz.underlying266
  a46 := Tryz.isAgg266
  z46 := Tryz.sizeOf266
  v46 := Tryz.zeroValue266
  t50 := Tryz.underlying217
  a50 := Tryz.isAgg217
  z50 := Tryz.sizeOf217
  v50 := Tryz.zeroValue217
  t53 := Tryz.underlying272
  a53 := Tryz.isAgg272
  z53 := Tryz.sizeOf272
  v53 := Tryz.zeroValue272
  t55 := Tryz.underlying274
  a55 := Tryz.isAgg274
  z55 := Tryz.sizeOf274
  v55 := Tryz.zeroValue274
  t66 := Tryz.underlying296
  a66 := Tryz.isAgg296
  z66 := Tryz.sizeOf296
  v66 := Tryz.zeroValue296
  t70 := Tryz.underlying300
  a70 := Tryz.isAgg300
  z70 := Tryz.sizeOf300
  v70 := Tryz.zeroValue300
  t76 := Tryz.underlying310
  a76 := Tryz.isAgg310
  z76 := Tryz.sizeOf310
  v76 := Tryz.zeroValue310
  t77 := Tryz.underlying58
  a77 := Tryz.isAgg58
  z77 := Tryz.sizeOf58
  v77 := Tryz.zeroValue58 }
end Go.Proofs.YtbnobjlphmkgeaaGreatDoor
