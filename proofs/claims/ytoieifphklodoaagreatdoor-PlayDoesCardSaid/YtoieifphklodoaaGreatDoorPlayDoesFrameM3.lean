/- Contracts and plain laws, put together: Img3, CheckP, Img4, Chk1, Chk2, Chk4, Img5, RefN, RefP, RefM, RefNm, RefI1, RefI2, RefD1, View8, View9, PagesV, View4, ViewPartsP, Rows2, SameN, View10, View11, View12, ViewBackP, ViewBack0, ImageApart0, RefI3, RefI4, Chk3, Chk5, Chk6, Img6. -/
import Derived.Test.YtoieifphklodoaaGreatDoorPlayDoesFrameM2
import Derived.Test.YtoieifphklodoaaGreatDoorPlayDoesFrameM1
import Derived.Deep.RegionHeld3
import Derived.Deep.AppendLies
import Derived.Deep.LoopGhost
import Derived.StillTailTactics
import Derived.BigQuiet
/- The contract of image.PutRoot. -/
namespace Go.Proofs.YtoieifphklodoaaGreatDoor
open Go.RowKit

abbrev rootV (s : Bytes) (h : Int) : Value := .agg #[sv s, .int .i64 h]
def rootO (i : Int) : Nat := (200 + i * 11).toNat
theorem rawRoot_any (A : Option Addr) (n c : Nat) (i : Int) (w : World) (h1 : 0 ≤ i) (h2 : i < 8) (hn : 288 ≤ n) (hc : n ≤ c) :
    Calls Tryz.prog 132 #[.slice A n c, .int .i64 i] w fun e w' => e = .returned (.slice (A.map (·.add (rootO i))) 11 (c - rootO i)) ∧ w = w' := by
  obtain ⟨k, rfl⟩ := Int.eq_ofNat_of_zero_le h1
  have he : Hidden (rootO (k : Int) = 200 + k * 11) := ⟨by unfold rootO; omega⟩
  have hk : k < 8 := by omega
  go_enter Tryz.func132, Tryz.ntmps132
  go_wp2
  go_ret
  rw [he.out]
  refine ⟨?_, rfl⟩
  show Ending.returned (.slice (A.map (·.add (200 + k * 11))) ((200 + (k + 1) * 11) - (200 + k * 11)) (c - (200 + k * 11))) = _
  rw [show (200 + (k + 1) * 11) - (200 + k * 11) = 11 from by omega]

set_option maxRecDepth 100000 in
theorem root_zero (A : Option Addr) (n c : Nat) (l : Bytes) (i : Int) (w : World) (hn : l.length = n) (_hnc : n ≤ c) (hrd : Rd w A l) (hr : rightB n = true) (hi1 : 0 ≤ i) (hi2 : i < 8) :
    Calls Tryz.prog 148 #[.slice A n c, .int .i64 i, rootV [] 0] w fun e w' => ∃ g cap, e = .returned (.tuple #[.slice (some ⟨g, 0, none⟩) n cap, .nilIface]) ∧ w.heap.size ≤ g ∧ Row w' 5 g cap (splice l (rootO i) (List.replicate 11 0)) ∧ Below w.heap.size w w' := by
  have hone : handleB 1 = true := by decide
  have hmk := mk_bytes 11 11 rfl (by omega)
  go_enter Tryz.func148, Tryz.ntmps148
  go_wp2_with fail
  refine (check_ok _ _ _ _ _ hr hone).mono ?_
  rintro e w' ⟨rfl, rfl⟩
  go_wp2_with fail
  have hrb := rightB_true.1 hr
  obtain ⟨p0, off0, rfl, hlt0⟩ := hrd.lt (by omega)
  have hW : Below w.heap.size w (w.alloc (.cells #[sv [], .int .i64 0] 150)) := (Below.refl _ _).alloc (Nat.le_refl _) _
  have hB1 := hW.alloc hW.size (.cells (zeroRow 11) 5)
  have hxr := row_zeros (w.alloc (.cells #[sv [], .int .i64 0] 150)) 11 (by simp [maxLen])
  have hxl : (List.replicate 11 (0 : UInt8)).length = 11 := by decide
  simp only [World.size_alloc] at hxr ⊢
  generalize (w.alloc (.cells #[sv [], .int .i64 0] 150)).alloc (.cells (zeroRow 11) 5) = w1 at *
  generalize w.heap.size + 1 = xb at *
  generalize hXL : List.replicate 11 (0 : UInt8) = xl at *
  have HXL := Hidden.mk hXL
  clear hXL
  refine (clone_some _ _ _ l _ hn (by omega) (hrd.below hB1)).mono ?_
  rintro e w2 ⟨g, cap, rfl, hg, hrow, hb2⟩
  have hB2 : Below w.heap.size w w2 := hB1.trans (hb2.mono hB1.size)
  have hgw : w.heap.size ≤ g := Nat.le_trans hB1.size hg
  have hxr2 := hxr.below hb2 hxr.lt
  have hlc := hrow.le
  clear hxr hb2 hB1 hg
  go_wp2_with fail
  refine (rawRoot_any (some ⟨g, 0, none⟩) n cap i _ hi1 hi2 (by omega) (by omega)).mono ?_
  rintro e w3 ⟨rfl, rfl⟩
  simp only [Option.map_some, Addr.add_lit, Nat.zero_add]
  have hro : rootO i + 11 ≤ 288 := by unfold rootO; omega
  generalize hO : rootO i = o at *
  have HO := Hidden.mk hO
  clear hO
  obtain ⟨cur, hcur, _, _, hcs, _⟩ := id hrow
  have hcopy := fun ty => run_copy_rd w2 g o 11 (cap - o) 11 11 11 (some ⟨xb, 0, none⟩) xl cur 5 hcur hxl hxr2.rd rfl (by omega) ty
  rw [List.take_of_length_le (by omega)] at hcopy
  have hrow4 := hrow.set_ o xl (by omega) cur hcur
  have hB4 : Below w.heap.size w (w2.setRow g (setB cur o (xl.map bv))) := below_setRow hB2 hgw _
  generalize w2.setRow g (setB cur o (xl.map bv)) = w4 at *
  clear hcur hcs hxr2 hrow hB2
  go_wp2_with fail
  go_ret2
  exact ⟨g, cap, rfl, hgw, by rw [HO.out, HXL.out]; exact hrow4, hB4⟩

/-- the eleven bytes of a root -/
def rootB (s : Bytes) (h : Int) : Bytes := nameB s ++ [0, 0, UInt8.ofNat h.toNat]
set_option maxRecDepth 100000 in
set_option maxHeartbeats 1000000 in
theorem root_ok (A : Option Addr) (n c : Nat) (l : Bytes) (i : Int) (s : Bytes) (h : Int) (w : World) (hn : l.length = n) (hrd : Rd w A l) (hr : rightB n = true) (hi1 : 0 ≤ i) (hi2 : i < 8) (hh : handleB h = true) (hnm : isName s = true) :
    Calls Tryz.prog 148 #[.slice A n c, .int .i64 i, rootV s h] w fun e w' => ∃ g cap, e = .returned (.tuple #[.slice (some ⟨g, 0, none⟩) n cap, .nilIface]) ∧ w.heap.size ≤ g ∧ Row w' 5 g cap (splice l (rootO i) (rootB s h)) ∧ Below w.heap.size w w' := by
  have hone : handleB 1 = true := by decide
  have hmk := mk_bytes 11 11 rfl (by omega)
  have hB1 := ((Below.refl w.heap.size w).alloc (Nat.le_refl _) (.cells #[sv s, .int .i64 h] 150)).alloc (by simp) (.cells (zeroRow 11) 5)
  have hhb := handleB_true.1 hh
  have hrb := rightB_true.1 hr
  have h8 := nameB_len s hnm
  have hs0 : s.isEmpty = false := by
    cases s with
    | nil => cases hnm
    | cons x r => rfl
  obtain ⟨p0, off0, rfl, hlt0⟩ := hrd.lt (by omega)
  obtain ⟨k, rfl⟩ := Int.eq_ofNat_of_zero_le (show 0 ≤ h by omega)
  go_enter Tryz.func148, Tryz.ntmps148
  go_wp2_with fail
  refine (check_ok _ _ _ _ _ hr hone).mono ?_
  rintro e w' ⟨rfl, rfl⟩
  go_wp2_with fail
  refine (handle_any _ _).mono ?_
  rintro e w' ⟨rfl, rfl⟩
  rw [hh]
  go_wp2_with fail
  refine (putName_ok s _ hnm).mono ?_
  rintro e w1 ⟨gs, rfl, hgs, hsrow, hb⟩
  have hx0 := row_zeros (w.alloc (.cells #[sv s, .int .i64 k] 150)) 11 (by simp [maxLen])
  have hc1 : ((w.alloc (.cells #[sv s, .int .i64 k] 150)).alloc (.cells (zeroRow 11) 5)).cell? ⟨w.heap.size, 1, none⟩ = some (.int .i64 k) := by
    rw [World.cell?_alloc_lt _ _ _ (by simp)]; exact World.cell?_alloc_mark w _ _ (0, 0) 1
  have hBB : Below w.heap.size w w1 := hB1.trans (hb.mono hB1.size)
  have hx1 := hx0.below hb hx0.lt
  have hc2 := (hb.cell (p := ⟨w.heap.size, 1, none⟩) (by simp; omega)).trans hc1
  simp only [World.size_alloc] at hx1 hgs
  clear hx0 hc1 hB1 hb hmk
  obtain ⟨cur, hcur, _, _, hcs, _⟩ := id hx1
  have hcopy := fun ty => run_copy_rd w1 (w.heap.size + 1) 0 11 11 8 8 8 (some ⟨gs, 0, none⟩) (nameB s) cur 5 hcur h8 hsrow.rd rfl (by omega) ty
  rw [List.take_of_length_le (by omega)] at hcopy
  have hx2 := hx1.set_ 0 (nameB s) (by simp; omega) cur hcur
  have hBB2 : Below w.heap.size w (w1.setRow (w.heap.size + 1) (setB cur 0 ((nameB s).map bv))) := below_setRow hBB (by omega) _
  have hc3 : (w1.setRow (w.heap.size + 1) (setB cur 0 ((nameB s).map bv))).cell? ⟨w.heap.size, 1, none⟩ = some (.int .i64 k) := by
    rw [cell_setRow_other _ _ _ _ (by simp)]; exact hc2
  rw [splice_zeros] at hx2
  generalize w1.setRow (w.heap.size + 1) (setB cur 0 ((nameB s).map bv)) = w2 at *
  clear hcur hcs hx1 hBB hc2 hsrow
  obtain ⟨cur, hcur, _, _, hcs, _⟩ := id hx2
  have hcell : w2.cell? ⟨w.heap.size + 1, 10, none⟩ = some (cur[10]'(by omega)) := by
    rw [cell_of_row w2 _ _ _ _ _ hcur]; exact Array.getElem?_eq_getElem (by omega)
  have hfr : w2.frozen? ⟨w.heap.size + 1, 10, none⟩ = false := frozen_of_row w2 _ _ _ _ hcur
  generalize cur[10]'(by omega) = u0 at hcell
  have hst : w2.setCell ⟨w.heap.size + 1, 10, none⟩ (.int .u8 (k : Int)) = w2.setRow (w.heap.size + 1) (setB cur 10 ([UInt8.ofNat k].map bv)) := by
    rw [setCell_eq_setRow w2 _ _ _ _ _ _ hcur]
    have := setB_snoc cur 10 [] (bv (UInt8.ofNat k)) (by simp; omega)
    rw [setB_nil] at this
    simp only [List.length_nil, Nat.add_zero, List.nil_append] at this
    rw [List.map_cons, List.map_nil, ← this]
    congr 2
    simp only [bv, UInt8.toNat_ofNat']
    congr 1
    omega
  have hxr : Row (w2.setCell ⟨w.heap.size + 1, 10, none⟩ (.int .u8 (k : Int))) 5 (w.heap.size + 1) 11 (splice (nameB s ++ List.replicate (11 - (nameB s).length) 0) 10 [UInt8.ofNat k]) := by
    rw [hst]; exact hx2.set_ 10 _ (by simp; omega) cur hcur
  have hB1 : Below w.heap.size w (w2.setCell ⟨w.heap.size + 1, 10, none⟩ (.int .u8 (k : Int))) := hBB2.setCell (by simp) _
  have hXL : splice (nameB s ++ List.replicate (11 - (nameB s).length) 0) 10 [UInt8.ofNat k] = rootB s k := by
    have := splice_app (nameB s ++ [0, 0]) [0] [] [UInt8.ofNat k] rfl
    simp only [List.append_nil, List.length_append, h8] at this
    rw [h8, show List.replicate (11 - 8) (0 : UInt8) = [0, 0] ++ [0] from rfl, ← List.append_assoc]
    rw [show 8 + [(0 : UInt8), 0].length = 10 from rfl] at this
    rw [this]
    simp [rootB]
  have hxl : (rootB s (k : Int)).length = 11 := by simp [rootB, h8]
  rw [hXL] at hxr
  have hc3' := hc3
  clear hst hXL hBB2 hc3' hcur hcs hx2
  go_wp2_with fail
  clear hcell hfr
  generalize w2.setCell ⟨w.heap.size + 1, 10, none⟩ (.int .u8 (k : Int)) = w3 at *
  generalize w.heap.size + 1 = xb at *
  generalize hXL : rootB s (k : Int) = xl at *
  have HXL := Hidden.mk hXL
  clear hXL
  refine (clone_some _ _ _ l _ hn (by omega) (hrd.below hB1)).mono ?_
  rintro e w2 ⟨g, cap, rfl, hg, hrow, hb2⟩
  have hB2 : Below w.heap.size w w2 := hB1.trans (hb2.mono hB1.size)
  have hgw : w.heap.size ≤ g := Nat.le_trans hB1.size hg
  have hxr2 := hxr.below hb2 hxr.lt
  have hlc := hrow.le
  clear hxr hb2 hB1 hg
  go_wp2_with fail
  refine (rawRoot_any (some ⟨g, 0, none⟩) n cap i _ hi1 hi2 (by omega) (by omega)).mono ?_
  rintro e w3 ⟨rfl, rfl⟩
  simp only [Option.map_some, Addr.add_lit, Nat.zero_add]
  have hro : rootO i + 11 ≤ 288 := by unfold rootO; omega
  generalize hO : rootO i = o at *
  have HO := Hidden.mk hO
  clear hO
  obtain ⟨cur, hcur, _, _, hcs, _⟩ := id hrow
  have hcopy := fun ty => run_copy_rd w2 g o 11 (cap - o) 11 11 11 (some ⟨xb, 0, none⟩) xl cur 5 hcur hxl hxr2.rd rfl (by omega) ty
  rw [List.take_of_length_le (by omega)] at hcopy
  have hrow4 := hrow.set_ o xl (by omega) cur hcur
  have hB4 : Below w.heap.size w (w2.setRow g (setB cur o (xl.map bv))) := below_setRow hB2 hgw _
  generalize w2.setRow g (setB cur o (xl.map bv)) = w4 at *
  clear hcur hcs hxr2 hrow hB2
  go_wp2_with fail
  go_ret2
  exact ⟨g, cap, rfl, hgw, by rw [HO.out, HXL.out]; exact hrow4, hB4⟩
end Go.Proofs.YtoieifphklodoaaGreatDoor
/- Plain words for what is wrong with an image, and what mending makes of it. No walk here. -/
namespace Go.Proofs.YtoieifphklodoaaGreatDoor

/-- the five bytes of the handle k + 1 -/
def rawE (l : Bytes) (k : Nat) : Bytes := (l.drop (5 * k)).take 5
/-- the eleven bytes of a root -/
def rawR (l : Bytes) (i : Nat) : Bytes := (l.drop (200 + 11 * i)).take 11
def rHd (r : Bytes) : UInt8 := r.headD 0
def rAt (r : Bytes) : Nat := ofB ((r.drop 1).take 2)
def rLen (r : Bytes) : Nat := ofB ((r.drop 3).take 2)
def rTag (r : Bytes) : Int := ((rHd r).toNat : Int) - 1
def hasE (r : Bytes) : Bool := rHd r != 0
def strayE (n : Nat) (r : Bytes) : Bool := !(tagB (rTag r) && lenB (rLen r) && withinB n (rAt r) (rLen r))
def zeroE (r : Bytes) : Bool := !r.any nonZero
def overE (r s : Bytes) : Bool := decide (rAt r < rAt s + rLen s) && decide (rAt s < rAt r + rLen r)
def wholeE (n : Nat) (r : Bytes) : Bool := hasE r && !strayE n r

/-- a fault -/
structure Flt where
  what : Nat
  which : Nat
/-- what a handle is: 0: none; 1, 2, 3: a fault; 6: right -/
def kindH (n : Nat) (R : Nat → Bytes) (k : Nat) : Nat :=
  if hasE (R k) = true then (if strayE n (R k) = true then 1 else if (List.range k).any (fun j => wholeE n (R j) && overE (R k) (R j)) = true then 2 else 6)
  else (if zeroE (R k) = true then 0 else 3)
def fltOf (kind which : Nat) : List Flt := if kind = 0 ∨ kind = 6 then [] else [⟨kind, which⟩]
def faultsH (n : Nat) (R : Nat → Bytes) (m : Nat) : List Flt := (List.range m).flatMap fun k => fltOf (kindH n R k) (k + 1)
def leadsE (n : Nat) (R : Nat → Bytes) (x : UInt8) : Bool := (List.range 40).any fun k => kindH n R k == 6 && x.toNat == k + 1
def nmR (r : Bytes) : Bytes := nameAt (r.take 8)
def badR (leads : UInt8 → Bool) (r : Bytes) : Bool := !gotName (r.take 8) || r.getD 8 0 != 0 || r.getD 9 0 != 0 || !leads (r.getD 10 0)
def okR (leads : UInt8 → Bool) (r : Bytes) : Bool := !zeroE r && !badR leads r
/-- what a root is: 0: none; 4, 5: a fault; 6: right -/
def kindR (leads : UInt8 → Bool) (S : Nat → Bytes) (i : Nat) : Nat :=
  if zeroE (S i) = true then 0 else if badR leads (S i) = true then 4 else if (List.range i).any (fun j => okR leads (S j) && (nmR (S i) == nmR (S j))) = true then 5 else 6
def faultsR (leads : UInt8 → Bool) (S : Nat → Bytes) (m : Nat) : List Flt := (List.range m).flatMap fun i => fltOf (kindR leads S i) i
/-- what is wrong with an image -/
def checkL (l : Bytes) : List Flt := faultsH l.length (rawE l) 40 ++ faultsR (leadsE l.length (rawE l)) (rawR l) 8

theorem faultsH_succ (n : Nat) (R : Nat → Bytes) (m : Nat) : faultsH n R (m + 1) = faultsH n R m ++ fltOf (kindH n R m) (m + 1) := by
  simp [faultsH, List.range_succ]
theorem faultsR_succ (leads : UInt8 → Bool) (S : Nat → Bytes) (m : Nat) : faultsR leads S (m + 1) = faultsR leads S m ++ fltOf (kindR leads S m) m := by
  simp [faultsR, List.range_succ]
theorem fltOf_len (a b : Nat) : (fltOf a b).length ≤ 1 := by unfold fltOf; split <;> simp
theorem faultsH_len (n : Nat) (R : Nat → Bytes) (m : Nat) : (faultsH n R m).length ≤ m := by
  induction m with
  | zero => simp [faultsH]
  | succ m ih => rw [faultsH_succ, List.length_append]; have := fltOf_len (kindH n R m) (m + 1); omega
theorem faultsR_len (leads : UInt8 → Bool) (S : Nat → Bytes) (m : Nat) : (faultsR leads S m).length ≤ m := by
  induction m with
  | zero => simp [faultsR]
  | succ m ih => rw [faultsR_succ, List.length_append]; have := fltOf_len (kindR leads S m) m; omega
theorem mem_fltOf {a b : Nat} {f : Flt} : f ∈ fltOf a b ↔ ¬ (a = 0 ∨ a = 6) ∧ f = ⟨a, b⟩ := by
  unfold fltOf; split <;> simp_all
theorem mem_checkL {l : Bytes} {f : Flt} : f ∈ checkL l ↔ (∃ k, k < 40 ∧ ¬ (kindH l.length (rawE l) k = 0 ∨ kindH l.length (rawE l) k = 6) ∧ f = ⟨kindH l.length (rawE l) k, k + 1⟩) ∨
    (∃ i, i < 8 ∧ ¬ (kindR (leadsE l.length (rawE l)) (rawR l) i = 0 ∨ kindR (leadsE l.length (rawE l)) (rawR l) i = 6) ∧ f = ⟨kindR (leadsE l.length (rawE l)) (rawR l) i, i⟩) := by
  simp only [checkL, List.mem_append, faultsH, faultsR, List.mem_flatMap, List.mem_range, mem_fltOf]

/-- the same handles, once what is wrong is 0 -/
theorem zeros_has : hasE (List.replicate 5 0) = false := by decide
theorem zeros_zero (n : Nat) : zeroE (List.replicate n 0) = true := by
  simp [zeroE, nonZero]
theorem splice_at (l x : Bytes) (o p : Nat) (h : o + x.length ≤ l.length) : (splice l o x)[p]? = if o ≤ p ∧ p < o + x.length then x[p - o]? else l[p]? := by
  split
  · rename_i hp
    have := splice_get l x o (p - o) h (by omega)
    rw [show o + (p - o) = p from by omega] at this
    exact this
  · exact (splice_same l x o p h (by omega)).symm
end Go.Proofs.YtoieifphklodoaaGreatDoor
/- image.find and image.Get: an entry read back. -/
namespace Go.Proofs.YtoieifphklodoaaGreatDoor
open Go.RowKit

theorem rawE_len (l : Bytes) (k : Nat) (hk : k < 40) (hn : 200 ≤ l.length) : (rawE l k).length = 5 := by
  unfold rawE; simp; omega
theorem rawE_rd {w : World} {A : Option Addr} {l : Bytes} (h : Rd w A l) (k : Nat) (hk : k < 40) (hn : 200 ≤ l.length) : Rd w (A.map (·.add (5 * k))) (rawE l k) := h.cut (5 * k) 5 (by omega)
/-- the handle's number -/
theorem entO_k (k : Nat) : entO ((k : Int) + 1) = 5 * k := by unfold entO; omega
/-- the entry that stands in five bytes -/
def entR (h : Int) (r : Bytes) : Value := entV h (rAt r) (rLen r) (rTag r)

set_option maxRecDepth 100000 in
theorem find_ok (A : Option Addr) (n c : Nat) (l : Bytes) (k : Nat) (w : World) (hn : l.length = n) (hl : 200 ≤ n) (hnc : n ≤ c) (hrd : Rd w A l) (hk : k < 40) :
    Calls Tryz.prog 141 #[.slice A n c, .int .i64 ((k : Int) + 1)] w fun e w' => e = .returned (.tuple #[entR ((k : Int) + 1) (rawE l k), .bool (hasE (rawE l k))]) ∧ Below w.heap.size w w' := by
  have hW : Below w.heap.size w (w.alloc (.cells #[.int .i64 0, .int .i64 0, .int .i64 0, .int .i64 0] 89)) := (Below.refl _ _).alloc (Nat.le_refl _) _
  have hR := rawE_rd (hrd.below hW) k hk (by omega)
  have hRl := rawE_len l k hk (by omega)
  obtain ⟨p, off, rfl, hpl⟩ := hrd.lt (by omega)
  rw [Option.map_some, Addr.add_lit] at hR
  have hP := entO_k k
  go_enter Tryz.func141, Tryz.ntmps141
  go_wp2_with fail
  refine (raw_any _ _ _ ((k : Int) + 1) _ (by omega) (by omega) hl hnc).mono ?_
  rintro e w' ⟨rfl, rfl⟩
  rw [Option.map_some, Addr.add_lit, hP]
  generalize hrr : rawE l k = r at *
  have h0 := hR.at_ 0 (by omega)
  have hR1 := hR.cut 1 2 (by omega)
  have hR3 := hR.cut 3 2 (by omega)
  rw [Option.map_some, Addr.add_lit] at hR1 hR3
  rw [Nat.add_zero] at h0
  have hw0 : IntKind.i64.wrap (((r[0]'(by omega)).toNat : Int)) = ((r[0]'(by omega)).toNat : Int) := IntWalk.i64_in _ (by have := u8_lt (r[0]'(by omega)); omega)
  have hw1 : IntKind.i64.wrap (((r[0]'(by omega)).toNat : Int) - 1) = ((r[0]'(by omega)).toNat : Int) - 1 := IntWalk.i64_in _ (by have := u8_lt (r[0]'(by omega)); omega)
  have hd1 : ((r.drop 1).take 2).length = 2 := by simp; omega
  have hd3 : ((r.drop 3).take 2).length = 2 := by simp; omega
  have H1 : Hidden (ofB ((r.drop 1).take 2) = rAt r) := ⟨rfl⟩
  have H3 : Hidden (ofB ((r.drop 3).take 2) = rLen r) := ⟨rfl⟩
  have HH : Hidden (r[0]'(by omega) = rHd r) := ⟨by unfold rHd; cases r with | nil => simp at hRl | cons x y => rfl⟩
  have c1 := fun (cap : Nat) (W : World) (hb : Below (w.heap.size + 1) (w.alloc (.cells #[.int .i64 0, .int .i64 0, .int .i64 0, .int .i64 0] 89)) W) => of_any (some ⟨p, off + 5 * k + 1, none⟩) 2 cap ((r.drop 1).take 2) W hd1 (by omega) (hR1.below (by simpa using hb))
  have c3 := fun (cap : Nat) (W : World) (hb : Below (w.heap.size + 1) (w.alloc (.cells #[.int .i64 0, .int .i64 0, .int .i64 0, .int .i64 0] 89)) W) => of_any (some ⟨p, off + 5 * k + 3, none⟩) 2 cap ((r.drop 3).take 2) W hd3 (by omega) (hR3.below (by simpa using hb))
  have C1 := Hidden.mk c1
  have C3 := Hidden.mk c3
  clear c1 c3 hR hR1 hR3 hrd hW
  generalize r[0]'(by omega) = hd at *
  go_wp2_with fail
  have hq1 : ¬ c - 5 * k = 1 := by omega
  have hq3 : ¬ c - 5 * k = 3 := by omega
  have hq5 : 5 ≤ c - 5 * k := by omega
  have hq4 : 3 ≤ c - 5 * k := by omega
  have hS : Hidden (∀ W : World, Below (w.heap.size) (w.alloc (.cells #[.int .i64 0, .int .i64 0, .int .i64 0, .int .i64 0] 89)) W → W.cell? ⟨p, off + 5 * k, none⟩ = some (bv hd)) := ⟨fun W hb => (hb.cell (p := ⟨p, off + 5 * k, none⟩) hpl).trans h0⟩
  have hsl1 := run_cut p (off + 5 * k) 5 (c - 5 * k) 1 3 (by omega) (by omega) (by omega)
  have hsl3 := run_cut p (off + 5 * k) 5 (c - 5 * k) 3 5 (by omega) (by omega) (by omega)
  simp only [Nat.reduceSub, Int.cast_ofNat_Int] at hsl1 hsl3
  have hw : w.cell? ⟨p, off + 5 * k, none⟩ = some (bv hd) := (World.cell?_alloc_lt w _ ⟨p, off + 5 * k, none⟩ hpl).symm.trans h0
  have HRR := Hidden.mk hrr
  clear hn hl hnc hk hP hrr hRl hd1 hd3
  go_region_held3 (fun W => W.cell? ⟨p, off + 5 * k, none⟩ = some (bv hd)) (first | exact hS.out _ (Below.refl _ _).drew | exact h0 | exact (World.cell?_alloc_lt _ _ _ hpl).trans hw)
    (first
      | (go_at_call 156; refine (C1.out _ _ ((Below.refl _ _).drew)).mono ?_; clear C1; rintro e w' ⟨rfl, rfl⟩)
      | (go_at_call 156; refine (C3.out _ _ ((Below.refl _ _).drew)).mono ?_; clear C3; rintro e w' ⟨rfl, rfl⟩))
  go_wp2_with fail
  refine bodyPost_ret (v := .tuple #[.agg #[.int .i64 ((k : Int) + 1), .int .i64 (ofB (List.take 2 (List.tail r))), .int .i64 (ofB (List.take 2 (List.drop 3 r))), .int .i64 ((hd.toNat : Int) - 1)], .bool ((hd.toNat : Int) != 0)]) ?_ rfl ?_
  · simp [results, Tryz.f141, go_sem]
  · refine ⟨?_, ((Below.refl _ _).alloc (Nat.le_refl _) _).drew⟩
    have h1 := H1.out
    have h3 := H3.out
    rw [List.drop_one] at h1
    rw [h1, h3, HRR.out]
    unfold entR entV hasE rTag
    rw [← HH.out, bv_bne]
    rfl
set_option maxRecDepth 100000 in
theorem iget_ok (A : Option Addr) (n c : Nat) (l : Bytes) (k : Nat) (w : World) (hn : l.length = n) (hr : rightB n = true) (hnc : n ≤ c) (hrd : Rd w A l) (hk : k < 40) :
    Calls Tryz.prog 87 #[.slice A n c, .int .i64 ((k : Int) + 1)] w fun e w' => (hasE (rawE l k) = true → e = .returned (.tuple #[entR ((k : Int) + 1) (rawE l k), .nilIface])) ∧ (hasE (rawE l k) = false → e = .returned (.tuple #[entV 0 0 0 0, .iface 110 (.int .i64 5)])) ∧ Below w.heap.size w w' := by
  have hnb := rightB_true.1 hr
  have hh : handleB ((k : Int) + 1) = true := handleB_true.2 (by omega)
  have hW : Below w.heap.size w (w.alloc (.cells #[.int .i64 0, .int .i64 0, .int .i64 0, .int .i64 0] 89)) := (Below.refl _ _).alloc (Nat.le_refl _) _
  have hrd1 := hrd.below hW
  go_enter Tryz.func87, Tryz.ntmps87
  go_wp2_with fail
  refine (check_ok A n c ((k : Int) + 1) _ hr hh).mono ?_
  rintro e w1 ⟨rfl, rfl⟩
  go_wp2_with fail
  refine (find_ok A n c l k _ hn (by omega) hnc hrd1 hk).mono ?_
  rintro e w2 ⟨rfl, hb2⟩
  have hB2 : Below w.heap.size w w2 := hW.trans (hb2.mono hW.size)
  have hc0 : w2.heap[w.heap.size]? = some (.cells #[.int .i64 0, .int .i64 0, .int .i64 0, .int .i64 0] 89 (0, 0)) := (hb2.block w.heap.size (by simp)).trans (heap_alloc_new w _)
  have d0 : w2.cell? ⟨w.heap.size, 0, none⟩ = some (.int .i64 0) := by simp [World.cell?, hc0]
  have d1 : w2.cell? ⟨w.heap.size, 1, none⟩ = some (.int .i64 0) := by simp [World.cell?, hc0]
  have d2 : w2.cell? ⟨w.heap.size, 2, none⟩ = some (.int .i64 0) := by simp [World.cell?, hc0]
  have d3 : w2.cell? ⟨w.heap.size, 3, none⟩ = some (.int .i64 0) := by simp [World.cell?, hc0]
  have f0 : ∀ q, w2.frozen? ⟨w.heap.size, q, none⟩ = false := fun q => by simp [World.frozen?, hc0]
  have f00 := f0 0
  have f01 := f0 1
  have f02 := f0 2
  have f03 := f0 3
  have hlt2 : w.heap.size < w2.heap.size := (Array.getElem?_eq_some_iff.1 hc0).1
  have hne2 : w2.heap.size ≠ w.heap.size := by omega
  have hne3 : w.heap.size ≠ w2.heap.size := by omega
  unfold entR
  cases hE : hasE (rawE l k) with
  | true =>
    generalize ha1 : rAt (rawE l k) = a1 at *
    generalize ha2 : rLen (rawE l k) = a2 at *
    generalize ha3 : rTag (rawE l k) = a3 at *
    have HA := Hidden.mk (And.intro ha1 (And.intro ha2 ha3))
    have HE := Hidden.mk hE
    clear ha1 ha2 ha3 hE
    go_wp2_with fail
    refine bodyPost_ret (v := .tuple #[entV ((k : Int) + 1) a1 a2 a3, .nilIface]) ?_ rfl ?_
    · rw [results_cell_tmp rfl]
      go_simp
    · refine ⟨fun _ => ?_, fun h => ?_, ?_⟩
      · obtain ⟨h1, h2, h3⟩ := HA.out
        rw [entR, h1, h2, h3]
      · rw [HE.out] at h; cases h
      · exact ((((hB2.setCell (p := ⟨w.heap.size, 0, none⟩) (Nat.le_refl _) _).setCell (p := ⟨w.heap.size, 1, none⟩) (Nat.le_refl _) _).setCell (p := ⟨w.heap.size, 2, none⟩) (Nat.le_refl _) _).setCell (p := ⟨w.heap.size, 3, none⟩) (Nat.le_refl _) _).alloc (by simp; omega) _
  | false =>
    have HE := Hidden.mk hE
    clear hE
    go_wp2_with fail
    refine bodyPost_ret (v := .tuple #[entV 0 0 0 0, .iface 110 (.int .i64 5)]) ?_ rfl ?_
    · rw [results_cell_tmp rfl]
      go_simp
    · refine ⟨fun h => ?_, fun _ => rfl, ?_⟩
      · rw [HE.out] at h; cases h
      · exact ((((hB2.setCell (p := ⟨w.heap.size, 0, none⟩) (Nat.le_refl _) _).setCell (p := ⟨w.heap.size, 1, none⟩) (Nat.le_refl _) _).setCell (p := ⟨w.heap.size, 2, none⟩) (Nat.le_refl _) _).setCell (p := ⟨w.heap.size, 3, none⟩) (Nat.le_refl _) _).alloc (by simp; omega) _
end Go.Proofs.YtoieifphklodoaaGreatDoor
/- The contracts of check.stray, check.over and image.Zero. -/
namespace Go.Proofs.YtoieifphklodoaaGreatDoor
open Go.RowKit

theorem stray_any (A : Option Addr) (n c : Nat) (h at_ len tag : Int) (w : World) (hn : n ≤ 6400) (_ha : 0 ≤ at_) (hl : 0 ≤ len) (hl2 : len ≤ 65535) :
    Calls Tryz.prog 128 #[.slice A n c, entV h at_ len tag] w fun e w' => e = .returned (.bool (!(tagB tag && lenB len && withinB n at_ len))) ∧ Below w.heap.size w w' := by
  have hW : Below w.heap.size w (w.alloc (.cells #[.int .i64 h, .int .i64 at_, .int .i64 len, .int .i64 tag] 89)) := (Below.refl _ _).alloc (Nat.le_refl _) _
  cases ht : tagB tag with
  | false =>
    go_enter Tryz.func128, Tryz.ntmps128
    go_wp2_with fail
    refine (tag_any tag _).mono ?_
    rintro e w1 ⟨rfl, rfl⟩
    rw [ht]
    go_wp2_with fail
    go_ret
    exact ⟨rfl, hW⟩
  | true =>
    cases hlb : lenB len with
    | false =>
      go_enter Tryz.func128, Tryz.ntmps128
      go_wp2_with fail
      refine (tag_any tag _).mono ?_
      rintro e w1 ⟨rfl, rfl⟩
      rw [ht]
      go_wp2_with fail
      refine (len_any len _).mono ?_
      rintro e w1 ⟨rfl, rfl⟩
      rw [hlb]
      go_wp2_with fail
      go_ret
      exact ⟨rfl, hW⟩
    | true =>
      go_enter Tryz.func128, Tryz.ntmps128
      go_wp2_with fail
      refine (tag_any tag _).mono ?_
      rintro e w1 ⟨rfl, rfl⟩
      rw [ht]
      go_wp2_with fail
      refine (len_any len _).mono ?_
      rintro e w1 ⟨rfl, rfl⟩
      rw [hlb]
      go_wp2_with fail
      refine (within_any n at_ len _ (by omega) (by omega) hl (by omega)).mono ?_
      rintro e w1 ⟨rfl, hb1⟩
      have hB := hW.trans (hb1.mono hW.size)
      clear hb1 hW
      cases hq : withinB n at_ len with
      | true =>
        go_wp2_with fail
        go_ret
        exact ⟨by rw [hq]; rfl, hB⟩
      | false =>
        go_wp2_with fail
        go_ret
        exact ⟨by rw [hq]; rfl, hB⟩
/-- do two stretches of bytes share one? -/
def overB (a al b bl : Int) : Bool := decide (a < b + bl) && decide (b < a + al)
theorem over_any (a al b bl : Int) (w : World) (h1 : 0 ≤ a) (h2 : a ≤ 100000) (h3 : 0 ≤ al) (h4 : al ≤ 100000) (h5 : 0 ≤ b) (h6 : b ≤ 100000) (h7 : 0 ≤ bl) (h8 : bl ≤ 100000) :
    Calls Tryz.prog 131 #[.agg #[.int .i64 a, .int .i64 al], .agg #[.int .i64 b, .int .i64 bl]] w fun e w' => e = .returned (.bool (overB a al b bl)) ∧ Below w.heap.size w w' := by
  have hW := ((Below.refl w.heap.size w).alloc (Nat.le_refl _) (.cells #[.int .i64 a, .int .i64 al] 87)).alloc (by simp) (.cells #[.int .i64 b, .int .i64 bl] 87)
  have s1 : IntKind.i64.wrap (b + bl) = b + bl := IntWalk.i64_in _ (by omega)
  have s2 : IntKind.i64.wrap (a + al) = a + al := IntWalk.i64_in _ (by omega)
  unfold overB
  by_cases hc : a < b + bl
  · go_enter Tryz.func131, Tryz.ntmps131
    go_wp2_with fail
    go_ret
    exact ⟨by simp [hc], hW⟩
  · go_enter Tryz.func131, Tryz.ntmps131
    go_wp2_with fail
    go_ret
    exact ⟨by simp; omega, hW⟩
theorem pred_izero : Pred 159 nonZero := by
  intro x w
  have hb := Hidden.mk (bv_bne x)
  go_enter Tryz.func159, Tryz.ntmps159
  go_wp2
  go_ret
  exact ⟨ret_bool hb.out, rfl⟩
theorem idxf_izero (A : Option Addr) (n c : Nat) (l : Bytes) (w : World) (hn : l.length = n) (hl : n ≤ maxLen) (hr : Rd w A l) :
    Calls Tryz.prog 189 #[.slice A n c, .func (.func 159) #[] #[]] w fun e w' => e = .returned (.int .i64 (idxP nonZero l)) ∧ w = w' := by
  subst hn
  unfold maxLen at hl
  have HP := Hidden.mk pred_izero
  generalize nonZero = p at HP ⊢
  go_enter Tryz.func189, Tryz.ntmps189
  go_wp2
  go_loopw [8] (fun i wr => w = wr ∧ ∃ k : Nat, k ≤ l.length ∧ i = .int .i64 k ∧ Hidden (∀ x ∈ l.take k, p x = false)) (fun i _ => l.length - (intOf i).toNat)
  case atStart => exact ⟨rfl, 0, Nat.zero_le _, rfl, ⟨by simp⟩⟩
  case round =>
    obtain ⟨rfl, k, hk, rfl, hnot⟩ := hrel
    by_cases hlt : k < l.length
    · obtain ⟨b, off, rfl, hc⟩ := hr k hlt
      go_wp2_with fail
      refine (HP.out _ _).mono ?_
      rintro e w1 ⟨rfl, rfl⟩
      cases he : p l[k] with
      | true =>
        have hi : Hidden (idxP p l = k) := ⟨idxP_at p l k hlt hnot.out he⟩
        clear he
        go_wp2
        go_ret
        exact ⟨ret_i64 hi.out.symm, rfl⟩
      | false =>
        have hnk : Hidden (∀ x ∈ l.take (k + 1), p x = false) := ⟨forall_take_succ hlt hnot.out he⟩
        clear he hnot
        go_wp2
        go_roundw
        case rel => exact ⟨by trivial, k + 1, by omega, by go_num, hnk⟩
        case measure => simp [intOf]; omega
    · have hi : Hidden (idxP p l = -1) := ⟨idxP_none p l (by have := hnot.out; rwa [List.take_of_length_le (by omega)] at this)⟩
      go_wp2
      go_ret
      exact ⟨ret_i64 hi.out.symm, rfl⟩
theorem izero_any (A : Option Addr) (n c : Nat) (l : Bytes) (w : World) (hn : l.length = n) (hl : n ≤ maxLen) (hr : Rd w A l) :
    Calls Tryz.prog 126 #[.slice A n c] w fun e w' => e = .returned (.bool (zeroE l)) ∧ w = w' := by
  have hv := Hidden.mk (idxP_any nonZero l)
  have hcf : Calls Tryz.prog 158 #[.slice A n c, .func (.func 159) #[] #[]] w fun e w' => e = .returned (.bool (l.any nonZero)) ∧ w = w' := by
    go_enter Tryz.func158, Tryz.ntmps158
    go_wp2_with fail
    refine (idxf_izero A n c l _ hn hl hr).mono ?_
    rintro e w1 ⟨rfl, rfl⟩
    go_wp2
    go_ret
    exact ⟨congrArg (fun b => Ending.returned (.bool b)) hv.out, rfl⟩
  have HC := Hidden.mk hcf
  clear hcf
  unfold zeroE
  go_enter Tryz.func126, Tryz.ntmps126
  go_wp2_with fail
  refine HC.out.mono ?_
  rintro e w1 ⟨rfl, rfl⟩
  go_wp2_with fail
  go_ret
  exact ⟨rfl, rfl⟩

theorem forall_take_succ' {α : Type} {l : List α} {k : Nat} {p : α → Bool} (hk : k < l.length) (h : ∀ x ∈ l.take k, p x = false) (hp : p l[k] = false) : ∀ x ∈ l.take (k + 1), p x = false := by
  intro x hx
  rw [List.take_succ_eq_append_getElem hk, List.mem_append, List.mem_singleton] at hx
  rcases hx with hx | rfl
  · exact h x hx
  · exact hp
/-- the slice at A has the entries L: the handle, the bytes -/
def RdEs (w : World) (A : Option Addr) (L : List (Int × Bytes)) : Prop := ∀ i (h : i < L.length), ∃ g off, A = some ⟨g, off, none⟩ ∧ w.cell? ⟨g, off + i * 4, none⟩ = some (.int .i64 L[i].1) ∧ w.cell? ⟨g, off + i * 4 + 1, none⟩ = some (.int .i64 (rAt L[i].2)) ∧
  w.cell? ⟨g, off + i * 4 + 2, none⟩ = some (.int .i64 (rLen L[i].2)) ∧ w.cell? ⟨g, off + i * 4 + 3, none⟩ = some (.int .i64 (rTag L[i].2))
theorem RdEs.below {w w' : World} {A : Option Addr} {L : List (Int × Bytes)} (h : RdEs w A L) (hb : Below w.heap.size w w') : RdEs w' A L := fun i hi => by
  obtain ⟨g, off, hA, c0, c1, c2, c3⟩ := h i hi
  exact ⟨g, off, hA, (hb.cell (block_lt_of_cell c0)).trans c0, (hb.cell (block_lt_of_cell c1)).trans c1, (hb.cell (block_lt_of_cell c2)).trans c2, (hb.cell (block_lt_of_cell c3)).trans c3⟩
theorem idxe_over (p : Int × Bytes → Bool) (A : Option Addr) (n c : Nat) (L : List (Int × Bytes)) (cap : Value) (w : World) (hn : L.length = n) (hl : n ≤ 1000) (hr : RdEs w A L)
    (hP : ∀ x ∈ L, ∀ W, Below w.heap.size w W → Calls Tryz.prog 130 #[entR x.1 x.2, cap] W fun e w' => e = .returned (.bool (p x)) ∧ Below W.heap.size W w') :
    Calls Tryz.prog 161 #[.slice A n c, .func (.func 130) #[] #[cap]] w fun e w' => ∃ z : Int, e = .returned (.int .i64 z) ∧ decide (0 ≤ z) = L.any p ∧ Below w.heap.size w w' := by
  subst hn
  have HP := Hidden.mk hP
  clear hP
  go_enter Tryz.func161, Tryz.ntmps161
  go_wp2_with fail
  go_loopw [8] (fun i wr => Below w.heap.size w wr ∧ ∃ k : Nat, k ≤ L.length ∧ i = .int .i64 k ∧ Hidden (∀ x ∈ L.take k, p x = false)) (fun i _ => L.length - (intOf i).toNat)
  case atStart => exact ⟨Below.refl _ _, 0, Nat.zero_le _, rfl, ⟨by simp⟩⟩
  case round =>
    obtain ⟨hbel, k, hk, rfl, hnot⟩ := hrel
    by_cases hlt : k < L.length
    · obtain ⟨b, off, rfl, c0, c1, c2, c3⟩ := (hr.below hbel) k hlt
      have hp := HP.out L[k] (List.getElem_mem hlt) wr hbel
      have HPK := Hidden.mk hp
      have HE : Hidden (entR L[k].1 L[k].2 = entV L[k].1 (rAt L[k].2) (rLen L[k].2) (rTag L[k].2)) := ⟨rfl⟩
      have i0 : (0 : Int) ≤ k := by omega
      have i1 : (k : Int) < L.length := by omega
      clear hp
      go_wp2_with fail
      refine (HPK.out).mono ?_
      rintro e w1 ⟨rfl, hb1⟩
      have hB1 := hbel.trans (hb1.mono hbel.size)
      cases he : p L[k] with
      | true =>
        have hi : Hidden (true = L.any p) := ⟨(List.any_eq_true.2 ⟨L[k], List.getElem_mem hlt, he⟩).symm⟩
        clear he hb1 hbel
        go_wp2_with fail
        go_ret
        exact ⟨_, rfl, by rw [← hi.out]; simp, hB1⟩
      | false =>
        have hnk : Hidden (∀ x ∈ L.take (k + 1), p x = false) := ⟨forall_take_succ' hlt hnot.out he⟩
        clear he hnot hb1 hbel
        go_wp2_with fail
        go_roundw
        case rel => exact ⟨hB1, k + 1, by omega, by go_num, hnk⟩
        case measure => simp [intOf]; omega
    · have hi : Hidden (false = L.any p) := ⟨by
        have := hnot.out
        rw [List.take_of_length_le (by omega)] at this
        symm; simpa using this⟩
      go_wp2_with fail
      go_ret
      exact ⟨-1, rfl, by rw [← hi.out]; rfl, hbel⟩
theorem cfe_over (p : Int × Bytes → Bool) (A : Option Addr) (n c : Nat) (L : List (Int × Bytes)) (cap : Value) (w : World) (hn : L.length = n) (hl : n ≤ 1000) (hr : RdEs w A L)
    (hP : ∀ x ∈ L, ∀ W, Below w.heap.size w W → Calls Tryz.prog 130 #[entR x.1 x.2, cap] W fun e w' => e = .returned (.bool (p x)) ∧ Below W.heap.size W w') :
    Calls Tryz.prog 129 #[.slice A n c, .func (.func 130) #[] #[cap]] w fun e w' => e = .returned (.bool (L.any p)) ∧ Below w.heap.size w w' := by
  have HC := Hidden.mk (idxe_over p A n c L cap w hn hl hr hP)
  clear hP
  go_enter Tryz.func129, Tryz.ntmps129
  go_wp2_with fail
  refine HC.out.mono ?_
  rintro e w1 ⟨z, rfl, hz, hb⟩
  have HZ := Hidden.mk hz
  clear hz
  go_wp2_with fail
  go_ret
  exact ⟨congrArg (fun b => Ending.returned (.bool b)) HZ.out, hb⟩
theorem idxe_leads (p : Int × Bytes → Bool) (A : Option Addr) (n c : Nat) (L : List (Int × Bytes)) (cap : Value) (w : World) (hn : L.length = n) (hl : n ≤ 1000) (hr : RdEs w A L)
    (hP : ∀ x ∈ L, ∀ W, Below w.heap.size w W → Calls Tryz.prog 134 #[entR x.1 x.2, cap] W fun e w' => e = .returned (.bool (p x)) ∧ Below W.heap.size W w') :
    Calls Tryz.prog 161 #[.slice A n c, .func (.func 134) #[] #[cap]] w fun e w' => ∃ z : Int, e = .returned (.int .i64 z) ∧ decide (0 ≤ z) = L.any p ∧ Below w.heap.size w w' := by
  subst hn
  have HP := Hidden.mk hP
  clear hP
  go_enter Tryz.func161, Tryz.ntmps161
  go_wp2_with fail
  go_loopw [8] (fun i wr => Below w.heap.size w wr ∧ ∃ k : Nat, k ≤ L.length ∧ i = .int .i64 k ∧ Hidden (∀ x ∈ L.take k, p x = false)) (fun i _ => L.length - (intOf i).toNat)
  case atStart => exact ⟨Below.refl _ _, 0, Nat.zero_le _, rfl, ⟨by simp⟩⟩
  case round =>
    obtain ⟨hbel, k, hk, rfl, hnot⟩ := hrel
    by_cases hlt : k < L.length
    · obtain ⟨b, off, rfl, c0, c1, c2, c3⟩ := (hr.below hbel) k hlt
      have hp := HP.out L[k] (List.getElem_mem hlt) wr hbel
      have HPK := Hidden.mk hp
      have HE : Hidden (entR L[k].1 L[k].2 = entV L[k].1 (rAt L[k].2) (rLen L[k].2) (rTag L[k].2)) := ⟨rfl⟩
      have i0 : (0 : Int) ≤ k := by omega
      have i1 : (k : Int) < L.length := by omega
      clear hp
      go_wp2_with fail
      refine (HPK.out).mono ?_
      rintro e w1 ⟨rfl, hb1⟩
      have hB1 := hbel.trans (hb1.mono hbel.size)
      cases he : p L[k] with
      | true =>
        have hi : Hidden (true = L.any p) := ⟨(List.any_eq_true.2 ⟨L[k], List.getElem_mem hlt, he⟩).symm⟩
        clear he hb1 hbel
        go_wp2_with fail
        go_ret
        exact ⟨_, rfl, by rw [← hi.out]; simp, hB1⟩
      | false =>
        have hnk : Hidden (∀ x ∈ L.take (k + 1), p x = false) := ⟨forall_take_succ' hlt hnot.out he⟩
        clear he hnot hb1 hbel
        go_wp2_with fail
        go_roundw
        case rel => exact ⟨hB1, k + 1, by omega, by go_num, hnk⟩
        case measure => simp [intOf]; omega
    · have hi : Hidden (false = L.any p) := ⟨by
        have := hnot.out
        rw [List.take_of_length_le (by omega)] at this
        symm; simpa using this⟩
      go_wp2_with fail
      go_ret
      exact ⟨-1, rfl, by rw [← hi.out]; rfl, hbel⟩
theorem cfe_leads (p : Int × Bytes → Bool) (A : Option Addr) (n c : Nat) (L : List (Int × Bytes)) (cap : Value) (w : World) (hn : L.length = n) (hl : n ≤ 1000) (hr : RdEs w A L)
    (hP : ∀ x ∈ L, ∀ W, Below w.heap.size w W → Calls Tryz.prog 134 #[entR x.1 x.2, cap] W fun e w' => e = .returned (.bool (p x)) ∧ Below W.heap.size W w') :
    Calls Tryz.prog 129 #[.slice A n c, .func (.func 134) #[] #[cap]] w fun e w' => e = .returned (.bool (L.any p)) ∧ Below w.heap.size w w' := by
  have HC := Hidden.mk (idxe_leads p A n c L cap w hn hl hr hP)
  clear hP
  go_enter Tryz.func129, Tryz.ntmps129
  go_wp2_with fail
  refine HC.out.mono ?_
  rintro e w1 ⟨z, rfl, hz, hb⟩
  have HZ := Hidden.mk hz
  clear hz
  go_wp2_with fail
  go_ret
  exact ⟨congrArg (fun b => Ending.returned (.bool b)) HZ.out, hb⟩
end Go.Proofs.YtoieifphklodoaaGreatDoor
/- The contract of check.handles. -/
namespace Go.Proofs.YtoieifphklodoaaGreatDoor
open Go.RowKit

def entsL (p : Nat → Bool) (R : Nat → Bytes) (m : Nat) : List (Int × Bytes) := ((List.range m).filter p).map fun (k : Nat) => (((k : Int) + 1), R k)
def rightL (n : Nat) (R : Nat → Bytes) (m : Nat) : List (Int × Bytes) := entsL (fun k => kindH n R k == 6) R m
def wholeL (n : Nat) (R : Nat → Bytes) (m : Nat) : List (Int × Bytes) := entsL (fun k => wholeE n (R k)) R m
theorem entsL_succ (p : Nat → Bool) (R : Nat → Bytes) (m : Nat) : entsL p R (m + 1) = entsL p R m ++ (if p m = true then [(((m : Int) + 1), R m)] else []) := by
  unfold entsL
  rw [List.range_succ, List.filter_append, List.map_append]
  congr 1
  cases h : p m <;> simp [h]
theorem entsL_len (p : Nat → Bool) (R : Nat → Bytes) (m : Nat) : (entsL p R m).length ≤ m := by
  unfold entsL
  rw [List.length_map]
  have := List.length_filter_le p (List.range m)
  rwa [List.length_range] at this
theorem wholeL_any (n : Nat) (R : Nat → Bytes) (m : Nat) (r : Bytes) : (wholeL n R m).any (fun x => overE r x.2) = (List.range m).any fun j => wholeE n (R j) && overE r (R j) := by
  unfold wholeL entsL
  rw [List.any_map, List.any_filter]
  rfl
def ecells (x : Int × Bytes) : List Value := [.int .i64 x.1, .int .i64 (rAt x.2), .int .i64 (rLen x.2), .int .i64 (rTag x.2)]
def fcells (f : Flt) : List Value := [.int .i64 f.what, .int .i64 f.which]
theorem ecells_at (L : List (Int × Bytes)) (q : Nat) (hq : q < 4) : ∀ i (h : i < L.length), (L.flatMap ecells)[i * 4 + q]? = (ecells L[i])[q]? := by
  induction L with
  | nil => intro i h; simp at h
  | cons x L ih =>
    intro i h
    rw [List.flatMap_cons]
    have hl : (ecells x).length = 4 := rfl
    cases i with
    | zero => rw [List.getElem?_append_left (by omega)]; simp
    | succ i =>
      rw [List.getElem?_append_right (by omega), hl, show (i + 1) * 4 + q - 4 = i * 4 + q from by omega, ih i (by simpa using h)]
      simp
theorem own_rdEs {w : World} {base : Nat} {v : Value} {L : List (Int × Bytes)} (h : w.ownsRow base 89 4 v L.length (L.flatMap ecells)) : ∃ A c, v = .slice A L.length c ∧ L.length ≤ c ∧ RdEs w A L := by
  rcases h.2 with ⟨rfl, h0⟩ | ⟨g, cap, cur, rfl, _, hh, hc, hm, hz, ht⟩
  · exact ⟨none, 0, by rw [h0], by omega, fun i hi => by omega⟩
  · refine ⟨_, cap, rfl, hc, fun i hi => ?_⟩
    have hcell : ∀ q u, q < 4 → (ecells L[i])[q]? = some u → w.cell? ⟨g, 0 + (i * 4 + q), none⟩ = some u := fun q u hq hu => by
      have := h.cells (g := g) rfl (i * 4 + q) u (by rw [ecells_at L q hq i hi]; exact hu)
      rw [Addr.add_lit] at this
      exact this
    refine ⟨g, 0, rfl, ?_, ?_, ?_, ?_⟩
    · exact hcell 0 _ (by omega) rfl
    · exact (Nat.add_assoc 0 (i * 4) 1) ▸ hcell 1 _ (by omega) rfl
    · exact (Nat.add_assoc 0 (i * 4) 2) ▸ hcell 2 _ (by omega) rfl
    · exact (Nat.add_assoc 0 (i * 4) 3) ▸ hcell 3 _ (by omega) rfl
theorem own_apart {w : World} {base e e' size size' n n' : Nat} {v v' : Value} {xs xs' : List Value} (h : w.ownsRow base e size v n xs) (h' : w.ownsRow base e' size' v' n' xs') (hne : e ≠ e') : v.ownBlock = none ∨ v.ownBlock ≠ v'.ownBlock := by
  rcases h.2 with ⟨rfl, _⟩ | ⟨g, cap, cur, rfl, _, hh, _⟩
  · exact .inl rfl
  · right
    intro he
    rcases h'.2 with ⟨rfl, _⟩ | ⟨g', cap', cur', rfl, _, hh', _⟩
    · simp [Value.ownBlock] at he
    · obtain rfl : g = g' := by simpa [Value.ownBlock] using he
      rw [hh] at hh'
      injection hh' with hh'
      injection hh' with _ ht
      exact hne ht
/-- three slices of the call's own: faults, right ones, whole ones -/
structure HSt (w : World) (base : Nat) (vf vr vw : Value) (F : List Flt) (R W : List (Int × Bytes)) : Prop where
  f : w.ownsRow base 184 2 vf F.length (F.flatMap fcells)
  r : w.ownsRow base 89 4 vr R.length (R.flatMap ecells)
  o : w.ownsRow base 89 4 vw W.length (W.flatMap ecells)
  ne : ∀ b, vr.ownBlock = some b → vw.ownBlock ≠ some b
section
variable {w w' : World} {base : Nat} {vf vr vw vf' : Value} {F : List Flt} {R W : List (Int × Bytes)}
theorem HSt.below (h : HSt w base vf vr vw F R W) (hb : Below w.heap.size w w') : HSt w' base vf vr vw F R W := ⟨own_below h.f hb, own_below h.r hb, own_below h.o hb, h.ne⟩
theorem HSt.addF (h : HSt w base vf vr vw F R W) {x : Flt} (hg : w.grownBy w' vf.ownBlock) (h' : w'.ownsRow base 184 2 vf' (F.length + 1) (F.flatMap fcells ++ fcells x)) : HSt w' base vf' vr vw (F ++ [x]) R W :=
  ⟨by simpa using h', h.r.kept hg (own_apart h.r h.f (by decide)), h.o.kept hg (own_apart h.o h.f (by decide)), h.ne⟩
theorem HSt.addR (h : HSt w base vf vr vw F R W) {x : Int × Bytes} {g cap n : Nat} (hg : w.grownBy w' vr.ownBlock) (hn : n = R.length + 1) (h' : w'.ownsRow base 89 4 (.slice (some ⟨g, 0, none⟩) n cap) n (R.flatMap ecells ++ ecells x)) (hat : vr.ownBlock = some g ∨ w.heap.size ≤ g) :
    HSt w' base vf (.slice (some ⟨g, 0, none⟩) n cap) vw F (R ++ [x]) W := by
  subst hn
  refine ⟨h.f.kept hg (own_apart h.f h.r (by decide)), by simpa using h', h.o.kept hg ?_, fun b hb hw => ?_⟩
  · cases hv : vw.ownBlock with
    | none => exact .inl rfl
    | some b => exact .inr fun e => h.ne b e.symm hv
  · obtain rfl : g = b := by simpa [Value.ownBlock] using hb
    rcases hat with ha | ha
    · exact h.ne g ha hw
    · have := (h.o.lt _ hw).2; omega
theorem HSt.addW (h : HSt w base vf vr vw F R W) {x : Int × Bytes} {g cap n : Nat} (hg : w.grownBy w' vw.ownBlock) (hn : n = W.length + 1) (h' : w'.ownsRow base 89 4 (.slice (some ⟨g, 0, none⟩) n cap) n (W.flatMap ecells ++ ecells x)) (hat : vw.ownBlock = some g ∨ w.heap.size ≤ g) :
    HSt w' base vf vr (.slice (some ⟨g, 0, none⟩) n cap) F R (W ++ [x]) := by
  subst hn
  refine ⟨h.f.kept hg (own_apart h.f h.o (by decide)), h.r.kept hg ?_, by simpa using h', fun b hb hw => ?_⟩
  · cases hv : vr.ownBlock with
    | none => exact .inl rfl
    | some b => exact .inr fun e => h.ne b hv e.symm
  · obtain rfl : g = b := by simpa [Value.ownBlock] using hw
    rcases hat with ha | ha
    · exact h.ne g hb ha
    · have := (h.r.lt _ hb).2; omega
end
theorem fault_info : (Tryz.prog.info? 184).map (fun i => (i.zero, i.size, i.bytes)) = some (some (.agg #[.int .i64 0, .int .i64 0]), 2, 16) := by kernel_rfl
theorem entry_info : (Tryz.prog.info? 89).map (fun i => (i.zero, i.size, i.bytes)) = some (some (.agg #[.int .i64 0, .int .i64 0, .int .i64 0, .int .i64 0]), 4, 32) := by kernel_rfl
theorem rAt_le (r : Bytes) : rAt r ≤ 65535 := by
  have h := ofB_lt ((r.drop 1).take 2)
  have h2 : 2 ^ (8 * ((r.drop 1).take 2).length) ≤ 2 ^ 16 := Nat.pow_le_pow_right (by omega) (by simp; omega)
  unfold rAt; omega
theorem rLen_le (r : Bytes) : rLen r ≤ 65535 := by
  have h := ofB_lt ((r.drop 3).take 2)
  have h2 : 2 ^ (8 * ((r.drop 3).take 2).length) ≤ 2 ^ 16 := Nat.pow_le_pow_right (by omega) (by simp; omega)
  unfold rLen; omega
theorem overE_eq (r s : Bytes) : overB (rAt r) (rLen r) (rAt s) (rLen s) = overE r s := by
  unfold overB overE
  congr 1 <;> (rw [decide_eq_decide]; omega)
/-- the closure of handles -/
theorem over1_any (r : Bytes) (Bx : Nat) (x : Int × Bytes) (W : World) (h1 : W.cell? ⟨Bx, 1, none⟩ = some (.int .i64 (rAt r))) (h2 : W.cell? ⟨Bx, 2, none⟩ = some (.int .i64 (rLen r))) :
    Calls Tryz.prog 130 #[entR x.1 x.2, .pointer (some ⟨Bx, 0, none⟩)] W fun e w' => e = .returned (.bool (overE r x.2)) ∧ Below W.heap.size W w' := by
  have hlt := block_lt_of_cell h1
  have hW : Below W.heap.size W (W.alloc (.cells #[.int .i64 x.1, .int .i64 (rAt x.2), .int .i64 (rLen x.2), .int .i64 (rTag x.2)] 89)) := (Below.refl _ _).alloc (Nat.le_refl _) _
  have b1 := rAt_le r
  have b2 := rLen_le r
  have b3 := rAt_le x.2
  have b4 := rLen_le x.2
  have HO := Hidden.mk (overE_eq r x.2)
  obtain ⟨xh, xr⟩ := x
  unfold entR
  dsimp only at *
  generalize rAt xr = c1 at *
  generalize rLen xr = c2 at *
  generalize rTag xr = c3 at *
  generalize rAt r = d1 at *
  generalize rLen r = d2 at *
  go_enter Tryz.func130, Tryz.ntmps130
  go_wp2_with fail
  refine (over_any d1 d2 c1 c2 _ (by omega) (by omega) (by omega) (by omega) (by omega) (by omega) (by omega) (by omega)).mono ?_
  rintro e w' ⟨rfl, hb⟩
  have hB := hW.trans (hb.mono hW.size)
  rw [HO.out]
  go_wp2_with fail
  go_ret
  exact ⟨rfl, hB⟩
end Go.Proofs.YtoieifphklodoaaGreatDoor
/- The contract of check.roots: closures and slices.Contains over names. -/
namespace Go.Proofs.YtoieifphklodoaaGreatDoor
open Go.RowKit

/-- the slice at A has the texts L -/
def RdS (w : World) (A : Option Addr) (L : List Bytes) : Prop := ∀ j (h : j < L.length), ∃ b off, A = some ⟨b, off, none⟩ ∧ w.cell? ⟨b, off + j, none⟩ = some (sv L[j])
theorem own_rdS {w : World} {base e : Nat} {v : Value} {L : List Bytes} (h : w.ownsRow base e 1 v L.length (L.map fun x => sv x)) : ∃ A c, v = .slice A L.length c ∧ L.length ≤ c ∧ RdS w A L := by
  rcases h.2 with ⟨rfl, h0⟩ | ⟨g, cap, cur, rfl, _, hh, hc, hm, hz, ht⟩
  · exact ⟨none, 0, by rw [h0], by omega, fun i hi => by omega⟩
  · refine ⟨_, cap, rfl, hc, fun i hi => ⟨g, 0, rfl, ?_⟩⟩
    have := h.cells (g := g) rfl i (sv L[i]) (by simp [hi])
    rw [Addr.add_lit] at this
    exact this
theorem indexS_any (A : Option Addr) (n c : Nat) (L : List Bytes) (s : Bytes) (w : World) (hn : L.length = n) (hl : n ≤ 1000) (hr : RdS w A L) :
    Calls Tryz.prog 164 #[.slice A n c, sv s] w fun e w' => ∃ z : Int, e = .returned (.int .i64 z) ∧ decide (0 ≤ z) = L.any (fun x => s == x) ∧ w = w' := by
  subst hn
  go_enter Tryz.func164, Tryz.ntmps164
  go_wp2_with fail
  go_loopw [8] (fun i wr => w = wr ∧ ∃ k : Nat, k ≤ L.length ∧ i = .int .i64 k ∧ Hidden (∀ x ∈ L.take k, (s == x) = false)) (fun i _ => L.length - (intOf i).toNat)
  case atStart => exact ⟨rfl, 0, Nat.zero_le _, rfl, ⟨by simp⟩⟩
  case round =>
    obtain ⟨rfl, k, hk, rfl, hnot⟩ := hrel
    by_cases hlt : k < L.length
    · obtain ⟨b, off, rfl, c0⟩ := hr k hlt
      have i0 : (0 : Int) ≤ k := by omega
      have i1 : (k : Int) < L.length := by omega
      cases he : (s == L[k]) with
      | true =>
        have hi : Hidden (true = L.any fun x => s == x) := ⟨(List.any_eq_true.2 ⟨L[k], List.getElem_mem hlt, he⟩).symm⟩
        go_wp2_with fail
        go_ret
        exact ⟨_, rfl, by rw [← hi.out]; simp, rfl⟩
      | false =>
        have hnk : Hidden (∀ x ∈ L.take (k + 1), (s == x) = false) := ⟨forall_take_succ' hlt hnot.out he⟩
        clear hnot
        go_wp2_with fail
        go_roundw
        case rel => exact ⟨by trivial, k + 1, by omega, by go_num, hnk⟩
        case measure => simp [intOf]; omega
    · have hi : Hidden (false = L.any fun x => s == x) := ⟨by
        have := hnot.out
        rw [List.take_of_length_le (by omega)] at this
        symm; simpa using this⟩
      go_wp2_with fail
      go_ret
      exact ⟨-1, rfl, by rw [← hi.out]; rfl, rfl⟩
theorem containsS_any (A : Option Addr) (n c : Nat) (L : List Bytes) (s : Bytes) (w : World) (hn : L.length = n) (hl : n ≤ 1000) (hr : RdS w A L) :
    Calls Tryz.prog 135 #[.slice A n c, sv s] w fun e w' => e = .returned (.bool (L.any (fun x => s == x))) ∧ w = w' := by
  have HC := Hidden.mk (indexS_any A n c L s w hn hl hr)
  go_enter Tryz.func135, Tryz.ntmps135
  go_wp2_with fail
  refine HC.out.mono ?_
  rintro e w1 ⟨z, rfl, hz, rfl⟩
  have HZ := Hidden.mk hz
  clear hz
  go_wp2_with fail
  go_ret
  exact ⟨congrArg (fun b => Ending.returned (.bool b)) HZ.out, rfl⟩
/-- the closure of roots -/
theorem leads1_any (r : Bytes) (hr11 : r.length = 11) (Bx p off c : Nat) (x : Int × Bytes) (W : World) (h1 : W.cell? ⟨Bx, 0, none⟩ = some (.slice (some ⟨p, off, none⟩) 11 c)) (hrd : Rd W (some ⟨p, off, none⟩) r) :
    Calls Tryz.prog 134 #[entR x.1 x.2, .pointer (some ⟨Bx, 0, none⟩)] W fun e w' => e = .returned (.bool (x.1 == ((r.getD 10 0).toNat : Int))) ∧ Below W.heap.size W w' := by
  have hlt := block_lt_of_cell h1
  have c10 := hrd.at_ 10 (by omega)
  have hx10 : Hidden (r[10]'(by omega) = r.getD 10 0) := ⟨by simp [hr11]⟩
  have hlp := block_lt_of_cell c10
  generalize r[10]'(by omega) = r10 at *
  have hw0 : IntKind.i64.wrap (r10.toNat : Int) = (r10.toNat : Int) := IntWalk.i64_in _ (by have := u8_lt r10; omega)
  have hW : Below W.heap.size W (W.alloc (.cells #[.int .i64 x.1, .int .i64 (rAt x.2), .int .i64 (rLen x.2), .int .i64 (rTag x.2)] 89)) := (Below.refl _ _).alloc (Nat.le_refl _) _
  obtain ⟨xh, xr⟩ := x
  unfold entR
  dsimp only at *
  generalize rAt xr = c1 at *
  generalize rLen xr = c2 at *
  generalize rTag xr = c3 at *
  clear hrd hr11
  go_enter Tryz.func134, Tryz.ntmps134
  go_wp2_with fail
  go_quiet (fail)
  go_wp2_with fail
  go_ret
  exact ⟨by rw [← hx10.out]; rfl, below_drewN hW _⟩

theorem rawR_len (l : Bytes) (i : Nat) (hi : i < 8) (hn : 288 ≤ l.length) : (rawR l i).length = 11 := by
  unfold rawR; simp; omega
theorem rawR_rd {w : World} {A : Option Addr} {l : Bytes} (h : Rd w A l) (i : Nat) (hi : i < 8) (hn : 288 ≤ l.length) : Rd w (A.map (·.add (200 + 11 * i))) (rawR l i) := h.cut (200 + 11 * i) 11 (by omega)
theorem rootO_k (k : Nat) : rootO (k : Int) = 200 + 11 * k := by unfold rootO; omega
def namesL (leads : UInt8 → Bool) (S : Nat → Bytes) (m : Nat) : List Bytes := ((List.range m).filter fun i => kindR leads S i == 6).map fun i => nmR (S i)
theorem namesL_succ (leads : UInt8 → Bool) (S : Nat → Bytes) (m : Nat) : namesL leads S (m + 1) = namesL leads S m ++ (if kindR leads S m = 6 then [nmR (S m)] else []) := by
  unfold namesL
  rw [List.range_succ, List.filter_append, List.map_append]
  congr 1
  by_cases h : kindR leads S m = 6 <;> simp [h]
theorem namesL_len (leads : UInt8 → Bool) (S : Nat → Bytes) (m : Nat) : (namesL leads S m).length ≤ m := by
  unfold namesL
  rw [List.length_map]
  have := List.length_filter_le (fun i => kindR leads S i == 6) (List.range m)
  rwa [List.length_range] at this
theorem namesL_any (leads : UInt8 → Bool) (S : Nat → Bytes) (s : Bytes) : ∀ m, (namesL leads S m).any (fun x => s == x) = (List.range m).any fun j => okR leads (S j) && (s == nmR (S j))
  | 0 => rfl
  | m + 1 => by
    rw [namesL_succ, List.any_append, List.range_succ, List.any_append, namesL_any leads S s m]
    by_cases h : kindR leads S m = 6
    · have hok : okR leads (S m) = true := by
        unfold kindR at h; unfold okR
        split at h
        · simp at h
        · split at h
          · simp at h
          · rename_i h1 h2; simp [h1, h2]
      simp [h, hok]
    · simp only [if_neg h, List.any_nil, List.any_cons, Bool.or_false]
      cases hok : okR leads (S m) with
      | false => simp
      | true =>
        have hz : zeroE (S m) = false := by unfold okR at hok; simp at hok; exact hok.1
        have hb : badR leads (S m) = false := by unfold okR at hok; simp at hok; exact hok.2
        have h5 : ((List.range m).any fun j => okR leads (S j) && (nmR (S m) == nmR (S j))) = true := by
          unfold kindR at h
          rw [hz, hb] at h
          simp only [Bool.false_eq_true, if_false] at h
          split at h
          · assumption
          · simp at h
        by_cases he : s = nmR (S m)
        · subst he; rw [h5]; simp
        · simp [he]
/-- two slices of the call's own: faults, names -/
structure RSt (w : World) (base : Nat) (vf vn : Value) (F : List Flt) (N : List Bytes) : Prop where
  f : w.ownsRow base 184 2 vf F.length (F.flatMap fcells)
  n : w.ownsRow base 9 1 vn N.length (N.map fun x => sv x)
section
variable {w w' : World} {base : Nat} {vf vn vf' vn' : Value} {F : List Flt} {N : List Bytes}
theorem RSt.below (h : RSt w base vf vn F N) (hb : Below w.heap.size w w') : RSt w' base vf vn F N := ⟨own_below h.f hb, own_below h.n hb⟩
theorem RSt.addF (h : RSt w base vf vn F N) {x : Flt} (hg : w.grownBy w' vf.ownBlock) (h' : w'.ownsRow base 184 2 vf' (F.length + 1) (F.flatMap fcells ++ fcells x)) : RSt w' base vf' vn (F ++ [x]) N :=
  ⟨by simpa using h', h.n.kept hg (own_apart h.n h.f (by decide))⟩
theorem RSt.addN (h : RSt w base vf vn F N) {x : Bytes} (hg : w.grownBy w' vn.ownBlock) (h' : w'.ownsRow base 9 1 vn' (N.length + 1) ((N.map fun x => sv x) ++ [sv x])) : RSt w' base vf vn' F (N ++ [x]) :=
  ⟨h.f.kept hg (own_apart h.f h.n (by decide)), by simpa using h'⟩
end
theorem string_info : (Tryz.prog.info? 9).map (fun i => (i.zero, i.size, i.bytes)) = some (some (.string ByteArray.empty), 1, 16) := by kernel_rfl
theorem RdEs.belowB {w w' : World} {A : Option Addr} {L : List (Int × Bytes)} (h : RdEs w A L) (hb : Below w.heap.size w w') : RdEs w' A L := h.below hb
set_option maxRecDepth 100000 in
set_option maxHeartbeats 1000000 in
theorem roots_ok (A Ar : Option Addr) (n c nr cr : Nat) (l : Bytes) (L : List (Int × Bytes)) (leads : UInt8 → Bool) (w : World) (hn : l.length = n) (hr : rightB n = true) (hnc : n ≤ c) (hrd : Rd w A l) (hnr : L.length = nr) (hl : nr ≤ 100) (hrl : RdEs w Ar L)
    (hleads : ∀ x : UInt8, (L.any fun e => e.1 == (x.toNat : Int)) = leads x) :
    Calls Tryz.prog 76 #[.slice A n c, .slice Ar nr cr] w fun e w' => ∃ vf, e = .returned vf ∧ w'.ownsRow w.heap.size 184 2 vf (faultsR leads (rawR l) 8).length ((faultsR leads (rawR l) 8).flatMap fcells) ∧ Below w.heap.size w w' := by
  have hnb := rightB_true.1 hr
  obtain ⟨i1, hi1, hy0, hy1, hy2⟩ := info_parts fault_info
  obtain ⟨i2, hi2, hx0, hx1, hx2⟩ := info_parts string_info
  have HRAW : Hidden (∀ k : Nat, k < 8 → ∀ W, Below w.heap.size w W → Rd W (A.map (·.add (200 + 11 * k))) (rawR l k)) := ⟨fun k hk W hW => rawR_rd (hrd.below hW) k hk (by omega)⟩
  have HLEN : Hidden (∀ k : Nat, k < 8 → (rawR l k).length = 11) := ⟨fun k hk => rawR_len l k hk (by omega)⟩
  have HLD := Hidden.mk hleads
  have HNR := Hidden.mk hnr
  have HRL := Hidden.mk hrl
  generalize rawR l = S at *
  clear hr hrd hn hleads hnr hrl
  go_enter Tryz.func76, Tryz.ntmps76
  go_wp2_with fail
  go_loopw [4, 5, 11] (fun vf vn i wr => ∃ k : Nat, k ≤ 8 ∧ i = .int .i64 (k : Int) ∧ Below w.heap.size w wr ∧ RSt wr w.heap.size vf vn (faultsR leads S k) (namesL leads S k)) (fun _ _ i _ => 8 - (intOf i).toNat)
  case atStart => exact ⟨0, by omega, rfl, Below.refl _ _, World.ownsRow_nil _ _ _ _, World.ownsRow_nil _ _ _ _⟩
  case round =>
    obtain ⟨k, hk, rfl, hbel, hst⟩ := hrel
    by_cases hlt : k < 8
    · have k0 : (k : Int) < 8 := by omega
      have s1 : IntKind.i64.wrap ((k : Int) + 1) = (k : Int) + 1 := IntWalk.i64_in _ (by omega)
      have hlF := faultsR_len leads S k
      have hlN := namesL_len leads S k
      have HSF := Hidden.mk (faultsR_succ leads S k)
      have HSN := Hidden.mk (namesL_succ leads S k)
      have hrw := HRAW.out k hlt wr hbel
      have hlen := HLEN.out k hlt
      obtain ⟨p, off, hA, hpl⟩ := hrw.lt (by omega)
      rw [hA] at hrw
      have HA := Hidden.mk hA
      clear hA hlen
      go_wp2_with fail
      refine (rawRoot_any A n c (k : Int) _ (by omega) (by omega) (by omega) hnc).mono ?_
      rintro e w1 ⟨rfl, rfl⟩
      rw [rootO_k, HA.out]
      have hal : Below wr.heap.size wr (wr.alloc (.cells #[.slice (some ⟨p, off, none⟩) 11 (c - (200 + 11 * k))] 34)) := (Below.refl _ _).alloc (Nat.le_refl _) _
      have hB2 : Below w.heap.size w (wr.alloc (.cells #[.slice (some ⟨p, off, none⟩) 11 (c - (200 + 11 * k))] 34)) := hbel.alloc hbel.size _
      have hst2 := hst.below hal
      have hrw2 := hrw.below hal
      have hbx : (wr.alloc (.cells #[.slice (some ⟨p, off, none⟩) 11 (c - (200 + 11 * k))] 34)).heap[wr.heap.size]? = some (.cells #[.slice (some ⟨p, off, none⟩) 11 (c - (200 + 11 * k))] 34 (0, 0)) := heap_alloc_new wr _
      go_wp2_with fail
      generalize hcc : c - (200 + 11 * k) = cc at *
      have hc8 : 8 ≤ cc := by omega
      generalize wr.alloc (.cells #[.slice (some ⟨p, off, none⟩) 11 cc] 34) = w2 at *
      generalize wr.heap.size = Bx at *
      clear hst hbel hal hrw hcc hpl
      refine (izero_any _ 11 _ (S k) _ (HLEN.out k hlt) (by simp [maxLen]) hrw2).mono ?_
      rintro e w3 ⟨rfl, rfl⟩
      cases hz : zeroE (S k) with
      | true =>
        have hk0 : kindR leads S k = 0 := by unfold kindR; rw [if_pos hz]
        have e1 : faultsR leads S (k + 1) = faultsR leads S k := by rw [HSF.out, hk0]; simp [fltOf]
        have e2 : namesL leads S (k + 1) = namesL leads S k := by rw [HSN.out, hk0]; simp
        have hst3 : RSt w2 w.heap.size u4 u5 (faultsR leads S (k + 1)) (namesL leads S (k + 1)) := by rw [e1, e2]; exact hst2
        have HST := Hidden.mk hst3
        clear e1 e2 hst3 hst2 hz hk0
        go_wp2_with fail
        go_roundw
        case rel => exact ⟨k + 1, by omega, by go_num, hB2, HST.out⟩
        case measure => simp [intOf]; omega
      | false =>
        have HKIND : Hidden (kindR leads S k = if badR leads (S k) = true then 4 else if (namesL leads S k).any (fun x => nmR (S k) == x) = true then 5 else 6) := ⟨by
          rw [namesL_any]; unfold kindR; rw [hz]; simp⟩
        have FIN4 : Hidden (badR leads (S k) = true → faultsR leads S (k + 1) = faultsR leads S k ++ [⟨4, k⟩] ∧ namesL leads S (k + 1) = namesL leads S k) := ⟨fun hb => ⟨by rw [HSF.out, HKIND.out, if_pos hb]; simp [fltOf], by rw [HSN.out, HKIND.out, if_pos hb]; simp⟩⟩
        have FIN5 : Hidden (badR leads (S k) = false → (namesL leads S k).any (fun x => nmR (S k) == x) = true → faultsR leads S (k + 1) = faultsR leads S k ++ [⟨5, k⟩] ∧ namesL leads S (k + 1) = namesL leads S k) := ⟨fun hb ha => ⟨by rw [HSF.out, HKIND.out, hb, ha]; simp [fltOf], by rw [HSN.out, HKIND.out, hb, ha]; simp⟩⟩
        have FIN6 : Hidden (badR leads (S k) = false → (namesL leads S k).any (fun x => nmR (S k) == x) = false → faultsR leads S (k + 1) = faultsR leads S k ∧ namesL leads S (k + 1) = namesL leads S k ++ [nmR (S k)]) := ⟨fun hb ha => ⟨by rw [HSF.out, HKIND.out, hb, ha]; simp [fltOf], by rw [HSN.out, HKIND.out, hb, ha]; simp⟩⟩
        have y0 : w2.cell? ⟨Bx, 0, none⟩ = some (.slice (some ⟨p, off, none⟩) 11 cc) := by simp [World.cell?, hbx]
        have hltx : Bx < w2.heap.size := (Array.getElem?_eq_some_iff.1 hbx).1
        clear hz HKIND
        go_wp2_with fail
        refine (getName_any (some ⟨p, off, none⟩) cc ((S k).take 8) w2 (by simp [HLEN.out k hlt]) hc8 (hrw2.take 8 (by rw [HLEN.out k hlt]; omega))).mono ?_
        rintro e w3 ⟨he, hb3⟩
        have hB3 := hB2.trans (hb3.mono hB2.size)
        have hst3 := hst2.below hb3
        have hrw3 := hrw2.below hb3
        have hbx3 := (hb3.block Bx hltx).trans hbx
        have hltx3 : Bx < w3.heap.size := (Array.getElem?_eq_some_iff.1 hbx3).1
        have hcf := cfe_leads (fun x => x.1 == (((S k).getD 10 0).toNat : Int)) Ar nr cr L (.pointer (some ⟨Bx, 0, none⟩)) w3 HNR.out (by omega) (RdEs.belowB HRL.out hB3) (fun x _ W hW => leads1_any (S k) (HLEN.out k hlt) Bx p off cc x W (by have := (hW.block Bx hltx3).trans hbx3; simp [World.cell?, this]) (hrw3.below hW))
        rw [HLD.out] at hcf
        have HCF := Hidden.mk hcf
        have HLE := HLEN.out k hlt
        have q8 := hrw3.at_ 8 (by rw [HLE]; omega)
        have q9 := hrw3.at_ 9 (by rw [HLE]; omega)
        have g8 : (S k).getD 8 0 = (S k)[8]'(by rw [HLE]; omega) := by simp [HLE]
        have g9 : (S k).getD 9 0 = (S k)[9]'(by rw [HLE]; omega) := by simp [HLE]
        have z3 : w3.cell? ⟨Bx, 0, none⟩ = some (.slice (some ⟨p, off, none⟩) 11 cc) := by simp [World.cell?, hbx3]
        have HBAD : Hidden (badR leads (S k) = (!gotName ((S k).take 8) || (((S k)[8]'(by rw [HLE]; omega)).toNat : Int) != 0 || (((S k)[9]'(by rw [HLE]; omega)).toNat : Int) != 0 || !leads ((S k).getD 10 0))) := ⟨by
          unfold badR; rw [bv_bne, bv_bne, g8, g9]; rfl⟩
        have q8l := block_lt_of_cell q8
        generalize (S k)[8]'(by rw [HLE]; omega) = x8 at *
        generalize (S k)[9]'(by rw [HLE]; omega) = x9 at *
        generalize hld : leads ((S k).getD 10 0) = ld at *
        clear hB2 hst2 hb3 hbx hltx hrw2 hcf y0 HLE g8 g9 hrw3
        have HW4 : Hidden (∀ w4, Below w3.heap.size w3 w4 → Below w.heap.size w w4 ∧ RSt w4 w.heap.size u4 u5 (faultsR leads S k) (namesL leads S k) ∧ w4.cell? ⟨Bx, 0, none⟩ = some (.slice (some ⟨p, off, none⟩) 11 cc) ∧ w4.cell? ⟨p, off + 8, none⟩ = some (bv x8) ∧ w4.cell? ⟨p, off + 9, none⟩ = some (bv x9)) := ⟨fun w4 hb4 =>
          ⟨hB3.trans (hb4.mono hB3.size), hst3.below hb4, (hb4.cell (p := ⟨Bx, 0, none⟩) hltx3).trans z3, (hb4.cell (p := ⟨p, off + 8, none⟩) q8l).trans q8, (hb4.cell (p := ⟨p, off + 9, none⟩) q8l).trans q9⟩⟩
        clear hB3 hst3 z3 q8 q9 hbx3 hltx3 q8l
        cases hg : gotName ((S k).take 8) with
        | false =>
          rw [hg] at he
          simp only [Bool.false_eq_true, if_false] at he
          subst he
          go_wp2_with fail
          refine HCF.out.mono ?_
          rintro e w4 ⟨rfl, hb4⟩
          obtain ⟨hB4, hst4, z4, q8, q9⟩ := HW4.out w4 hb4
          clear hb4
          have HE := Hidden.mk (FIN4.out (by rw [HBAD.out]; simp [hg]))
          clear hg hld
          go_wp2_with (at_builtin; refine wpList_append_lies _ rfl (.tmp 51) (.tmp 54) _ rfl w.heap.size 184 i1 _ 2 16 Tryz.underlying49 hi1 hy0 hy1 hy2 rfl (by decide) u4 (faultsR leads S k).length ((faultsR leads S k).flatMap fcells) rfl (own_below hst4.f ((Below.refl _ _).alloc (Nat.le_refl _) _)) ⟨w4.heap.size, 0, none⟩ 1 1 [.int .i64 4, .int .i64 (k : Int)] rfl rfl (World.news_of_block (cs := #[.int .i64 4, .int .i64 (k : Int)]) (t := 184) (fr := (0, 0)) (heap_alloc_new w4 _)) (by simp [Value.oneCell']) (by omega) (by simp only [maxLen]; omega) (by omega) (by have := hB4.size; simp; omega) (w4.heap.size + 1) (by simp) ?_; intro gf capf w7 hown7 hg7 hat7 hlt7)
          have hgF := grown_trans' ((Below.refl _ _).alloc (Nat.le_refl _) _) hg7
          have hst7 := hst4.addF (x := ⟨4, k⟩) hgF hown7
          have hB7 : Below w.heap.size w w7 := hB4.grown hgF hB4.size (fun q hq => (hst4.f.lt q hq).1)
          clear hown7 hg7 hat7 hlt7 hgF hst4 hB4
          go_roundw
          case rel => exact ⟨k + 1, by omega, by go_num, hB7, by rw [HE.out.1, HE.out.2]; exact hst7⟩
          case measure => simp [intOf]; omega
        | true =>
          rw [hg] at he
          simp only [if_true] at he
          subst he
          go_wp2_with fail
          refine HCF.out.mono ?_
          rintro e w4 ⟨rfl, hb4⟩
          obtain ⟨hB4, hst4, z4, q8, q9⟩ := HW4.out w4 hb4
          clear hb4
          cases h8 : ((x8.toNat : Int) != 0) with
          | true =>
            have HE := Hidden.mk (FIN4.out (by rw [HBAD.out]; simp [h8]))
            go_wp2_with (at_builtin; refine wpList_append_lies _ rfl (.tmp 51) (.tmp 54) _ rfl w.heap.size 184 i1 _ 2 16 Tryz.underlying49 hi1 hy0 hy1 hy2 rfl (by decide) u4 (faultsR leads S k).length ((faultsR leads S k).flatMap fcells) rfl (own_below hst4.f ((Below.refl _ _).alloc (Nat.le_refl _) _)) ⟨w4.heap.size, 0, none⟩ 1 1 [.int .i64 4, .int .i64 (k : Int)] rfl rfl (World.news_of_block (cs := #[.int .i64 4, .int .i64 (k : Int)]) (t := 184) (fr := (0, 0)) (heap_alloc_new w4 _)) (by simp [Value.oneCell']) (by omega) (by simp only [maxLen]; omega) (by omega) (by have := hB4.size; simp; omega) (w4.heap.size + 1) (by simp) ?_; intro gf capf w7 hown7 hg7 hat7 hlt7)
            have hgF := grown_trans' ((Below.refl _ _).alloc (Nat.le_refl _) _) hg7
            have hst7 := hst4.addF (x := ⟨4, k⟩) hgF hown7
            have hB7 : Below w.heap.size w w7 := hB4.grown hgF hB4.size (fun q hq => (hst4.f.lt q hq).1)
            clear hown7 hg7 hat7 hlt7 hgF hst4 hB4
            go_roundw
            case rel => exact ⟨k + 1, by omega, by go_num, hB7, by rw [HE.out.1, HE.out.2]; exact hst7⟩
            case measure => simp [intOf]; omega
          | false =>
            cases h9 : ((x9.toNat : Int) != 0) with
            | true =>
              have HE := Hidden.mk (FIN4.out (by rw [HBAD.out]; simp [h9]))
              go_wp2_with (at_builtin; refine wpList_append_lies _ rfl (.tmp 51) (.tmp 54) _ rfl w.heap.size 184 i1 _ 2 16 Tryz.underlying49 hi1 hy0 hy1 hy2 rfl (by decide) u4 (faultsR leads S k).length ((faultsR leads S k).flatMap fcells) rfl (own_below hst4.f ((Below.refl _ _).alloc (Nat.le_refl _) _)) ⟨w4.heap.size, 0, none⟩ 1 1 [.int .i64 4, .int .i64 (k : Int)] rfl rfl (World.news_of_block (cs := #[.int .i64 4, .int .i64 (k : Int)]) (t := 184) (fr := (0, 0)) (heap_alloc_new w4 _)) (by simp [Value.oneCell']) (by omega) (by simp only [maxLen]; omega) (by omega) (by have := hB4.size; simp; omega) (w4.heap.size + 1) (by simp) ?_; intro gf capf w7 hown7 hg7 hat7 hlt7)
              have hgF := grown_trans' ((Below.refl _ _).alloc (Nat.le_refl _) _) hg7
              have hst7 := hst4.addF (x := ⟨4, k⟩) hgF hown7
              have hB7 : Below w.heap.size w w7 := hB4.grown hgF hB4.size (fun q hq => (hst4.f.lt q hq).1)
              clear hown7 hg7 hat7 hlt7 hgF hst4 hB4
              go_roundw
              case rel => exact ⟨k + 1, by omega, by go_num, hB7, by rw [HE.out.1, HE.out.2]; exact hst7⟩
              case measure => simp [intOf]; omega
            | false =>
              cases ld with
              | false =>
                have HE := Hidden.mk (FIN4.out (by rw [HBAD.out]; simp []))
                go_wp2_with (at_builtin; refine wpList_append_lies _ rfl (.tmp 51) (.tmp 54) _ rfl w.heap.size 184 i1 _ 2 16 Tryz.underlying49 hi1 hy0 hy1 hy2 rfl (by decide) u4 (faultsR leads S k).length ((faultsR leads S k).flatMap fcells) rfl (own_below hst4.f ((Below.refl _ _).alloc (Nat.le_refl _) _)) ⟨w4.heap.size, 0, none⟩ 1 1 [.int .i64 4, .int .i64 (k : Int)] rfl rfl (World.news_of_block (cs := #[.int .i64 4, .int .i64 (k : Int)]) (t := 184) (fr := (0, 0)) (heap_alloc_new w4 _)) (by simp [Value.oneCell']) (by omega) (by simp only [maxLen]; omega) (by omega) (by have := hB4.size; simp; omega) (w4.heap.size + 1) (by simp) ?_; intro gf capf w7 hown7 hg7 hat7 hlt7)
                have hgF := grown_trans' ((Below.refl _ _).alloc (Nat.le_refl _) _) hg7
                have hst7 := hst4.addF (x := ⟨4, k⟩) hgF hown7
                have hB7 : Below w.heap.size w w7 := hB4.grown hgF hB4.size (fun q hq => (hst4.f.lt q hq).1)
                clear hown7 hg7 hat7 hlt7 hgF hst4 hB4
                go_roundw
                case rel => exact ⟨k + 1, by omega, by go_num, hB7, by rw [HE.out.1, HE.out.2]; exact hst7⟩
                case measure => simp [intOf]; omega
              | true =>
                have HB := Hidden.mk (show badR leads (S k) = false by rw [HBAD.out, hg, h8, h9]; rfl)
                obtain ⟨A4, c4, hv4, hc4, hrd4⟩ := own_rdS hst4.n
                subst hv4
                have hct := containsS_any A4 (namesL leads S k).length c4 (namesL leads S k) (nmR (S k)) w4 rfl (by omega) hrd4
                have HCT := Hidden.mk hct
                clear hct hrd4
                go_wp2_with fail
                refine HCT.out.mono ?_
                rintro e w5 ⟨rfl, rfl⟩
                cases hany : (namesL leads S k).any (fun x => nmR (S k) == x) with
                | true =>
                  have HE := Hidden.mk (FIN5.out HB.out hany)
                  clear hany
                  go_wp2_with (at_builtin; refine wpList_append_lies _ rfl (.tmp 60) (.tmp 63) _ rfl w.heap.size 184 i1 _ 2 16 Tryz.underlying49 hi1 hy0 hy1 hy2 rfl (by decide) u4 (faultsR leads S k).length ((faultsR leads S k).flatMap fcells) rfl (own_below hst4.f ((Below.refl _ _).alloc (Nat.le_refl _) _)) ⟨w4.heap.size, 0, none⟩ 1 1 [.int .i64 5, .int .i64 (k : Int)] rfl rfl (World.news_of_block (cs := #[.int .i64 5, .int .i64 (k : Int)]) (t := 184) (fr := (0, 0)) (heap_alloc_new w4 _)) (by simp [Value.oneCell']) (by omega) (by simp only [maxLen]; omega) (by omega) (by have := hB4.size; simp; omega) (w4.heap.size + 1) (by simp) ?_; intro gf capf w7 hown7 hg7 hat7 hlt7)
                  have hgF := grown_trans' ((Below.refl _ _).alloc (Nat.le_refl _) _) hg7
                  have hst7 := hst4.addF (x := ⟨5, k⟩) hgF hown7
                  have hB7 : Below w.heap.size w w7 := hB4.grown hgF hB4.size (fun q hq => (hst4.f.lt q hq).1)
                  clear hown7 hg7 hat7 hlt7 hgF hst4 hB4
                  go_roundw
                  case rel => exact ⟨k + 1, by omega, by go_num, hB7, by rw [HE.out.1, HE.out.2]; exact hst7⟩
                  case measure => simp [intOf]; omega
                | false =>
                  have HE := Hidden.mk (FIN6.out HB.out hany)
                  clear hany
                  go_wp2_with (at_builtin; refine wpList_append_lies _ rfl (.tmp 28) (.tmp 30) _ rfl w.heap.size 9 i2 _ 1 16 Tryz.underlying189 hi2 hx0 hx1 hx2 rfl (by decide) (.slice A4 (namesL leads S k).length c4) (namesL leads S k).length ((namesL leads S k).map fun x => sv x) rfl (own_below hst4.n ((Below.refl _ _).alloc (Nat.le_refl _) _)) ⟨w4.heap.size, 0, none⟩ 1 1 [sv (nmR (S k))] rfl rfl (World.news_of_block (cs := #[sv (nmR (S k))]) (t := 9) (fr := (0, 0)) (heap_alloc_new w4 _)) (by simp [Value.oneCell']) (by omega) (by simp only [maxLen]; omega) (by omega) (by have := hB4.size; simp; omega) (w4.heap.size + 1) (by simp) ?_; intro gf capf w7 hown7 hg7 hat7 hlt7)
                  have hgF := grown_trans' ((Below.refl _ _).alloc (Nat.le_refl _) _) hg7
                  have hst7 := hst4.addN (x := nmR (S k)) hgF hown7
                  have hB7 : Below w.heap.size w w7 := hB4.grown hgF hB4.size (fun q hq => (hst4.n.lt q hq).1)
                  clear hown7 hg7 hat7 hlt7 hgF hst4 hB4
                  go_roundw
                  case rel => exact ⟨k + 1, by omega, by go_num, hB7, by rw [HE.out.1, HE.out.2]; exact hst7⟩
                  case measure => simp [intOf]; omega
    · obtain rfl : k = 8 := by omega
      go_wp2_with fail
      go_ret
      exact ⟨u4, rfl, hst.f, hbel⟩
end Go.Proofs.YtoieifphklodoaaGreatDoor
/- The contracts of image.Entries, Roots and Drop, and of image.Get where there is none. -/
namespace Go.Proofs.YtoieifphklodoaaGreatDoor
open Go.RowKit

/-- the entries of an image -/
def entriesL (l : Bytes) : List (Int × Bytes) := entsL (fun k => hasE (rawE l k)) (rawE l) 40
set_option maxRecDepth 100000 in
theorem ientries_ok (A : Option Addr) (n c : Nat) (l : Bytes) (w : World) (hn : l.length = n) (hr : rightB n = true) (hnc : n ≤ c) (hrd : Rd w A l) :
    Calls Tryz.prog 149 #[.slice A n c] w fun e w' => ∃ v, e = .returned (.tuple #[v, .nilIface]) ∧ w'.ownsRow w.heap.size 89 4 v (entriesL l).length ((entriesL l).flatMap ecells) ∧ Below w.heap.size w w' := by
  have hnb := rightB_true.1 hr
  obtain ⟨i2, hi2, hx0, hx1, hx2⟩ := info_parts entry_info
  have HF : Hidden (∀ k : Nat, k < 40 → ∀ W, Below w.heap.size w W → Calls Tryz.prog 141 #[.slice A n c, .int .i64 ((k : Int) + 1)] W fun e w' => e = .returned (.tuple #[entV ((k : Int) + 1) (rAt (rawE l k)) (rLen (rawE l k)) (rTag (rawE l k)), .bool (hasE (rawE l k))]) ∧ Below W.heap.size W w') :=
    ⟨fun k hk W hW => find_ok A n c l k W hn (by omega) hnc (hrd.below hW) hk⟩
  have HL : Hidden (entriesL l = entsL (fun k => hasE (rawE l k)) (rawE l) 40) := ⟨rfl⟩
  generalize rawE l = R at *
  clear hrd hn
  go_enter Tryz.func149, Tryz.ntmps149
  go_wp2_with fail
  refine (check_ok A n c 1 _ hr (by decide)).mono ?_
  rintro e w1 ⟨rfl, rfl⟩
  go_wp2_with fail
  go_loopg [5, 6] 40 (fun m v h wr => ∃ k : Nat, k ≤ 40 ∧ m = 40 - k ∧ h = .int .i64 ((k : Int) + 1) ∧ Below w.heap.size w wr ∧ wr.ownsRow w.heap.size 89 4 v (entsL (fun k => hasE (R k)) R k).length ((entsL (fun k => hasE (R k)) R k).flatMap ecells))
  case atStart => exact ⟨0, by omega, rfl, rfl, Below.refl _ _, World.ownsRow_nil _ _ _ _⟩
  case round =>
    obtain ⟨k, hk, rfl, rfl, hbel, hown⟩ := hrel
    by_cases hlt : k < 40
    · have k0 : ((k : Int) + 1) ≤ 40 := by omega
      have s1 : IntKind.i64.wrap ((k : Int) + 1 + 1) = (k : Int) + 1 + 1 := IntWalk.i64_in _ (by omega)
      have hll := entsL_len (fun k => hasE (R k)) R k
      have HS := Hidden.mk (entsL_succ (fun k => hasE (R k)) R k)
      have HG := Hidden.mk (HF.out k hlt wr hbel)
      have HC : Hidden (ecells (((k : Int) + 1), R k) = [.int .i64 ((k : Int) + 1), .int .i64 (rAt (R k)), .int .i64 (rLen (R k)), .int .i64 (rTag (R k))]) := ⟨rfl⟩
      generalize entsL (fun k => hasE (R k)) R k = L at *
      go_wp2_with fail
      refine HG.out.mono ?_
      rintro e w1 ⟨rfl, hb1⟩
      generalize (rAt (R k) : Int) = a1 at *
      generalize (rLen (R k) : Int) = a2 at *
      generalize rTag (R k) = a3 at *
      have hB1 := hbel.trans (hb1.mono hbel.size)
      have hown1 := own_below hown hb1
      have hal : Below w1.heap.size w1 (w1.alloc (.cells #[.int .i64 ((k : Int) + 1), .int .i64 a1, .int .i64 a2, .int .i64 a3] 89)) := (Below.refl _ _).alloc (Nat.le_refl _) _
      have hB2 : Below w.heap.size w (w1.alloc (.cells #[.int .i64 ((k : Int) + 1), .int .i64 a1, .int .i64 a2, .int .i64 a3] 89)) := hB1.alloc hB1.size _
      have hown2 := own_below hown1 hal
      have hbx : (w1.alloc (.cells #[.int .i64 ((k : Int) + 1), .int .i64 a1, .int .i64 a2, .int .i64 a3] 89)).heap[w1.heap.size]? = some (.cells #[.int .i64 ((k : Int) + 1), .int .i64 a1, .int .i64 a2, .int .i64 a3] 89 (0, 0)) := heap_alloc_new w1 _
      clear hal hown hown1 hbel hB1 hb1
      cases hE : hasE (R k) with
      | false =>
        rw [hE] at HS
        go_wp2_with fail
        generalize w1.alloc (.cells #[.int .i64 ((k : Int) + 1), .int .i64 a1, .int .i64 a2, .int .i64 a3] 89) = w2 at *
        go_roundg (40 - (k + 1))
        case measure => omega
        case rel => exact ⟨k + 1, by omega, rfl, by go_num, hB2, by rw [HS.out]; simpa using hown2⟩
      | true =>
        rw [hE] at HS
        clear hE hbx
        have hnb : ((w1.alloc (.cells #[.int .i64 ((k : Int) + 1), .int .i64 a1, .int .i64 a2, .int .i64 a3] 89)).alloc (.cells #[.int .i64 ((k : Int) + 1), .int .i64 a1, .int .i64 a2, .int .i64 a3] 89)).heap[w1.heap.size + 1]? = some (.cells #[.int .i64 ((k : Int) + 1), .int .i64 a1, .int .i64 a2, .int .i64 a3] 89) := by
          have := heap_alloc_new (w1.alloc (.cells #[.int .i64 ((k : Int) + 1), .int .i64 a1, .int .i64 a2, .int .i64 a3] 89)) (.cells #[.int .i64 ((k : Int) + 1), .int .i64 a1, .int .i64 a2, .int .i64 a3] 89)
          rwa [World.size_alloc] at this
        have HNB := Hidden.mk hnb
        have HOW := Hidden.mk hown2
        have HBB := Hidden.mk hB2
        clear hnb hown2 hB2
        go_wp2_with (at_builtin; refine wpList_append_lies _ rfl (.tmp 25) (.tmp 27) _ rfl w.heap.size 89 i2 _ 4 32 Tryz.underlying100 hi2 hx0 hx1 hx2 rfl (by decide) u5 L.length (L.flatMap ecells) rfl (own_below HOW.out ((Below.refl _ _).alloc (Nat.le_refl _) _)) ⟨w1.heap.size + 1, 0, none⟩ 1 1 [.int .i64 ((k : Int) + 1), .int .i64 a1, .int .i64 a2, .int .i64 a3] rfl rfl (World.news_of_block (cs := #[.int .i64 ((k : Int) + 1), .int .i64 a1, .int .i64 a2, .int .i64 a3]) (t := 89) (fr := (0, 0)) HNB.out) (by simp [Value.oneCell']) (by omega) (by simp only [maxLen]; omega) (by omega) (by have := HBB.out.size; simp at this ⊢; omega) (w1.heap.size + 2) (by simp) ?_; intro g8 cap8 w8 hown8 hg8 hat8 hlt8)
        have hown2 := HOW.out
        have hB2 := HBB.out
        have hgW := grown_trans' ((Below.refl _ _).alloc (Nat.le_refl _) _) hg8
        have hB8 : Below w.heap.size w w8 := hB2.grown hgW hB2.size (fun q hq => (hown2.lt q hq).1)
        clear hown2 hB2 hg8 hgW hat8 hlt8
        go_roundg (40 - (k + 1))
        case measure => omega
        case rel => exact ⟨k + 1, by omega, rfl, by go_num, hB8, by rw [HS.out]; simpa [HC.out] using hown8⟩
    · obtain rfl : k = 40 := by omega
      go_wp2_with fail
      go_ret2
      exact ⟨_, rfl, by rw [HL.out]; exact hown, hbel⟩

/-- a root: its name, its handle -/
def rootP (r : Bytes) : Bytes × Nat := (if gotName (r.take 8) = true then nmR r else [], (r.getD 10 0).toNat)
def rootsF (S : Nat → Bytes) (m : Nat) : List (Bytes × Nat) := ((List.range m).filter fun i => !zeroE (S i)).map fun i => rootP (S i)
def rootsL (l : Bytes) : List (Bytes × Nat) := rootsF (rawR l) 8
theorem rootsF_succ (S : Nat → Bytes) (m : Nat) : rootsF S (m + 1) = rootsF S m ++ (if zeroE (S m) = true then [] else [rootP (S m)]) := by
  unfold rootsF
  rw [List.range_succ, List.filter_append, List.map_append]
  congr 1
  cases h : zeroE (S m) <;> simp [h]
theorem rootsF_len (S : Nat → Bytes) (m : Nat) : (rootsF S m).length ≤ m := by
  unfold rootsF
  rw [List.length_map]
  have := List.length_filter_le (fun i => !zeroE (S i)) (List.range m)
  rwa [List.length_range] at this
def rcells (x : Bytes × Nat) : List Value := [sv x.1, .int .i64 x.2]
theorem root_info : (Tryz.prog.info? 150).map (fun i => (i.zero, i.size, i.bytes)) = some (some (.agg #[.string ByteArray.empty, .int .i64 0]), 2, 24) := by kernel_rfl
set_option maxRecDepth 100000 in
theorem iroots_ok (A : Option Addr) (n c : Nat) (l : Bytes) (w : World) (hn : l.length = n) (hr : rightB n = true) (hnc : n ≤ c) (hrd : Rd w A l) :
    Calls Tryz.prog 146 #[.slice A n c] w fun e w' => ∃ v, e = .returned (.tuple #[v, .nilIface]) ∧ w'.ownsRow w.heap.size 150 2 v (rootsL l).length ((rootsL l).flatMap rcells) ∧ Below w.heap.size w w' := by
  have hnb := rightB_true.1 hr
  obtain ⟨i2, hi2, hx0, hx1, hx2⟩ := info_parts root_info
  have HRAW : Hidden (∀ k : Nat, k < 8 → ∀ W, Below w.heap.size w W → Rd W (A.map (·.add (200 + 11 * k))) (rawR l k)) := ⟨fun k hk W hW => rawR_rd (hrd.below hW) k hk (by omega)⟩
  have HLEN : Hidden (∀ k : Nat, k < 8 → (rawR l k).length = 11) := ⟨fun k hk => rawR_len l k hk (by omega)⟩
  have HL : Hidden (rootsL l = rootsF (rawR l) 8) := ⟨rfl⟩
  generalize rawR l = S at *
  clear hrd hn
  go_enter Tryz.func146, Tryz.ntmps146
  go_wp2_with fail
  refine (check_ok A n c 1 _ hr (by decide)).mono ?_
  rintro e w1 ⟨rfl, rfl⟩
  go_wp2_with fail
  go_loopg [5, 15] 8 (fun m v i wr => ∃ k : Nat, k ≤ 8 ∧ m = 8 - k ∧ i = .int .i64 (k : Int) ∧ Below w.heap.size w wr ∧ wr.ownsRow w.heap.size 150 2 v (rootsF S k).length ((rootsF S k).flatMap rcells))
  case atStart => exact ⟨0, by omega, rfl, rfl, Below.refl _ _, World.ownsRow_nil _ _ _ _⟩
  case round =>
    obtain ⟨k, hk, rfl, rfl, hbel, hown⟩ := hrel
    by_cases hlt : k < 8
    · have k0 : (k : Int) < 8 := by omega
      have s1 : IntKind.i64.wrap ((k : Int) + 1) = (k : Int) + 1 := IntWalk.i64_in _ (by omega)
      have hll := rootsF_len S k
      have HS := Hidden.mk (rootsF_succ S k)
      have hrw := HRAW.out k hlt wr hbel
      have hlen := HLEN.out k hlt
      obtain ⟨p, off, hA, hpl⟩ := hrw.lt (by omega)
      rw [hA] at hrw
      have HA := Hidden.mk hA
      have q10 := hrw.at_ 10 (by omega)
      have g10 : (S k).getD 10 0 = (S k)[10]'(by omega) := by simp [hlen]
      have HP : Hidden (rootP (S k) = (if gotName ((S k).take 8) = true then nmR (S k) else [], ((S k)[10]'(by omega)).toNat)) := ⟨by unfold rootP; rw [g10]⟩
      have HLK := Hidden.mk hlen
      generalize (S k)[10]'(by omega) = x10 at *
      generalize rootsF S k = L at *
      have w10 : IntKind.i64.wrap (x10.toNat : Int) = (x10.toNat : Int) := IntWalk.i64_in _ (by have := u8_lt x10; omega)
      generalize hcc : c - (200 + 11 * k) = cc at *
      have hc8 : 8 ≤ cc := by omega
      have HCC := Hidden.mk hcc
      clear hA g10 hcc hlen
      go_wp2_with fail
      refine (rawRoot_any A n c (k : Int) _ (by omega) (by omega) (by omega) hnc).mono ?_
      rintro e w1 ⟨rfl, rfl⟩
      rw [rootO_k, HA.out, HCC.out]
      go_wp2_with fail
      refine (izero_any _ 11 _ (S k) _ HLK.out (by simp [maxLen]) hrw).mono ?_
      rintro e w1 ⟨rfl, rfl⟩
      cases hz : zeroE (S k) with
      | true =>
        rw [hz] at HS
        clear hz q10
        go_wp2_with fail
        go_roundg (8 - (k + 1))
        case measure => omega
        case rel => exact ⟨k + 1, by omega, rfl, by go_num, hbel, by rw [HS.out]; simpa using hown⟩
      | false =>
        rw [hz] at HS
        clear hz
        go_wp2_with fail
        refine (getName_any (some ⟨p, off, none⟩) cc ((S k).take 8) _ (by simp [HLK.out]) hc8 (hrw.take 8 (by rw [HLK.out]; omega))).mono ?_
        rintro e w3 ⟨he, hb3⟩
        have hB3 := hbel.trans (hb3.mono hbel.size)
        have hown3 := own_below hown hb3
        have z10 := (hb3.cell (p := ⟨p, off + 10, none⟩) hpl).trans q10
        clear hb3 hbel hown q10 hpl hrw
        cases hg : gotName ((S k).take 8)
        all_goals
          rw [hg] at he HP
          first | simp only [Bool.false_eq_true, if_false] at he | simp only [if_true] at he
          subst he
          have HG := Hidden.mk hg
          clear hg
        case false =>
          go_wp2_with (at_builtin; refine wpList_append_lies _ rfl (.tmp 29) (.tmp 36) _ rfl w.heap.size 150 i2 _ 2 24 Tryz.underlying101 hi2 hx0 hx1 hx2 rfl (by decide) u5 L.length (L.flatMap rcells) rfl (own_below hown3 ((Below.refl _ _).alloc (Nat.le_refl _) _)) ⟨w3.heap.size, 0, none⟩ 1 1 [sv [], .int .i64 x10.toNat] rfl rfl (World.news_of_block (cs := #[sv [], .int .i64 x10.toNat]) (t := 150) (fr := (0, 0)) (heap_alloc_new w3 _)) (by simp [Value.oneCell']) (by omega) (by simp only [maxLen]; omega) (by omega) (by have := hB3.size; simp; omega) (w3.heap.size + 1) (by simp) ?_; intro g8 cap8 w8 hown8 hg8 hat8 hlt8)
          have hgW := grown_trans' ((Below.refl _ _).alloc (Nat.le_refl _) _) hg8
          have hB8 : Below w.heap.size w w8 := hB3.grown hgW hB3.size (fun q hq => (hown3.lt q hq).1)
          have hpp := HP.out
          simp only [Bool.false_eq_true, if_false] at hpp
          have HPP := Hidden.mk hpp
          clear hown3 hB3 hg8 hgW hat8 hlt8 hpp
          go_roundg (8 - (k + 1))
          case measure => omega
          case rel => exact ⟨k + 1, by omega, rfl, by go_num, hB8, by rw [HS.out, HPP.out]; simpa [rcells] using hown8⟩
        case true =>
          have hpp := HP.out
          simp only [if_true] at hpp
          have HPP := Hidden.mk hpp
          have HNM : Hidden (nmR (S k) = nameAt ((S k).take 8)) := ⟨rfl⟩
          generalize nameAt ((S k).take 8) = nm at *
          clear hpp
          go_wp2_with (at_builtin; refine wpList_append_lies _ rfl (.tmp 29) (.tmp 36) _ rfl w.heap.size 150 i2 _ 2 24 Tryz.underlying101 hi2 hx0 hx1 hx2 rfl (by decide) u5 L.length (L.flatMap rcells) rfl (own_below hown3 ((Below.refl _ _).alloc (Nat.le_refl _) _)) ⟨w3.heap.size, 0, none⟩ 1 1 [sv nm, .int .i64 x10.toNat] rfl rfl (World.news_of_block (cs := #[sv nm, .int .i64 x10.toNat]) (t := 150) (fr := (0, 0)) (heap_alloc_new w3 _)) (by simp [Value.oneCell']) (by omega) (by simp only [maxLen]; omega) (by omega) (by have := hB3.size; simp; omega) (w3.heap.size + 1) (by simp) ?_; intro g8 cap8 w8 hown8 hg8 hat8 hlt8)
          have hgW := grown_trans' ((Below.refl _ _).alloc (Nat.le_refl _) _) hg8
          have hB8 : Below w.heap.size w w8 := hB3.grown hgW hB3.size (fun q hq => (hown3.lt q hq).1)
          clear hown3 hB3 hg8 hgW hat8 hlt8
          go_roundg (8 - (k + 1))
          case measure => omega
          case rel => exact ⟨k + 1, by omega, rfl, by go_num, hB8, by rw [HS.out, HPP.out, HNM.out]; simpa [rcells] using hown8⟩
    · obtain rfl : k = 8 := by omega
      go_wp2_with fail
      go_ret2
      exact ⟨_, rfl, by rw [HL.out]; exact hown, hbel⟩

theorem iget_e1 (A : Option Addr) (n c : Nat) (h : Int) (w : World) (hr : rightB n = true) (hh : handleB h = false) :
    Calls Tryz.prog 87 #[.slice A n c, .int .i64 h] w fun e w' => e = .returned (.tuple #[entV 0 0 0 0, .iface 110 (.int .i64 1)]) ∧ Below w.heap.size w w' := by
  have hW : Below w.heap.size w (w.alloc (.cells #[.int .i64 0, .int .i64 0, .int .i64 0, .int .i64 0] 89)) := (Below.refl _ _).alloc (Nat.le_refl _) _
  go_enter Tryz.func87, Tryz.ntmps87
  go_wp2_with fail
  refine (check_e1 A n c h _ hr hh).mono ?_
  rintro e w1 ⟨rfl, rfl⟩
  go_wp2_with fail
  refine bodyPost_ret (v := .tuple #[entV 0 0 0 0, .iface 110 (.int .i64 1)]) ?_ rfl ?_
  · rw [results_cell_tmp rfl]
    go_simp
  · exact ⟨rfl, hW⟩
end Go.Proofs.YtoieifphklodoaaGreatDoor
/- The contracts of the reference's Get, Put, Name, NameBytes and ReadName. -/
namespace Go.Proofs.YtoieifphklodoaaGreatDoor
open Go.RowKit

def putF (l : Bytes) (at_ x size : Int) : Bytes := if putE l.length at_ x size = 0 then putB l at_ x size else []

theorem splice_put (l : Bytes) (o x k : Nat) (h : o + k < l.length) : (splice l o (numB x k)).set (o + k) (UInt8.ofNat (x / 2 ^ (8 * k) % 256)) = splice l o (numB x (k + 1)) := by
  have h1 := numB_length x k
  have h2 := numB_length x (k + 1)
  apply List.ext_getElem?
  intro p
  rw [List.getElem?_set, splice_len _ _ _ (by omega), splice_rd _ _ _ _ (by omega), splice_rd _ _ _ _ (by omega), h1, h2]
  by_cases a : o + k = p
  · subst a
    rw [if_pos rfl, if_pos (by omega), if_pos (by omega), Nat.add_sub_cancel_left, numB_get _ _ _ (by omega)]
  · rw [if_neg a]
    by_cases b : o ≤ p ∧ p < o + k
    · rw [if_pos b, if_pos (show o ≤ p ∧ p < o + (k + 1) from by omega), numB_get _ _ _ (by omega), numB_get _ _ _ (by omega)]
    · rw [if_neg b, if_neg (show ¬ (o ≤ p ∧ p < o + (k + 1)) from by omega)]
end Go.Proofs.YtoieifphklodoaaGreatDoor
/- The contract of the reference's Put. -/
namespace Go.Proofs.YtoieifphklodoaaGreatDoor
open Go.RowKit

end Go.Proofs.YtoieifphklodoaaGreatDoor
/- The contract of the reference's Make. -/
namespace Go.Proofs.YtoieifphklodoaaGreatDoor
open Go.RowKit

theorem splice_take_succ (z b : Bytes) (o k : Nat) (hk : k < b.length) (hz : o + b.length ≤ z.length) : (splice z o (b.take k)).set (o + k) b[k] = splice z o (b.take (k + 1)) := by
  have h1 : (b.take k).length = k := by simp; omega
  have h2 : (b.take (k + 1)).length = k + 1 := by simp; omega
  apply List.ext_getElem?
  intro p
  rw [List.getElem?_set, splice_len _ _ _ (by omega), splice_rd _ _ _ _ (by omega), splice_rd _ _ _ _ (by omega), h1, h2]
  by_cases a : o + k = p
  · subst a
    rw [if_pos rfl, if_pos (by omega), if_pos (by omega), Nat.add_sub_cancel_left, List.getElem?_take, if_pos (by omega), List.getElem?_eq_getElem hk]
  · rw [if_neg a]
    by_cases c : o ≤ p ∧ p < o + k
    · rw [if_pos c, if_pos (by omega), List.getElem?_take, List.getElem?_take, if_pos (by omega), if_pos (by omega)]
    · rw [if_neg c, if_neg (by omega)]
end Go.Proofs.YtoieifphklodoaaGreatDoor
/- The contracts of the reference's Name, NameBytes and ReadName. -/
namespace Go.Proofs.YtoieifphklodoaaGreatDoor
open Go.RowKit

theorem isName_bad (s : Bytes) (k : Nat) (hk : k < s.length) (h : notLower s[k] = true) : isName s = false := by
  unfold isName
  rw [List.any_eq_true.2 ⟨s[k], List.getElem_mem hk, h⟩]
  simp
theorem refName_any (s : Bytes) (w : World) (hs : s.length ≤ 140737488351232) :
    Calls Tryz.prog 97 #[sv s] w fun e w' => e = .returned (.bool (isName s)) ∧ w = w' := by
  by_cases h0 : s = []
  · subst h0
    go_enter Tryz.func97, Tryz.ntmps97
    go_wp2
    go_ret
    exact ⟨rfl, rfl⟩
  · have h0' : s.isEmpty = false := by
      cases s with
      | nil => exact absurd rfl h0
      | cons a b => rfl
    by_cases h8 : 8 < s.length
    · have hv : Hidden (false = isName s) := ⟨by simp [isName]; intros; omega⟩
      have t8 : decide ((8 : Int) < s.length) = true := by simp; omega
      clear h0
      go_enter Tryz.func97, Tryz.ntmps97
      go_wp2
      go_ret
      exact ⟨ret_bool hv.out, rfl⟩
    · have t8 : decide ((8 : Int) < s.length) = false := by simp; omega
      clear h0
      go_enter Tryz.func97, Tryz.ntmps97
      go_wp2
      go_loop [3] (fun i => ∃ k : Nat, k ≤ s.length ∧ i = .int .i64 k ∧ Hidden (∀ x ∈ s.take k, notLower x = false)) (fun i => s.length - (intOf i).toNat)
      case atStart => exact ⟨0, Nat.zero_le _, rfl, ⟨by simp⟩⟩
      case round =>
        obtain ⟨k, hk, rfl, hnot⟩ := hrel
        by_cases hlt : k < s.length
        · have k0 : (0 : Int) ≤ k := by omega
          have k1 : (k : Int) < s.length := by omega
          have hix : ((⟨s.toArray⟩ : ByteArray)[k]'(by simpa [ByteArray.size] using hlt)) = s[k] := rfl
          by_cases ha : s[k].toNat < 97
          · have hv : Hidden (false = isName s) := ⟨(isName_bad s k hlt (by simp [notLower, ha])).symm⟩
            have t1 : decide ((s[k].toNat : Int) < 97) = true := by simp; omega
            clear hnot
            go_wp2
            go_ret
            exact ⟨ret_bool hv.out, rfl⟩
          · have t1 : decide ((s[k].toNat : Int) < 97) = false := by simp; omega
            by_cases hb : 122 < s[k].toNat
            · have hv : Hidden (false = isName s) := ⟨(isName_bad s k hlt (by simp [notLower, hb])).symm⟩
              have t2 : decide ((122 : Int) < s[k].toNat) = true := by simp; omega
              clear hnot
              go_wp2
              go_ret
              exact ⟨ret_bool hv.out, rfl⟩
            · have t2 : decide ((122 : Int) < s[k].toNat) = false := by simp; omega
              have hnk : Hidden (∀ x ∈ s.take (k + 1), notLower x = false) := ⟨forall_take_succ hlt hnot.out (by simp [notLower]; omega)⟩
              clear hnot
              go_wp2
              go_round
              case rel => exact ⟨k + 1, by omega, by go_num, hnk⟩
              case measure => simp [intOf]; omega
        · have hv : Hidden (true = isName s) := ⟨by
            have := hnot.out
            rw [List.take_of_length_le (by omega)] at this
            have h3 : s.any notLower = false := by simpa using this
            simp [isName, h3, h0']; omega⟩
          clear hnot
          go_wp2
          go_ret
          exact ⟨ret_bool hv.out, rfl⟩

theorem idxOf_at (l : Bytes) (k : Nat) (hk : k ≤ l.length) (h : ∀ x ∈ l.take k, nonZero x = true) (he : k = l.length ∨ ∃ h' : k < l.length, l[k] = 0) : l.idxOf 0 = k := by
  have hn : (0 : UInt8) ∉ l.take k := fun h0 => by have := h 0 h0; simp [nonZero] at this
  rcases he with rfl | ⟨h', hz⟩
  · rw [List.take_length] at hn
    exact List.idxOf_eq_length hn
  · have := idxB_at l 0 k h' hn hz
    have hm : (0 : UInt8) ∈ l := by rw [← hz]; exact List.getElem_mem h'
    unfold idxB at this
    rw [if_pos hm] at this
    omega
set_option maxRecDepth 100000 in
theorem refReadName_any (A : Option Addr) (c : Nat) (l : Bytes) (w : World) (h8 : l.length = 8) (hc : 8 ≤ c) (hr : Rd w A l) :
    Calls Tryz.prog 120 #[.slice A 8 c] w fun e w' => e = .returned (.tuple (if gotName l = true then #[sv (nameAt l), .int .i64 0] else #[sv [], .int .i64 2])) ∧ w = w' := by
  generalize hres : (if gotName l = true then #[sv (nameAt l), .int .i64 0] else #[sv [], .int .i64 2]) = res
  have HRES := Hidden.mk hres
  clear hres
  obtain ⟨p, off, rfl, _⟩ := hr.lt (by omega)
  go_enter Tryz.func120, Tryz.ntmps120
  go_wp2_with fail
  go_loop [4] (fun i => ∃ k : Nat, k ≤ 8 ∧ i = .int .i64 k ∧ Hidden (∀ x ∈ l.take k, nonZero x = true)) (fun i => 8 - (intOf i).toNat)
  case atStart => exact ⟨0, Nat.zero_le _, rfl, ⟨by simp⟩⟩
  case round =>
    obtain ⟨k, hk, rfl, hnot⟩ := hrel
    by_cases hgo : ∃ h : k < l.length, nonZero l[k] = true
    · obtain ⟨hlt, hnz⟩ := hgo
      have hcell := hr.at_ k hlt
      have hb := bv_bne l[k]
      rw [hnz] at hb
      have hnk : Hidden (∀ x ∈ l.take (k + 1), nonZero x = true) := ⟨by
        intro x hx
        rw [List.take_succ_eq_append_getElem hlt, List.mem_append, List.mem_singleton] at hx
        rcases hx with hx | rfl
        · exact hnot.out x hx
        · exact hnz⟩
      have k0 : (0 : Int) ≤ k := by omega
      have k1 : (k : Int) < 8 := by omega
      clear hnz hnot
      go_wp2_with fail
      go_round
      case rel => exact ⟨k + 1, by omega, by go_num, hnk⟩
      case measure => simp [intOf]; omega
    · have hidx : l.idxOf 0 = k := idxOf_at l k (by omega) hnot.out (by
        rcases Nat.lt_or_ge k l.length with h | h
        · right
          refine ⟨h, ?_⟩
          have : ¬ nonZero l[k] = true := fun h2 => hgo ⟨h, h2⟩
          simpa [nonZero] using this
        · left; omega)
      have HNA : Hidden (nameAt l = l.take k) := ⟨by unfold nameAt; rw [hidx]⟩
      have HNR : Hidden (nameRest l = l.drop k) := ⟨by unfold nameRest; rw [hidx]⟩
      clear hnot hidx
      have hk8 : decide (k < 8) = true → ∃ h : k < l.length, (((l[k]).toNat : Int) != 0) = false := fun h => by
        have h' : k < 8 := by simpa using h
        refine ⟨by omega, ?_⟩
        have : ¬ nonZero l[k] = true := fun h2 => hgo ⟨by omega, h2⟩
        rw [bv_bne]; simpa using this
      clear hgo
      have hna : Rd w (some ⟨p, off, none⟩) (l.take k) := hr.take k (by omega)
      have hcv := conv_text w (some ⟨p, off, none⟩) k c (l.take k) (by simp; omega) hna
      have hkl : (l.take k).length ≤ 140737488351232 := by simp; omega
      have kk0 : (0 : Int) ≤ (k : Int) := by omega
      have HNM : Hidden (isName (nameAt l) = isName (l.take k)) := ⟨by rw [HNA.out]⟩
      cases hd : decide (k < 8) with
      | true =>
        obtain ⟨hltl, hz⟩ := hk8 hd
        have hcell := hr.at_ k hltl
        have k1 : (k : Int) < 8 := by have : k < 8 := by simpa using hd
                                      omega
        clear hk8 hd
        go_wp2_with fail
        go_loop [5] (fun i => ∃ j : Nat, k ≤ j ∧ j ≤ 8 ∧ i = .int .i64 j ∧ Hidden (∀ q (h : q < l.length), k ≤ q → q < j → nonZero l[q] = false)) (fun i => 8 - (intOf i).toNat)
        case atStart => exact ⟨k, Nat.le_refl _, hk, rfl, ⟨fun q _ h1 h2 => by omega⟩⟩
        case round =>
          obtain ⟨j, hkj, hj, rfl, hall⟩ := hrel
          by_cases hlt : j < 8
          · have hcj := hr.at_ j (by omega)
            have hb := bv_bne (l[j]'(by omega))
            have j0 : (0 : Int) ≤ j := by omega
            have j1 : (j : Int) < 8 := by omega
            cases hz2 : nonZero (l[j]'(by omega)) with
            | true =>
              rw [hz2] at hb
              have hr2 : Hidden (#[sv [], .int .i64 2] = res) := ⟨by
                rw [← HRES.out, if_neg]
                intro hg
                simp only [gotName, Bool.and_eq_true, Bool.not_eq_true', HNR.out] at hg
                have hm : l[j]'(by omega) ∈ l.drop k := by
                  rw [List.mem_iff_getElem]
                  exact ⟨j - k, by simp; omega, by simp [show k + (j - k) = j from by omega]⟩
                have := List.any_eq_true.2 ⟨_, hm, hz2⟩
                rw [hg.2] at this
                cases this⟩
              clear hz2 hall
              go_wp2_with fail
              go_ret2
              exact ⟨congrArg (fun r => Ending.returned (.tuple r)) hr2.out, rfl⟩
            | false =>
              rw [hz2] at hb
              have hnk : Hidden (∀ q (h : q < l.length), k ≤ q → q < j + 1 → nonZero l[q] = false) := ⟨fun q h h1 h2 => by
                rcases Nat.lt_or_ge q j with h3 | h3
                · exact hall.out q h h1 h3
                · obtain rfl : q = j := by omega
                  exact hz2⟩
              clear hz2 hall
              go_wp2_with fail
              go_round
              case rel => exact ⟨j + 1, by omega, by omega, by go_num, hnk⟩
              case measure => simp [intOf]; omega
          · have hrest : Hidden ((nameRest l).any nonZero = false) := ⟨by
              rw [HNR.out, List.any_eq_false]
              intro x hx
              obtain ⟨q, hq, rfl⟩ := List.mem_iff_getElem.1 hx
              simp at hq
              have := hall.out (k + q) (by omega) (by omega) (by omega)
              simpa using this⟩
            clear hall
            go_wp2_with fail
            refine (refName_any (l.take k) _ hkl).mono ?_
            rintro e w2 ⟨rfl, rfl⟩
            cases hnm : isName (l.take k) with
            | false =>
              have hr2 : Hidden (#[sv [], .int .i64 2] = res) := ⟨by rw [← HRES.out]; simp [gotName, HNM.out, hnm]⟩
              clear hnm
              go_wp2_with fail
              go_ret2
              exact ⟨congrArg (fun r => Ending.returned (.tuple r)) hr2.out, rfl⟩
            | true =>
              have hr2 : Hidden (#[sv (l.take k), .int .i64 0] = res) := ⟨by rw [← HRES.out]; simp [gotName, hnm, hrest.out, HNA.out]⟩
              clear hnm
              go_wp2_with fail
              go_ret2
              exact ⟨congrArg (fun r => Ending.returned (.tuple r)) hr2.out, rfl⟩
      | false =>
        have k1 : ¬ (k : Int) < 8 := by have : ¬ k < 8 := by simpa using hd
                                        omega
        clear hk8 hd
        go_wp2_with fail
        go_loop [5] (fun i => ∃ j : Nat, k ≤ j ∧ j ≤ 8 ∧ i = .int .i64 j ∧ Hidden (∀ q (h : q < l.length), k ≤ q → q < j → nonZero l[q] = false)) (fun i => 8 - (intOf i).toNat)
        case atStart => exact ⟨k, Nat.le_refl _, hk, rfl, ⟨fun q _ h1 h2 => by omega⟩⟩
        case round =>
          obtain ⟨j, hkj, hj, rfl, hall⟩ := hrel
          by_cases hlt : j < 8
          · have hcj := hr.at_ j (by omega)
            have hb := bv_bne (l[j]'(by omega))
            have j0 : (0 : Int) ≤ j := by omega
            have j1 : (j : Int) < 8 := by omega
            cases hz2 : nonZero (l[j]'(by omega)) with
            | true =>
              rw [hz2] at hb
              have hr2 : Hidden (#[sv [], .int .i64 2] = res) := ⟨by
                rw [← HRES.out, if_neg]
                intro hg
                simp only [gotName, Bool.and_eq_true, Bool.not_eq_true', HNR.out] at hg
                have hm : l[j]'(by omega) ∈ l.drop k := by
                  rw [List.mem_iff_getElem]
                  exact ⟨j - k, by simp; omega, by simp [show k + (j - k) = j from by omega]⟩
                have := List.any_eq_true.2 ⟨_, hm, hz2⟩
                rw [hg.2] at this
                cases this⟩
              clear hz2 hall
              go_wp2_with fail
              go_ret2
              exact ⟨congrArg (fun r => Ending.returned (.tuple r)) hr2.out, rfl⟩
            | false =>
              rw [hz2] at hb
              have hnk : Hidden (∀ q (h : q < l.length), k ≤ q → q < j + 1 → nonZero l[q] = false) := ⟨fun q h h1 h2 => by
                rcases Nat.lt_or_ge q j with h3 | h3
                · exact hall.out q h h1 h3
                · obtain rfl : q = j := by omega
                  exact hz2⟩
              clear hz2 hall
              go_wp2_with fail
              go_round
              case rel => exact ⟨j + 1, by omega, by omega, by go_num, hnk⟩
              case measure => simp [intOf]; omega
          · have hrest : Hidden ((nameRest l).any nonZero = false) := ⟨by
              rw [HNR.out, List.any_eq_false]
              intro x hx
              obtain ⟨q, hq, rfl⟩ := List.mem_iff_getElem.1 hx
              simp at hq
              have := hall.out (k + q) (by omega) (by omega) (by omega)
              simpa using this⟩
            clear hall
            go_wp2_with fail
            refine (refName_any (l.take k) _ hkl).mono ?_
            rintro e w2 ⟨rfl, rfl⟩
            cases hnm : isName (l.take k) with
            | false =>
              have hr2 : Hidden (#[sv [], .int .i64 2] = res) := ⟨by rw [← HRES.out]; simp [gotName, HNM.out, hnm]⟩
              clear hnm
              go_wp2_with fail
              go_ret2
              exact ⟨congrArg (fun r => Ending.returned (.tuple r)) hr2.out, rfl⟩
            | true =>
              have hr2 : Hidden (#[sv (l.take k), .int .i64 0] = res) := ⟨by rw [← HRES.out]; simp [gotName, hnm, hrest.out, HNA.out]⟩
              clear hnm
              go_wp2_with fail
              go_ret2
              exact ⟨congrArg (fun r => Ending.returned (.tuple r)) hr2.out, rfl⟩
end Go.Proofs.YtoieifphklodoaaGreatDoor
/- The reference on images: Image, Handle, Zero, RootAt, Entry, Wipe. -/
namespace Go.Proofs.YtoieifphklodoaaGreatDoor
open Go.RowKit

theorem ref_handle_any (n : Int) (w : World) : Calls Tryz.prog 113 #[.int .i64 n] w fun e w' => e = .returned (.bool (handleB n)) ∧ w = w' := by
  by_cases h1 : 1 ≤ n
  · go_enter Tryz.func113, Tryz.ntmps113
    go_wp2
    go_ret
    exact ⟨ret_bool (by simp [handleB]; intros; omega), rfl⟩
  · go_enter Tryz.func113, Tryz.ntmps113
    go_wp2
    go_ret
    exact ⟨ret_bool (by symm; simp [handleB]; omega), rfl⟩
theorem zeroE_at (l : Bytes) (j : Nat) (hj : j < l.length) (h : nonZero l[j] = true) : zeroE l = false := by
  unfold zeroE
  rw [Bool.not_eq_false', List.any_eq_true]
  exact ⟨l[j], List.getElem_mem hj, h⟩
theorem zeroE_none (l : Bytes) (h : ∀ x ∈ l, nonZero x = false) : zeroE l = true := by
  unfold zeroE
  rw [Bool.not_eq_true', List.any_eq_false]
  intro x hx; rw [h x hx]; simp
theorem refZero_any (A : Option Addr) (n c : Nat) (l : Bytes) (w : World) (hn : l.length = n) (hl : n ≤ 140737488351232) (hr : Rd w A l) :
    Calls Tryz.prog 99 #[.slice A n c] w fun e w' => e = .returned (.bool (zeroE l)) ∧ w = w' := by
  subst hn
  go_enter Tryz.func99, Tryz.ntmps99
  go_wp2
  go_loop [3] (fun i => ∃ j : Nat, j ≤ l.length ∧ i = .int .i64 (j : Int) ∧ Hidden (∀ x ∈ l.take j, nonZero x = false)) (fun i => l.length - (intOf i).toNat)
  case atStart => exact ⟨0, Nat.zero_le _, rfl, ⟨by simp⟩⟩
  case round =>
    obtain ⟨j, hj, rfl, hno⟩ := hrel
    by_cases hlt : j < l.length
    · obtain ⟨b, off, rfl, hc⟩ := hr j (by omega)
      have hz := Hidden.mk (zeroE_at l j hlt)
      have hnext : Hidden (nonZero l[j] = false → ∀ x ∈ l.take (j + 1), nonZero x = false) := ⟨fun h x hx => by
        rw [List.take_succ_eq_append_getElem hlt, List.mem_append, List.mem_singleton] at hx
        rcases hx with hx | rfl
        · exact hno.out x hx
        · exact h⟩
      generalize l[j] = x at *
      have k0 : (0 : Int) ≤ j := by omega
      have k1 : (j : Int) < l.length := by omega
      cases hx : nonZero x with
      | true =>
        have hq : ((x.toNat : Int) != 0) = true := by rw [bv_bne]; exact hx
        go_wp2
        go_ret
        exact ⟨ret_bool (hz.out hx).symm, rfl⟩
      | false =>
        have hq : ((x.toNat : Int) != 0) = false := by rw [bv_bne]; exact hx
        have HN := Hidden.mk (hnext.out hx)
        clear hnext
        go_wp2
        go_round
        case rel => exact ⟨j + 1, by omega, by go_num, HN⟩
        case measure => simp [intOf]; omega
    · obtain rfl : j = l.length := by omega
      have hz := Hidden.mk (zeroE_none l (by have := hno.out; rwa [List.take_of_length_le (Nat.le_refl _)] at this))
      go_wp2
      go_ret
      exact ⟨ret_bool hz.out.symm, rfl⟩
theorem hd_get (r : Bytes) (h : 0 < r.length) : r[0] = rHd r := by
  cases r with
  | nil => simp at h
  | cons x y => rfl
theorem refRootAt_ok (p off n c k : Nat) (w : World) (hk : k < 8) (hn : 288 ≤ n) (hc : n ≤ c) :
    Calls Tryz.prog 100 #[.slice (some ⟨p, off, none⟩) n c, .int .i64 (k : Int)] w fun e w' => e = .returned (.slice (some ⟨p, off + (200 + 11 * k), none⟩) 11 (c - (200 + 11 * k))) ∧ w = w' := by
  have s1 : IntKind.i64.wrap (11 * (k : Int)) = 11 * (k : Int) := IntWalk.i64_in _ (by omega)
  have s2 : IntKind.i64.wrap (200 + 11 * (k : Int)) = ((200 + 11 * k : Nat) : Int) := by rw [IntWalk.i64_in _ (by omega)]; omega
  have s3 : IntKind.i64.wrap (211 + 11 * (k : Int)) = ((211 + 11 * k : Nat) : Int) := by rw [IntWalk.i64_in _ (by omega)]; omega
  have hcut := run_cut p off n c (200 + 11 * k) (211 + 11 * k) (by omega) (by omega) (by omega)
  have e1 : 211 + 11 * k - (200 + 11 * k) = 11 := by omega
  rw [e1] at hcut
  generalize 200 + 11 * k = o1 at *
  generalize 211 + 11 * k = o2 at *
  go_enter Tryz.func100, Tryz.ntmps100
  go_wp2_with fail
  go_ret
  exact ⟨rfl, rfl⟩
theorem fourAt_new (w : World) (f : Obj) (a b c d : Int) (t : TypeId) : FourAt ((w.alloc f).alloc (.cells #[.int .i64 a, .int .i64 b, .int .i64 c, .int .i64 d] t)) (w.heap.size + 1) a b c d := by
  have h := heap_alloc_new (w.alloc f) (.cells #[.int .i64 a, .int .i64 b, .int .i64 c, .int .i64 d] t)
  rw [show (w.alloc f).heap.size = w.heap.size + 1 by simp] at h
  unfold FourAt
  simp only [World.cell?]
  rw [h]
  exact ⟨rfl, rfl, rfl, rfl⟩
set_option maxRecDepth 100000 in
theorem refEntry_ok (A : Option Addr) (n c : Nat) (l : Bytes) (k : Nat) (w : World) (hn : l.length = n) (hl : 200 ≤ n) (hnc : n ≤ c) (hrd : Rd w A l) (hk : k < 40) :
    Calls Tryz.prog 43 #[.slice A n c, .int .i64 ((k : Int) + 1)] w fun e w' => e = .returned (.tuple #[entR ((k : Int) + 1) (rawE l k), .bool (hasE (rawE l k))]) ∧ Below w.heap.size w w' := by
  have hRl := rawE_len l k hk (by omega)
  obtain ⟨p, off, rfl, hpl⟩ := hrd.lt (by omega)
  have s1 : IntKind.i64.wrap ((k : Int) + 1 - 1) = (k : Int) := by rw [IntWalk.i64_in _ (by omega)]; omega
  have s2 : IntKind.i64.wrap (5 * (k : Int)) = ((5 * k : Nat) : Int) := by rw [IntWalk.i64_in _ (by omega)]; omega
  have s3 : IntKind.i64.wrap (((5 * k : Nat) : Int) + 1) = ((5 * k + 1 : Nat) : Int) := by rw [IntWalk.i64_in _ (by omega)]; omega
  have s4 : IntKind.i64.wrap (((5 * k : Nat) : Int) + 3) = ((5 * k + 3 : Nat) : Int) := by rw [IntWalk.i64_in _ (by omega)]; omega
  have s5 : IntKind.i64.wrap (((5 * k : Nat) : Int) + 5) = ((5 * k + 5 : Nat) : Int) := by rw [IntWalk.i64_in _ (by omega)]; omega
  have hcut1 := run_cut p off n c (5 * k + 1) (5 * k + 3) (by omega) (by omega) (by omega)
  have hcut3 := run_cut p off n c (5 * k + 3) (5 * k + 5) (by omega) (by omega) (by omega)
  rw [show 5 * k + 3 - (5 * k + 1) = 2 by omega] at hcut1
  rw [show 5 * k + 5 - (5 * k + 3) = 2 by omega] at hcut3
  have k0 : ((5 * k : Nat) : Int) < n := by omega
  have HB : Hidden (∀ W, Below w.heap.size w W → W.cell? ⟨p, off + 5 * k, none⟩ = some (bv (rHd (rawE l k)))) := ⟨fun W hW => by
    have hq := rawE_rd (hrd.below hW) k hk (by omega)
    rw [Option.map_some, Addr.add_lit] at hq
    have h0 := hq.at_ 0 (by rw [hRl]; omega)
    have hh : (rawE l k)[0]'(by omega) = rHd (rawE l k) := hd_get _ _
    rw [hh] at h0
    exact h0⟩
  have H1 : Hidden (∀ W cap, Below w.heap.size w W → Calls Tryz.prog 114 #[.slice (some ⟨p, off + (5 * k + 1), none⟩) 2 cap] W fun e w' => e = .returned (.int .i64 (rAt (rawE l k) : Int)) ∧ W = w') := ⟨fun W cap hW => by
    have h := ((rawE_rd (hrd.below hW) k hk (by omega)).cut 1 2 (by omega))
    rw [Option.map_some, Addr.add_lit, Option.map_some, Addr.add_lit, Nat.add_assoc] at h
    exact number_any _ 2 cap _ W (by simp; omega) (by omega) h⟩
  have H3 : Hidden (∀ W cap, Below w.heap.size w W → Calls Tryz.prog 114 #[.slice (some ⟨p, off + (5 * k + 3), none⟩) 2 cap] W fun e w' => e = .returned (.int .i64 (rLen (rawE l k) : Int)) ∧ W = w') := ⟨fun W cap hW => by
    have h := ((rawE_rd (hrd.below hW) k hk (by omega)).cut 3 2 (by omega))
    rw [Option.map_some, Addr.add_lit, Option.map_some, Addr.add_lit, Nat.add_assoc] at h
    exact number_any _ 2 cap _ W (by simp; omega) (by omega) h⟩
  have HR : Hidden (entR ((k : Int) + 1) (rawE l k) = .agg #[.int .i64 ((k : Int) + 1), .int .i64 (rAt (rawE l k)), .int .i64 (rLen (rawE l k)), .int .i64 (rTag (rawE l k))] ∧ rTag (rawE l k) = ((rHd (rawE l k)).toNat : Int) - 1 ∧ hasE (rawE l k) = (((rHd (rawE l k)).toNat : Int) != 0)) := ⟨rfl, rfl, (bv_bne _).symm⟩
  have hW : Below w.heap.size w (w.alloc (.cells #[.int .i64 0, .int .i64 0, .int .i64 0, .int .i64 0] 89)) := (Below.refl _ _).alloc (Nat.le_refl _) _
  have c0 := HB.out _ hW
  generalize rawE l k = r at *
  generalize 5 * k + 1 = o1 at *
  generalize 5 * k + 3 = o3 at *
  generalize 5 * k + 5 = o5 at *
  generalize 5 * k = o at *
  clear hrd hW hRl
  generalize rHd r = hd at *
  generalize (rAt r : Int) = b1 at *
  generalize (rLen r : Int) = b2 at *
  have hx := u8_lt hd
  have hw0 : IntKind.i64.wrap (hd.toNat : Int) = (hd.toNat : Int) := IntWalk.i64_in _ (by omega)
  have hw1 : IntKind.i64.wrap ((hd.toNat : Int) - 1) = (hd.toNat : Int) - 1 := IntWalk.i64_in _ (by omega)
  go_enter Tryz.func43, Tryz.ntmps43
  go_wp2_with fail
  generalize (hd.toNat : Int) - 1 = tg at *
  have hB2 : Below w.heap.size w ((w.alloc (.cells #[.int .i64 0, .int .i64 0, .int .i64 0, .int .i64 0] 89)).alloc (.cells #[.int .i64 ((k : Int) + 1), .int .i64 0, .int .i64 0, .int .i64 tg] 89)) := ((Below.refl _ _).alloc (Nat.le_refl _) _).alloc (by simp) _
  refine (H1.out _ _ hB2).mono ?_
  rintro e w1 ⟨rfl, rfl⟩
  go_wp2_with fail
  have hB3 : Below w.heap.size w ((w.alloc (.cells #[.int .i64 0, .int .i64 0, .int .i64 0, .int .i64 0] 89)).alloc (.cells #[.int .i64 ((k : Int) + 1), .int .i64 b1, .int .i64 0, .int .i64 tg] 89)) := ((Below.refl _ _).alloc (Nat.le_refl _) _).alloc (by simp) _
  refine (H3.out _ _ hB3).mono ?_
  rintro e w1 ⟨rfl, rfl⟩
  have hB4 : Below w.heap.size w ((w.alloc (.cells #[.int .i64 0, .int .i64 0, .int .i64 0, .int .i64 0] 89)).alloc (.cells #[.int .i64 ((k : Int) + 1), .int .i64 b1, .int .i64 b2, .int .i64 tg] 89)) := ((Below.refl _ _).alloc (Nat.le_refl _) _).alloc (by simp) _
  have dS : ∀ f, ((w.alloc f).alloc (.cells #[.int .i64 ((k : Int) + 1), .int .i64 b1, .int .i64 b2, .int .i64 tg] 89)).cell? ⟨p, off + o, none⟩ = some (bv hd) ∧ FourAt ((w.alloc f).alloc (.cells #[.int .i64 ((k : Int) + 1), .int .i64 b1, .int .i64 b2, .int .i64 tg] 89)) (w.heap.size + 1) ((k : Int) + 1) b1 b2 tg := fun f => ⟨HB.out _ (((Below.refl _ _).alloc (Nat.le_refl _) _).alloc (by simp) _), fourAt_new w f _ _ _ _ _⟩
  unfold FourAt at dS
  have hwp : w.cell? ⟨p, off + o, none⟩ = some (bv hd) := HB.out _ (Below.refl _ _)
  clear hB2 hB3
  go_wp2_with fail
  go_region_held3 (fun W => W.cell? ⟨p, off + o, none⟩ = some (bv hd) ∧ W.cell? ⟨w.heap.size + 1, 0, none⟩ = some (.int .i64 ((k : Int) + 1)) ∧ W.cell? ⟨w.heap.size + 1, 1, none⟩ = some (.int .i64 b1) ∧ W.cell? ⟨w.heap.size + 1, 2, none⟩ = some (.int .i64 b2) ∧ W.cell? ⟨w.heap.size + 1, 3, none⟩ = some (.int .i64 tg)) (first | exact hwp | exact dS _ | exact (dS _).1 | exact (dS _).2.1 | exact (dS _).2.2.1 | exact (dS _).2.2.2.1 | exact (dS _).2.2.2.2) (fail)
  go_wp2_with fail
  refine bodyPost_ret (v := .tuple #[.agg #[.int .i64 ((k : Int) + 1), .int .i64 b1, .int .i64 b2, .int .i64 tg], .bool ((hd.toNat : Int) != 0)]) ?_ rfl ?_
  · simp [results, Tryz.f43, go_sem]
  · refine ⟨?_, (((Below.refl _ _).alloc (Nat.le_refl _) _).alloc (by simp) _).drew⟩
    obtain ⟨h1, h2, h3⟩ := HR.out
    rw [h1, h3, h2]
end Go.Proofs.YtoieifphklodoaaGreatDoor
/- The reference on images: copied, Wipe. -/
namespace Go.Proofs.YtoieifphklodoaaGreatDoor
open Go.RowKit

set_option maxRecDepth 100000 in
theorem refCopied_ok (p off n c : Nat) (l : Bytes) (w : World) (hn : l.length = n) (h1 : 1 ≤ n) (hl : n ≤ 140737488351232) (hr : Rd w (some ⟨p, off, none⟩) l) :
    Calls Tryz.prog 139 #[.slice (some ⟨p, off, none⟩) n c] w fun e w' => ∃ g cap, e = .returned (.slice (some ⟨g, 0, none⟩) n cap) ∧ w.heap.size ≤ g ∧ n ≤ cap ∧ Row w' 5 g cap l ∧ Below w.heap.size w w' := by
  obtain ⟨i0, hi0, hz0, hz1, hz2⟩ := info_parts byte_info
  go_enter Tryz.func139, Tryz.ntmps139
  go_wp2_with (at_builtin; refine wpList_append_own _ rfl (.tmp 4) (.tmp 5) _ rfl w.heap.size 5 i0 _ 1 1 Tryz.underlying34 hi0 hz0 hz1 hz2 rfl (by decide) (.slice none 0 0) 0 [] rfl (World.ownsRow_nil _ _ _ _) ⟨p, off, none⟩ n c (l.map bv) rfl (by simp; omega) hr.cells one_bv (by simp only [maxLen]; omega) (by omega) (Nat.le_refl _) ?_; intro v1 w1 hown1 hg1 hnn1)
  have hb1 : Below w.heap.size w w1 := (Below.refl _ _).grown hg1 (Nat.le_refl _) (fun k hk => by simp [Value.ownBlock] at hk)
  have hO : Own w1 w.heap.size 5 v1 l := by unfold Own; simpa [hn] using hown1
  have hne : v1 ≠ .slice none 0 0 := fun h => by
    subst h
    rcases hO.2 with ⟨_, h0⟩ | ⟨g, cap, cur, h, _⟩
    · omega
    · cases h
  obtain ⟨g, cap, hv, hbg, hrow⟩ := Row.of_own hO hne
  rw [hn] at hv
  subst hv
  have hcap := hrow.le.1
  clear hO hne hown1 hg1 hnn1
  go_ret
  exact ⟨g, cap, rfl, hbg, by omega, hrow, hb1⟩
set_option maxRecDepth 100000 in
theorem refWipe_ok (p off n c : Nat) (l : Bytes) (a m : Nat) (w : World) (hn : l.length = n) (h1 : 1 ≤ n) (hl : n ≤ 140737488351232) (hm : a + m ≤ n) (hr : Rd w (some ⟨p, off, none⟩) l) :
    Calls Tryz.prog 84 #[.slice (some ⟨p, off, none⟩) n c, .int .i64 (a : Int), .int .i64 (m : Int)] w fun e w' => ∃ g cap, e = .returned (.slice (some ⟨g, 0, none⟩) n cap) ∧ w.heap.size ≤ g ∧ n ≤ cap ∧ Row w' 5 g cap (splice l a (List.replicate m 0)) ∧ Below w.heap.size w w' := by
  go_enter Tryz.func84, Tryz.ntmps84
  go_wp2_with fail
  refine (refCopied_ok p off n c l _ hn h1 hl hr).mono ?_
  rintro e w1 ⟨g, cap, rfl, hg, hcap, hrow, hb1⟩
  have HZ : Hidden (∀ j, j < m → splice l a ((List.replicate m 0).take j) = splice l a ((List.replicate m 0).take j) ∧ (splice l a ((List.replicate m (0 : UInt8)).take j)).set (a + j) 0 = splice l a ((List.replicate m 0).take (j + 1))) := ⟨fun j hj => ⟨rfl, by
    have := splice_take_succ l (List.replicate m 0) a j (by simpa using hj) (by simp; omega)
    simpa using this⟩⟩
  have HL : Hidden (∀ j, j ≤ m → (splice l a ((List.replicate m 0).take j)).length = n) := ⟨fun j hj => by rw [splice_len _ _ _ (by simp; omega)]; exact hn⟩
  have HF : Hidden (splice l a ((List.replicate m 0).take m) = splice l a (List.replicate m 0)) := ⟨by rw [List.take_of_length_le (by simp)]⟩
  have hrow0 : Row w1 5 g cap (splice l a ((List.replicate m 0).take 0)) := by simpa [splice] using hrow
  generalize hS : (fun j => splice l a ((List.replicate m 0).take j)) = S at *
  have hSj : ∀ j, splice l a ((List.replicate m 0).take j) = S j := fun j => by rw [← hS]
  simp only [hSj] at HZ HL HF hrow0
  clear hS hSj hrow hr
  go_wp2_with fail
  go_loopg [8] m (fun q i wr => ∃ j : Nat, j ≤ m ∧ q = m - j ∧ i = .int .i64 (j : Int) ∧ Below w.heap.size w wr ∧ Row wr 5 g cap (S j))
  case atStart => exact ⟨0, by omega, rfl, rfl, hb1, hrow0⟩
  case round =>
    obtain ⟨j, hj, rfl, rfl, hbel, hrw⟩ := hrel
    by_cases hlt : j < m
    · have hsl := HL.out j hj
      have hcell := hrw.cell (a + j) (by omega)
      have hfr := hrw.frozen (a + j)
      have hst := hrw.store (a + j) (by omega) 0
      rw [(HZ.out j hlt).2] at hst
      have hbn := hbel.setCell (p := ⟨g, a + j, none⟩) hg (bv 0)
      have hbv : bv 0 = .int .u8 0 := rfl
      rw [hbv] at hst hbn
      have q1 : IntKind.i64.wrap ((a : Int) + j) = (a : Int) + j := IntWalk.i64_in _ (by omega)
      have k0 : (0 : Int) ≤ (a : Int) + j := by omega
      have k1 : (a : Int) + j < n := by omega
      have k2 : (j : Int) < m := by omega
      generalize (S j)[a + j] = u at hcell
      clear hbv hrw hsl
      go_wp2_with fail
      go_roundg (m - (j + 1))
      case measure => omega
      case rel => exact ⟨j + 1, by omega, rfl, by go_num, hbn, hst⟩
    · obtain rfl : j = m := by omega
      go_wp2_with fail
      go_ret
      exact ⟨g, cap, rfl, hg, hcap, HF.out ▸ hrw, hbel⟩
end Go.Proofs.YtoieifphklodoaaGreatDoor
/- The reference's device in memory: what lies where; step, Fail. -/
namespace Go.Proofs.YtoieifphklodoaaGreatDoor
open Go.RowKit Go.Maps Go.ChangeMaps

/-- where it lies -/
structure RLay where
  gs : Nat
  cs : Nat
  vl : Value
  sb : Nat → Nat
  sc : Nat → Nat
  mb : Nat → Nat
  mc : Nat → Nat
section
variable {w w' : World} {F F' : Nat → Prop} {d : Nat} {D : Dv} {Y : RLay}
end
end Go.Proofs.YtoieifphklodoaaGreatDoor
/- Package view: Write where there are bytes to lay. -/
namespace Go.Proofs.YtoieifphklodoaaGreatDoor
open Go.RowKit Go.Maps Go.ChangeMaps

/-- how many numbers below 200 a set has -/
def cntS (S : Nat → Bool) : Nat := ((List.range 200).filter S).length
theorem len_eq_of_mem {a b : List Nat} (ha : a.Nodup) (hb : b.Nodup) (h : ∀ x, x ∈ a ↔ x ∈ b) : a.length = b.length :=
  List.Perm.length_eq ((List.perm_ext_iff_of_nodup ha hb).2 h)
theorem IM.cntS {P : Program} {K : TypeId} {w : World} {b cnt : Nat} {S : Nat → Bool} (h : IM P K natL w b (setF S) cnt) (hK : P.underlying K = some (.int .i64)) (hS : ∀ k, S k = true → k < 200) : cnt = cntS S := by
  obtain ⟨D, hown, hs, hnd, h1, h2⟩ := h.keys hK
  have hl : (intKeys D).length = cnt := by
    obtain ⟨L, hD, _⟩ := hown.entries (Go.Maps.int_keyed hK)
    subst hD
    rw [← hs]; simp [intKeys, Maps.size]
  have hm : ((intKeys D).map Int.toNat).Nodup := by
    refine List.pairwise_map.2 (hnd.imp_of_mem fun {a b} ha hb hne e => hne ?_)
    obtain ⟨x, rfl, _⟩ := h1 a ha
    obtain ⟨y, rfl, _⟩ := h1 b hb
    simp only [Int.toNat_natCast] at e
    rw [e]
  have hsome : ∀ k, (setF S k).isSome = true ↔ S k = true := fun k => by
    unfold setF
    by_cases hk : S k = true
    · rw [if_pos hk]; simp [hk]
    · rw [if_neg hk]; simp [hk]
  have := len_eq_of_mem hm (List.nodup_range.filter S) (fun x => by
    rw [List.mem_map, List.mem_filter, List.mem_range]
    constructor
    · rintro ⟨y, hy, rfl⟩
      obtain ⟨z, rfl, hz⟩ := h1 y hy
      rw [Int.toNat_natCast]
      exact ⟨hS z ((hsome z).1 hz), (hsome z).1 hz⟩
    · rintro ⟨-, hx⟩
      exact ⟨(x : Int), h2 x ((hsome x).2 hx), by simp⟩)
  rw [List.length_map, hl] at this
  exact this
section
variable {w : World} {G : Nat → Prop} {v p : Nat} {K N : Bytes} {S : Nat → Bool}
end
end Go.Proofs.YtoieifphklodoaaGreatDoor
/- Package view: Write of whatever, in one form. -/
namespace Go.Proofs.YtoieifphklodoaaGreatDoor
open Go.RowKit Go.Maps Go.ChangeMaps

section
variable {w : World} {G : Nat → Prop} {v p : Nat} {K N : Bytes} {S : Nat → Bool}
end
end Go.Proofs.YtoieifphklodoaaGreatDoor
/- Pages: a commit of pages that are right, while the power stays, says nothing. No program in sight. -/
namespace Go.Proofs.YtoieifphklodoaaGreatDoor
open Go.RowKit

theorem chkL_ok {n : Nat} : ∀ (m : List (Int × Bytes)) (seen : List Int), (∀ x ∈ m, 0 ≤ x.1 ∧ x.1 < n ∧ x.2.length = 32) → (m.map (·.1)).Nodup → (∀ x ∈ m, x.1 ∉ seen) → chkL n seen m = 0
  | [], _, _, _, _ => rfl
  | x :: r, seen, h, hn, hs => by
    obtain ⟨h1, h2, h3⟩ := h x List.mem_cons_self
    unfold chkL
    rw [if_neg (by omega), if_neg (by omega), if_neg (hs x List.mem_cons_self)]
    rw [List.map_cons, List.nodup_cons] at hn
    refine chkL_ok r _ (fun y hy => h y (List.mem_cons_of_mem _ hy)) hn.2 (fun y hy hm => ?_)
    rcases List.mem_append.1 hm with hm | hm
    · exact hs y (List.mem_cons_of_mem _ hy) hm
    · have := List.mem_singleton.1 hm
      exact hn.1 (this ▸ List.mem_map_of_mem hy)
theorem chkP_ok {n : Nat} {m : List (Int × Bytes)} (h : ChkOk n m) : chkP n m = 0 := by
  unfold chkP
  rw [if_neg (by have := h.len; omega)]
  exact chkL_ok m [] h.each h.nd (fun x _ hx => by cases hx)
/-- up, and of so many sectors -/
def UpN (k : Nat) (D : Dv) : Prop := Up D ∧ D.S.length = k
theorem wr_zero {k : Nat} {D : Dv} (h : UpN k D) {i : Int} {b : Bytes} (h0 : 0 ≤ i) (h1 : i < k) (hb : b.length = 32) : (wrD D i b).2 = 0 ∧ UpN k (wrD D i b).1 := by
  have hw : wrD D i b = (stepD (putD D i.toNat b), 0) := by
    unfold wrD
    rw [if_neg (by rw [h.2]; omega), if_neg (by omega), if_neg (by rw [h.1.2]; decide), if_neg (by rw [h.1.1]; decide)]
  refine ⟨by rw [hw], (wrD_stays h.1 i b).1, ?_⟩
  rw [hw]; exact h.2
theorem fl_zero {k : Nat} {D : Dv} (h : UpN k D) : (flD D).2 = 0 ∧ UpN k (flD D).1 := by
  obtain ⟨a, b⟩ := flD_stays h.1
  refine ⟨b, a, ?_⟩
  have e : flD D = (flushD (stepD D), 0) := by
    unfold flD
    rw [if_neg (by rw [h.1.2]; decide), if_neg (by rw [h.1.1]; decide)]
  rw [e]
  show ((List.range _).map _).length = k
  rw [List.length_map, List.length_range]
  exact h.2
theorem run_zero {X : Type} {f : Nat → X → Dv → Dv × Nat} {P : Dv → Prop} {Q : Nat → X → Prop} (hf : ∀ k x D, P D → Q k x → (f k x D).2 = 0 ∧ P (f k x D).1) : ∀ (l : List X) (k : Nat) (D : Dv), P D → (∀ j (hj : j < l.length), Q (k + j) l[j]) → (runE f k l D).2 = 0 ∧ P (runE f k l D).1
  | [], _, _, h, _ => ⟨rfl, h⟩
  | x :: r, k, D, h, hq => by
    rw [runE_cons]
    obtain ⟨h1, h2⟩ := hf k x D h (hq 0 (by simp))
    rw [if_pos h1]
    refine run_zero hf r (k + 1) _ h2 (fun j hj => ?_)
    have := hq (j + 1) (by simpa using hj)
    rw [show k + 1 + j = k + (j + 1) by omega]
    exact this
theorem then_zero {P : Dv → Prop} {a : Dv × Nat} {g : Dv → Dv × Nat} (h : a.2 = 0 ∧ P a.1) (hg : ∀ D, P D → (g D).2 = 0 ∧ P (g D).1) : (andThen a g).2 = 0 ∧ P (andThen a g).1 := by
  unfold andThen
  rw [if_pos h.1]
  exact hg _ h.2
theorem commit_zero {D : Dv} (h : Up D) (st n : Nat) (m : List (Int × Bytes)) (hn : n + 48 ≤ D.S.length) (hc : ChkOk n m) (hst : st < 4294967295) : (commitP st n m D).2 = 0 := by
  unfold commitP
  rw [chkP_ok hc, if_neg (by omega), if_neg (by rw [h.2]; decide)]
  by_cases hm : m.length = 0
  · rw [if_pos hm]
  · rw [if_neg hm, if_neg (by omega)]
    have hl := hc.len
    have h0 : UpN D.S.length D := ⟨h, rfl⟩
    refine (then_zero (P := UpN D.S.length) (then_zero (then_zero (then_zero (then_zero (run_zero (P := UpN D.S.length) (Q := fun (k : Nat) (x : Int × Bytes) => k < 23 ∧ x.2.length = 32) (fun k x D' hD hq => ?_) m 0 D h0 (fun j hj => ⟨by omega, (hc.each _ (List.getElem_mem hj)).2.2⟩)) (fun D' hD => fl_zero hD)) (fun D' hD => ?_)) (fun D' hD => fl_zero hD)) (fun D' hD => run_zero (P := UpN D.S.length) (Q := fun (_ : Nat) (x : Int × Bytes) => 0 ≤ x.1 ∧ x.1 < (n : Int) ∧ x.2.length = 32) (fun k x D'' hD' hq => ?_) m 0 D' hD (fun j hj => hc.each _ (List.getElem_mem hj)))) (fun D' hD => fl_zero hD)).1
    · exact wr_zero hD (by unfold areaP; omega) (by unfold areaP; omega) hq.2
    · exact wr_zero hD (by omega) (by omega) (makeB_len _ _ (by simp [numsB]; omega))
    · exact wr_zero hD' (by omega) (by omega) hq.2.2
end Go.Proofs.YtoieifphklodoaaGreatDoor
/- Package view: Read. -/
namespace Go.Proofs.YtoieifphklodoaaGreatDoor
open Go.RowKit Go.Maps Go.ChangeMaps

section
variable {w : World} {G : Nat → Prop} {v p cnt : Nat} {K N : Bytes} {f : Nat → Option Value}
end
end Go.Proofs.YtoieifphklodoaaGreatDoor
/- ViewParts: the plain law: written in parts is written at once. -/
namespace Go.Proofs.YtoieifphklodoaaGreatDoor
open Go.RowKit Go.Maps Go.ChangeMaps

section
variable {N : Bytes} {x k : Nat} {b : Bytes}
end
end Go.Proofs.YtoieifphklodoaaGreatDoor
/- Slices of the call's own, element by element. -/
namespace Go.Proofs.YtoieifphklodoaaGreatDoor
open Go.RowKit

theorem flat_at {X : Type} (f : X → List Value) (C : Nat) (hC : ∀ x, (f x).length = C) : ∀ (L : List X) (i : Nat) (h : i < L.length) (q : Nat), q < C → (L.flatMap f)[i * C + q]? = (f L[i])[q]?
  | [], i, h, _, _ => absurd h (by simp)
  | x :: r, 0, _, q, hq => by
    rw [List.flatMap_cons, Nat.zero_mul, Nat.zero_add, List.getElem?_append_left (by rw [hC]; exact hq)]; rfl
  | x :: r, i + 1, h, q, hq => by
    have hx := hC x
    rw [List.flatMap_cons, List.getElem?_append_right (by rw [hx, Nat.succ_mul]; omega), hx, show (i + 1) * C + q - C = i * C + q by rw [Nat.succ_mul]; omega]
    exact flat_at f C hC r i (by simpa using h) q hq
section
variable {X : Type} {f : X → List Value} {C : Nat} {w : World} {base : Nat} {e : TypeId} {v : Value} {A : Option Addr} {n c : Nat} {L : List X}
theorem own_at (hC : ∀ x, (f x).length = C) (h : w.ownsRow base e C (.slice A n c) n (L.flatMap f)) (k : Nat) (hk : k < L.length) (h0 : 0 < n) :
    ∃ g off, A = some ⟨g, off, none⟩ ∧ base ≤ g ∧ g < w.heap.size ∧ ∀ q u, (f L[k])[q]? = some u → w.cell? ⟨g, off + k * C + q, none⟩ = some u := by
  rcases h.2 with ⟨he, hn0⟩ | ⟨g, cap, cur, he, hb, hh, _⟩
  · omega
  · injection he with he
    subst he
    refine ⟨g, 0, rfl, hb, (Array.getElem?_eq_some_iff.1 hh).1, fun q u hq => ?_⟩
    have hqC : q < C := by rw [← hC L[k]]; exact (List.getElem?_eq_some_iff.1 hq).1
    have := h.cells (g := g) rfl (k * C + q) u (by rw [flat_at f C hC L k hk q hqC]; exact hq)
    rw [Addr.add_lit] at this
    rw [Nat.add_assoc]
    exact this
theorem own_split (h : w.ownsRow base e C v n (L.flatMap f)) : ∃ A c, v = .slice A n c ∧ n ≤ c ∧ c ≤ maxLen := by
  rcases h.2 with ⟨rfl, rfl⟩ | ⟨g, cap, cur, rfl, _, hh, hc, hm, _⟩
  · exact ⟨none, 0, rfl, Nat.le_refl _, by simp [maxLen]⟩
  · exact ⟨_, cap, rfl, hc, hm⟩
theorem own_rdX3 (hC : ∀ x, (f x).length = C) (hn : L.length = n) (h : w.ownsRow base e C (.slice A n c) n (L.flatMap f)) : RdX f C w A L := fun i hi => by
  obtain ⟨g, off, hA, _, _, hc⟩ := own_at hC h i hi (by omega)
  exact ⟨g, off, hA, hc⟩
end
end Go.Proofs.YtoieifphklodoaaGreatDoor
/- vaultsame.Ints of lists that are the same. -/
namespace Go.Proofs.YtoieifphklodoaaGreatDoor
open Go.RowKit

def ncell (i : Nat) : List Value := [.int .i64 (i : Int)]
end Go.Proofs.YtoieifphklodoaaGreatDoor
/- Package view: Cut. -/
namespace Go.Proofs.YtoieifphklodoaaGreatDoor
open Go.RowKit Go.Maps Go.ChangeMaps

theorem page_info : (Tryz.prog.info? 48).map (fun i => (i.zero, i.size, i.bytes)) = some (some (.agg #[.int .i64 0, .slice none 0 0]), 2, 32) := by kernel_rfl
/-- pages cut out of bytes -/
def cutL (N : Bytes) (L : List Nat) : List (Int × Bytes) := L.map fun i : Nat => ((i : Int), (N.drop (i * 32)).take 32)
/-- pages that are the call's own -/
structure OwnPg (w0 w : World) (v : Value) (m : Nat) (X : List PgX) (l : List (Int × Bytes)) : Prop where
  len : X.length = m
  eq : pgs X = l
  own : w.ownsRow w0.heap.size 48 2 v m (X.flatMap pcells)
  body : ∀ x ∈ X, ∃ g, x.A = some ⟨g, 0, none⟩ ∧ w0.heap.size ≤ g ∧ Row w 5 g x.cap x.body ∧ v.ownBlock ≠ some g
  bel : Below w0.heap.size w0 w
set_option maxRecDepth 100000 in
theorem cut_ok (g n c : Nat) (N : Bytes) (B : Option Addr) (m cb : Nat) (L : List Nat) (w : World) (hN : N.length = n) (hn : n ≤ 6400) (hr : Row w 5 g c N) (hm : L.length = m) (hm2 : m ≤ 200) (hL : RdX ncell 1 w B L) (hin : ∀ i ∈ L, (i + 1) * 32 ≤ n) :
    Calls Tryz.prog 115 #[.slice (some ⟨g, 0, none⟩) n c, .slice B m cb] w fun e w' => ∃ v X, e = .returned v ∧ OwnPg w w' v m X (cutL N L) := by
  obtain ⟨i0, hi0, hz0, hz1, hz2⟩ := info_parts page_info
  have HR := Hidden.mk hr
  have HL := Hidden.mk hL
  have HM := Hidden.mk hm
  have HI := Hidden.mk hin
  have HNN := Hidden.mk hN
  have hcn := hr.le.1
  clear hr hL hm hin
  rw [hN] at hcn
  clear hN
  go_enter Tryz.func115, Tryz.ntmps115
  go_wp2_with fail
  go_loopg [4, 9] m (fun r v i wr => ∃ (k : Nat) (X : List PgX), k ≤ m ∧ r = m - k ∧ i = .int .i64 (k : Int) ∧ Hidden (OwnPg w wr v k X (cutL N (L.take k))))
  case atStart => exact ⟨0, [], by omega, rfl, rfl, ⟨rfl, rfl, World.ownsRow_nil _ _ _ _, (fun x hx => by cases hx), Below.refl _ _⟩⟩
  case round =>
    obtain ⟨k, X, hk, rfl, rfl, hst⟩ := hrel
    by_cases hlt : k < m
    · have hkl : k < L.length := by rw [HM.out]; exact hlt
      have k0 : (0 : Int) ≤ k := by omega
      have k1 : (k : Int) < m := by omega
      have s0 : IntKind.i64.wrap ((k : Int) + 1) = (k : Int) + 1 := IntWalk.i64_in _ (by omega)
      obtain ⟨pb, off, rfl, hc⟩ := HL.out k hkl
      have e0 := hc 0 _ rfl
      rw [Nat.add_zero, Nat.mul_one] at e0
      have c0 := (hst.out.bel.cell (p := ⟨pb, off + k, none⟩) (block_lt_of_cell e0)).trans e0
      have hin := HI.out L[k] (List.getElem_mem hkl)
      have HTK : Hidden (cutL N (L.take (k + 1)) = cutL N (L.take k) ++ [((L[k] : Int), (N.drop (L[k] * 32)).take 32)]) := ⟨by rw [List.take_succ_eq_append_getElem hkl]; unfold cutL; rw [List.map_append]; rfl⟩
      generalize L[k] = q at *
      have s1 : IntKind.i64.wrap ((q : Int) * 32) = (q : Int) * 32 := IntWalk.i64_in _ (by omega)
      have s2 : IntKind.i64.wrap ((q : Int) + 1) = (q : Int) + 1 := IntWalk.i64_in _ (by omega)
      have s3 : IntKind.i64.wrap (((q : Int) + 1) * 32) = ((q : Int) + 1) * 32 := IntWalk.i64_in _ (by omega)
      have hcut := fun W => run_cut g 0 n c (q * 32) ((q + 1) * 32) (by omega) (by omega) (by omega) W
      rw [show (((q * 32 : Nat)) : Int) = (q : Int) * 32 by omega, show ((((q + 1) * 32 : Nat)) : Int) = ((q : Int) + 1) * 32 by omega, show (q + 1) * 32 - q * 32 = 32 by omega, Nat.zero_add] at hcut
      have hrd := (HR.out.below hst.out.bel HR.out.lt).rd.cut (q * 32) 32 (by rw [HNN.out]; omega)
      rw [Option.map_some, Addr.add_lit, Nat.zero_add] at hrd
      have hbl : ((N.drop (q * 32)).take 32).length = 32 := by simp; have := HNN.out; omega
      have HC := Hidden.mk (clone_some ⟨g, q * 32, none⟩ 32 (c - q * 32) ((N.drop (q * 32)).take 32) wr hbl (by omega) hrd)
      have HS := Hidden.mk hst.out
      have HBL := Hidden.mk hbl
      generalize (N.drop (q * 32)).take 32 = bq at *
      clear hst e0 hc hin hrd hbl
      go_wp2_with fail
      refine HC.out.mono ?_
      rintro e w1 ⟨g1, cap1, rfl, hg1, hr1, hb1⟩
      have hown1 := own_below HS.out.own hb1
      have HB1 := Hidden.mk (HS.out.bel.trans (hb1.mono HS.out.bel.size))
      have HR1 := Hidden.mk (And.intro hg1 hr1)
      have hal := (Below.refl w1.heap.size w1).alloc (Nat.le_refl _) (.cells #[.int .i64 (q : Int), .slice (some ⟨g1, 0, none⟩) 32 cap1] 48)
      have hown2 := own_below hown1 hal
      have hsz : w.heap.size ≤ w1.heap.size + 1 := by have := HB1.out.size; omega
      have HX := Hidden.mk (And.intro hb1 hal)
      have HO1 := Hidden.mk hown1
      clear hg1 hr1 hb1 hal hown1 HC
      go_wp2_with (at_builtin; refine wpList_append_lies _ rfl (.tmp 13) (.tmp 24) _ rfl w.heap.size 48 i0 _ 2 32 Tryz.underlying23 hi0 hz0 hz1 hz2 rfl (by decide) u4 k (X.flatMap pcells) rfl hown2 ⟨w1.heap.size, 0, none⟩ 1 1 [.int .i64 (q : Int), .slice (some ⟨g1, 0, none⟩) 32 cap1] rfl rfl (World.news_of_block (cs := #[.int .i64 (q : Int), .slice (some ⟨g1, 0, none⟩) 32 cap1]) (t := 48) (fr := (0, 0)) (heap_alloc_new w1 _)) (by simp [Value.oneCell']) (by omega) (by simp only [maxLen]; omega) (by omega) (by simp; exact hsz) (w1.heap.size + 1) (by simp) ?_; intro g8 cap8 w8 hown8 hg8 hat8 hlt8)
      have HN : Hidden (OwnPg w w8 (.slice (some ⟨g8, 0, none⟩) (k + 1) cap8) (k + 1) (X ++ [⟨(q : Int), some ⟨g1, 0, none⟩, cap1, bq⟩]) (cutL N (L.take (k + 1)))) := ⟨by
        obtain ⟨hb1, hal⟩ := HX.out
        obtain ⟨hg1, hr1⟩ := HR1.out
        have hold : ∀ p, u4.ownBlock = some p → p < wr.heap.size := fun p hp => (HS.out.own.lt p hp).2
        have hne1 : u4.ownBlock ≠ some g1 := fun e => by have := hold _ e; omega
        have h8 : g8 < w1.heap.size → u4.ownBlock = some g8 := fun h => by
          rcases hat8 with h' | h'
          · exact h'
          · omega
        refine ⟨by rw [List.length_append, HS.out.len]; rfl, ?_, ?_, fun x hx => ?_, ?_⟩
        · rw [HTK.out, ← HS.out.eq]; unfold pgs; rw [List.map_append]; rfl
        · rw [List.flatMap_append]
          have : (([⟨(q : Int), some ⟨g1, 0, none⟩, cap1, bq⟩] : List PgX)).flatMap pcells = [.int .i64 (q : Int), .slice (some ⟨g1, 0, none⟩) 32 cap1] := by
            simp [pcells, HBL.out]
          rw [this]; exact hown8
        · rcases List.mem_append.1 hx with hx | hx
          · obtain ⟨g', e1, e2, e3, e4⟩ := HS.out.body x hx
            have l3 := e3.lt
            refine ⟨g', e1, e2, (((e3.below hb1 l3).below hal (Nat.lt_of_lt_of_le l3 hb1.size)).grown hg8 e4), fun e => ?_⟩
            obtain rfl : g8 = g' := by simpa [Value.ownBlock] using e
            have := hb1.size
            exact e4 (h8 (by omega))
          · obtain rfl := List.mem_singleton.1 hx
            refine ⟨g1, rfl, Nat.le_trans HS.out.bel.size hg1, (hr1.below hal hr1.lt).grown hg8 hne1, fun e => ?_⟩
            obtain rfl : g8 = g1 := by simpa [Value.ownBlock] using e
            exact hne1 (h8 hr1.lt)
        · refine (HB1.out.trans (hal.mono HB1.out.size)).grown hg8 (Nat.le_trans HB1.out.size hal.size) (fun p hp => (HS.out.own.lt p hp).1)⟩
      clear hown2 hsz hown8 hg8 hat8 hlt8 HX HO1 HS HR1 HB1
      go_roundg (m - (k + 1))
      case measure => omega
      case rel => exact ⟨k + 1, _, by omega, rfl, by go_num, HN⟩
    · obtain rfl : k = m := by omega
      have t5 : decide ((k : Int) < k) = false := by simp
      have HS := Hidden.mk hst.out
      clear hst
      go_wp2_with fail
      go_ret
      exact ⟨_, X, rfl, by have := HS.out; rwa [List.take_of_length_le (by rw [HM.out]; exact Nat.le_refl _)] at this⟩
end Go.Proofs.YtoieifphklodoaaGreatDoor
/- Package view: Abort. -/
namespace Go.Proofs.YtoieifphklodoaaGreatDoor
open Go.RowKit Go.Maps Go.ChangeMaps

section
variable {w : World} {G : Nat → Prop} {v p cnt : Nat} {K N : Bytes} {f : Nat → Option Value}
end
end Go.Proofs.YtoieifphklodoaaGreatDoor
/- Package view: Commit. -/
namespace Go.Proofs.YtoieifphklodoaaGreatDoor
open Go.RowKit Go.Maps Go.ChangeMaps

section
variable {w0 w : World} {F G : Nat → Prop} {v p d st n : Nat} {D : Dv} {K N : Bytes} {S : Nat → Bool}
theorem setF_some {S : Nat → Bool} {k : Nat} : (setF S k).isSome = true ↔ S k = true := by
  unfold setF
  by_cases hk : S k = true
  · rw [if_pos hk]; simp [hk]
  · rw [if_neg hk]; simp [hk]
theorem OwnPg.pgsR {w1 w2 : World} {A : Option Addr} {m c : Nat} {X : List PgX} {l : List (Int × Bytes)} (h : OwnPg w1 w2 (.slice A m c) m X l) (hF : ∀ q, F q → q < w1.heap.size) : PgsR w2 F A X where
  rd := own_rdX3 (f := pcells) (fun _ => rfl) h.len h.own
  na := fun hl ad e hf => by
    obtain ⟨g, off, hA, hb, -⟩ := own_at (f := pcells) (fun _ => rfl) h.own 0 hl (by have := h.len; omega)
    rw [e] at hA
    obtain rfl := Option.some.inj hA
    have := hF _ hf
    dsimp only at this
    omega
  body := fun x hx => by
    obtain ⟨g, e, hb, hr, -⟩ := h.body x hx
    rw [e]; exact hr.rd
  nb := fun x hx _ ad e hf => by
    obtain ⟨g, e', hb, hr, -⟩ := h.body x hx
    rw [e] at e'
    obtain rfl := Option.some.inj e'
    have := hF _ hf
    dsimp only at this
    omega
end
end Go.Proofs.YtoieifphklodoaaGreatDoor
/- ViewBack: the plain law: pages of bytes, written, committed, opened. No program in sight. -/
namespace Go.Proofs.YtoieifphklodoaaGreatDoor
open Go.RowKit Go.Maps Go.ChangeMaps

/-- a page of bytes -/
def pgB (N : Bytes) (k : Nat) : Bytes := (N.drop (k * 32)).take 32
theorem pgB_at {N : Bytes} {k j : Nat} (hj : j < 32) : (pgB N k)[j]? = N[k * 32 + j]? := by
  unfold pgB
  rw [List.getElem?_take, if_pos hj, List.getElem?_drop]
theorem pgB_len {N : Bytes} {n k : Nat} (h : N.length = 32 * n) (hk : k < n) : (pgB N k).length = 32 := by
  unfold pgB
  simp
  omega
theorem pgB_ext {a b : Bytes} {k : Nat} (h : ∀ j, j < 32 → a[k * 32 + j]? = b[k * 32 + j]?) : pgB a k = pgB b k := by
  apply List.ext_getElem?
  intro j
  by_cases hj : j < 32
  · rw [pgB_at hj, pgB_at hj, h j hj]
  · unfold pgB
    rw [List.getElem?_take, List.getElem?_take, if_neg hj, if_neg hj]
theorem eq_of_pages {a b : Bytes} {n : Nat} (ha : a.length = 32 * n) (hb : b.length = 32 * n) (h : ∀ k, k < n → pgB a k = pgB b k) : a = b := by
  apply List.ext_getElem?
  intro i
  by_cases hi : i < 32 * n
  · have h1 := congrArg (fun l => l[i % 32]?) (h (i / 32) (by omega))
    rw [pgB_at (by omega), pgB_at (by omega), show i / 32 * 32 + i % 32 = i by omega] at h1
    exact h1
  · rw [List.getElem?_eq_none (by omega), List.getElem?_eq_none (by omega)]
theorem allB_page {D : Dv} : ∀ (n k : Nat), (∀ i, i < n → (readD D (48 + i)).length = 32) → k < n → pgB (allB D n) k = readD D (48 + k)
  | 0, k, _, hk => by omega
  | n + 1, k, h, hk => by
    have hl := allB_len (D := D) n (fun i hi => h i (by omega))
    rw [allB_succ]
    by_cases hkn : k < n
    · rw [← allB_page n k (fun i hi => h i (by omega)) hkn]
      refine pgB_ext fun j hj => ?_
      rw [List.getElem?_append_left (by omega)]
    · obtain rfl : k = n := by omega
      have h32 := h k (by omega)
      unfold pgB
      rw [List.drop_append, List.drop_eq_nil_of_le (by omega), List.nil_append, hl, show k * 32 - 32 * k = 0 by omega, List.drop_zero, List.take_of_length_le (by omega)]
theorem keysS_cnt {S : Nat → Bool} {L : List Nat} (hk : KeysOf (setF S) L) (hS : ∀ k, S k = true → k < 200) : L.length = cntS S := by
  unfold cntS
  refine len_eq_of_mem (hk.up.imp (fun h => Nat.ne_of_lt h)) (List.nodup_range.filter S) fun x => ?_
  rw [hk.mem, setF_some, List.mem_filter, List.mem_range]
  exact ⟨fun h => ⟨hS x h, h⟩, fun h => h.2⟩
theorem cutL_ok {N : Bytes} {n : Nat} {L : List Nat} (hN : N.length = 32 * n) (hL : ∀ i ∈ L, i < n) (hn : L.Nodup) (hc : L.length ≤ 23) : ChkOk n (cutL N L) where
  len := by unfold cutL; rw [List.length_map]; exact hc
  each := fun x hx => by
    obtain ⟨i, hi, rfl⟩ := List.mem_map.1 hx
    have := hL i hi
    refine ⟨by simp, by simp; omega, pgB_len hN this⟩
  nd := by
    unfold cutL
    rw [List.map_map]
    refine List.pairwise_map.2 (hn.imp fun {a b} hab e => hab ?_)
    simp only [Function.comp] at e
    omega
theorem fold_cut {N : Bytes} {k : Nat} : ∀ (L : List Nat) (d : Bytes), (cutL N L).foldl (fun d x => if x.1 = (k : Int) then x.2 else d) d = if k ∈ L then pgB N k else d
  | [], d => by simp [cutL]
  | i :: r, d => by
    show (cutL N r).foldl _ (if (i : Int) = (k : Int) then (N.drop (i * 32)).take 32 else d) = _
    rw [fold_cut r]
    by_cases hr : k ∈ r
    · rw [if_pos hr, if_pos (List.mem_cons_of_mem _ hr)]
    · rw [if_neg hr]
      by_cases hik : i = k
      · subst hik
        rw [if_pos rfl, if_pos List.mem_cons_self]
        rfl
      · rw [if_neg (by omega), if_neg (fun h => (List.mem_cons.1 h).elim (fun e => hik e.symm) hr)]
theorem updPg_cut {N : Bytes} {pg : Nat → Bytes} {L : List Nat} (k : Nat) : updPg pg (cutL N L) k = if k ∈ L then pgB N k else pg k := fold_cut L (pg k)
/-- what a commit of the dirty pages makes -/
theorem commit_view {nn n st : Nat} {D : Dv} {pg : Nat → Bytes} {N K : Bytes} {S : Nat → Bool} {L : List Nat} (h : SfP nn n D st pg) (hst : st < 4294967295) (hn1 : 1 ≤ n) (hN : N.length = 32 * n) (hK : K = allB D n) (hag : ∀ k, k < n → S k = false → pgB N k = pgB K k) (hS : ∀ k, S k = true → k < n) (hc : cntS S ≤ 23) (hk : KeysOf (setF S) L) (hn2 : n ≤ 200) :
    (commitP st n (cutL N L) D).2 = 0 ∧ (∃ pg', SfP nn n (commitP st n (cutL N L) D).1 (if L.length ≠ 0 then st + 1 else st) pg') ∧ allB (commitP st n (cutL N L) D).1 n = N := by
  have hlen : L.length ≤ 23 := by rw [keysS_cnt hk (fun k h => by have := hS k h; omega)]; exact hc
  have hLn : ∀ i ∈ L, i < n := fun i hi => hS i (setF_some.1 ((hk.mem i).1 hi))
  have hok := cutL_ok hN hLn (hk.up.imp (fun h => Nat.ne_of_lt h)) hlen
  have hn0 := h.n0
  have hz := commit_zero h.up st n (cutL N L) (by have := h.len; unfold nP at hn0; omega) hok hst
  obtain ⟨h2, -⟩ := h.commit2 (cutL N L)
  have hcl : (cutL N L).length = L.length := by unfold cutL; rw [List.length_map]
  rw [if_pos hz, hcl] at h2
  have e : (if (commitP st n (cutL N L) D).2 = 0 ∧ L.length ≠ 0 then st + 1 else st) = if L.length ≠ 0 then st + 1 else st := by
    by_cases h : L.length ≠ 0
    · rw [if_pos ⟨hz, h⟩, if_pos h]
    · rw [if_neg (fun x => h x.2), if_neg h]
  rw [e] at h2
  have hp : ∀ i, i < n → (readD (commitP st n (cutL N L) D).1 (48 + i)).length = 32 := fun i hi => by
    rw [(h2.page i hi).1]; exact (h2.page i hi).2
  refine ⟨hz, ⟨_, h2⟩, eq_of_pages (allB_len n hp) hN fun k hk' => ?_⟩
  rw [allB_page n k hp hk', (h2.page k hk').1, updPg_cut]
  by_cases hkL : k ∈ L
  · rw [if_pos hkL]
  · rw [if_neg hkL]
    have hSk : S k = false := by
      cases hs : S k with
      | false => rfl
      | true => exact absurd ((hk.mem k).2 (setF_some.2 hs)) hkL
    rw [hag k hk' hSk, hK, allB_page n k (fun i hi => by rw [(h.page i hi).1]; exact (h.page i hi).2) hk', (h.page k hk').1]
end Go.Proofs.YtoieifphklodoaaGreatDoor
/- ViewBack: what the law keeps at hand. -/
namespace Go.Proofs.YtoieifphklodoaaGreatDoor
open Go.RowKit Go.Maps Go.ChangeMaps

section
variable {w0 w w' : World} {F F' G G' : Nat → Prop} {d p v gx cx gy cy nn n st : Nat} {D : Dv} {M R N K : Bytes} {S : Nat → Bool}
/-- opened again -/
theorem opened_view {nn n st : Nat} {D : Dv} (h : ∃ pg, SfP nn n D st pg) : (openP D).2 = 0 ∧ (∃ pg, SfP nn n (openP D).1 st pg) ∧ (openMk D).1 = st ∧ allB (openP D).1 n = allB D n ∧ (allB D n).length = 32 * n ∧ (openP D).1.down = false ∧ ∀ i, i < n → (readD (openP D).1 (48 + i)).length = 32 := by
  obtain ⟨pg, h⟩ := h
  obtain ⟨l, hl⟩ := h.full
  obtain ⟨a, b, _, c, e, f⟩ := open_up hl.hold h.wf h.up
  have h2 : SfP nn n (openP D).1 st pg := ⟨⟨l, b⟩, e, c, f.trans h.len, by rw [show nP (openP D).1 = nP D from by unfold nP; rw [f]]; exact h.n0⟩
  have p1 : ∀ i, i < n → (readD D (48 + i)).length = 32 := fun i hi => by rw [(h.page i hi).1]; exact (h.page i hi).2
  have p2 : ∀ i, i < n → (readD (openP D).1 (48 + i)).length = 32 := fun i hi => by rw [(h2.page i hi).1]; exact (h2.page i hi).2
  refine ⟨a, ⟨pg, h2⟩, by rw [hl.hold.opened], ?_, allB_len n p1, c.2, p2⟩
  refine eq_of_pages (allB_len n p2) (allB_len n p1) fun k hk => ?_
  rw [allB_page n k p2 hk, allB_page n k p1 hk, (h2.page k hk).1, (h.page k hk).1]
end
end Go.Proofs.YtoieifphklodoaaGreatDoor
/- PutRoot at any arguments, and what the difference to the empty image is. -/
namespace Go.Proofs.YtoieifphklodoaaGreatDoor
open Go.RowKit

end Go.Proofs.YtoieifphklodoaaGreatDoor
/- The reference on images: Entries, Roots. -/
namespace Go.Proofs.YtoieifphklodoaaGreatDoor
open Go.RowKit

set_option maxRecDepth 100000 in
theorem refEntries_ok (A : Option Addr) (n c : Nat) (l : Bytes) (w : World) (hn : l.length = n) (hr : rightB n = true) (hnc : n ≤ c) (hrd : Rd w A l) :
    Calls Tryz.prog 53 #[.slice A n c] w fun e w' => ∃ v, e = .returned v ∧ w'.ownsRow w.heap.size 89 4 v (entriesL l).length ((entriesL l).flatMap ecells) ∧ Below w.heap.size w w' := by
  have hnb := rightB_true.1 hr
  obtain ⟨i2, hi2, hx0, hx1, hx2⟩ := info_parts entry_info
  have HF : Hidden (∀ k : Nat, k < 40 → ∀ W, Below w.heap.size w W → Calls Tryz.prog 43 #[.slice A n c, .int .i64 ((k : Int) + 1)] W fun e w' => e = .returned (.tuple #[entV ((k : Int) + 1) (rAt (rawE l k)) (rLen (rawE l k)) (rTag (rawE l k)), .bool (hasE (rawE l k))]) ∧ Below W.heap.size W w') :=
    ⟨fun k hk W hW => refEntry_ok A n c l k W hn (by omega) hnc (hrd.below hW) hk⟩
  have HL : Hidden (entriesL l = entsL (fun k => hasE (rawE l k)) (rawE l) 40) := ⟨rfl⟩
  generalize rawE l = R at *
  clear hrd hn
  go_enter Tryz.func53, Tryz.ntmps53
  go_wp2_with fail
  go_loopg [3, 4] 40 (fun m v h wr => ∃ k : Nat, k ≤ 40 ∧ m = 40 - k ∧ h = .int .i64 ((k : Int) + 1) ∧ Below w.heap.size w wr ∧ wr.ownsRow w.heap.size 89 4 v (entsL (fun k => hasE (R k)) R k).length ((entsL (fun k => hasE (R k)) R k).flatMap ecells))
  case atStart => exact ⟨0, by omega, rfl, rfl, Below.refl _ _, World.ownsRow_nil _ _ _ _⟩
  case round =>
    obtain ⟨k, hk, rfl, rfl, hbel, hown⟩ := hrel
    by_cases hlt : k < 40
    · have k0 : ((k : Int) + 1) ≤ 40 := by omega
      have s1 : IntKind.i64.wrap ((k : Int) + 1 + 1) = (k : Int) + 1 + 1 := IntWalk.i64_in _ (by omega)
      have hll := entsL_len (fun k => hasE (R k)) R k
      have HS := Hidden.mk (entsL_succ (fun k => hasE (R k)) R k)
      have HG := Hidden.mk (HF.out k hlt wr hbel)
      have HC : Hidden (ecells (((k : Int) + 1), R k) = [.int .i64 ((k : Int) + 1), .int .i64 (rAt (R k)), .int .i64 (rLen (R k)), .int .i64 (rTag (R k))]) := ⟨rfl⟩
      generalize entsL (fun k => hasE (R k)) R k = L at *
      go_wp2_with fail
      refine HG.out.mono ?_
      rintro e w1 ⟨rfl, hb1⟩
      generalize (rAt (R k) : Int) = a1 at *
      generalize (rLen (R k) : Int) = a2 at *
      generalize rTag (R k) = a3 at *
      have hB1 := hbel.trans (hb1.mono hbel.size)
      have hown1 := own_below hown hb1
      have hal : Below w1.heap.size w1 (w1.alloc (.cells #[.int .i64 ((k : Int) + 1), .int .i64 a1, .int .i64 a2, .int .i64 a3] 89)) := (Below.refl _ _).alloc (Nat.le_refl _) _
      have hB2 : Below w.heap.size w (w1.alloc (.cells #[.int .i64 ((k : Int) + 1), .int .i64 a1, .int .i64 a2, .int .i64 a3] 89)) := hB1.alloc hB1.size _
      have hown2 := own_below hown1 hal
      have hbx : (w1.alloc (.cells #[.int .i64 ((k : Int) + 1), .int .i64 a1, .int .i64 a2, .int .i64 a3] 89)).heap[w1.heap.size]? = some (.cells #[.int .i64 ((k : Int) + 1), .int .i64 a1, .int .i64 a2, .int .i64 a3] 89 (0, 0)) := heap_alloc_new w1 _
      clear hal hown hown1 hbel hB1 hb1
      cases hE : hasE (R k) with
      | false =>
        rw [hE] at HS
        go_wp2_with fail
        generalize w1.alloc (.cells #[.int .i64 ((k : Int) + 1), .int .i64 a1, .int .i64 a2, .int .i64 a3] 89) = w2 at *
        go_roundg (40 - (k + 1))
        case measure => omega
        case rel => exact ⟨k + 1, by omega, rfl, by go_num, hB2, by rw [HS.out]; simpa using hown2⟩
      | true =>
        rw [hE] at HS
        clear hE hbx
        have hnb : ((w1.alloc (.cells #[.int .i64 ((k : Int) + 1), .int .i64 a1, .int .i64 a2, .int .i64 a3] 89)).alloc (.cells #[.int .i64 ((k : Int) + 1), .int .i64 a1, .int .i64 a2, .int .i64 a3] 89)).heap[w1.heap.size + 1]? = some (.cells #[.int .i64 ((k : Int) + 1), .int .i64 a1, .int .i64 a2, .int .i64 a3] 89) := by
          have := heap_alloc_new (w1.alloc (.cells #[.int .i64 ((k : Int) + 1), .int .i64 a1, .int .i64 a2, .int .i64 a3] 89)) (.cells #[.int .i64 ((k : Int) + 1), .int .i64 a1, .int .i64 a2, .int .i64 a3] 89)
          rwa [World.size_alloc] at this
        have HNB := Hidden.mk hnb
        have HOW := Hidden.mk hown2
        have HBB := Hidden.mk hB2
        clear hnb hown2 hB2
        go_wp2_with (at_builtin; refine wpList_append_lies _ rfl (.tmp 18) (.tmp 20) _ rfl w.heap.size 89 i2 _ 4 32 Tryz.underlying100 hi2 hx0 hx1 hx2 rfl (by decide) u3 L.length (L.flatMap ecells) rfl (own_below HOW.out ((Below.refl _ _).alloc (Nat.le_refl _) _)) ⟨w1.heap.size + 1, 0, none⟩ 1 1 [.int .i64 ((k : Int) + 1), .int .i64 a1, .int .i64 a2, .int .i64 a3] rfl rfl (World.news_of_block (cs := #[.int .i64 ((k : Int) + 1), .int .i64 a1, .int .i64 a2, .int .i64 a3]) (t := 89) (fr := (0, 0)) HNB.out) (by simp [Value.oneCell']) (by omega) (by simp only [maxLen]; omega) (by omega) (by have := HBB.out.size; simp at this ⊢; omega) (w1.heap.size + 2) (by simp) ?_; intro g8 cap8 w8 hown8 hg8 hat8 hlt8)
        have hown2 := HOW.out
        have hB2 := HBB.out
        have hgW := grown_trans' ((Below.refl _ _).alloc (Nat.le_refl _) _) hg8
        have hB8 : Below w.heap.size w w8 := hB2.grown hgW hB2.size (fun q hq => (hown2.lt q hq).1)
        clear hown2 hB2 hg8 hgW hat8 hlt8
        go_roundg (40 - (k + 1))
        case measure => omega
        case rel => exact ⟨k + 1, by omega, rfl, by go_num, hB8, by rw [HS.out]; simpa [HC.out] using hown8⟩
    · obtain rfl : k = 40 := by omega
      go_wp2_with fail
      go_ret
      exact ⟨_, rfl, by rw [HL.out]; exact hown, hbel⟩

set_option maxRecDepth 100000 in
theorem refRoots_ok (pb ob n c : Nat) (l : Bytes) (w : World) (hn : l.length = n) (hr : rightB n = true) (hnc : n ≤ c) (hrd : Rd w (some ⟨pb, ob, none⟩) l) :
    Calls Tryz.prog 55 #[.slice (some ⟨pb, ob, none⟩) n c] w fun e w' => ∃ v, e = .returned v ∧ w'.ownsRow w.heap.size 150 2 v (rootsL l).length ((rootsL l).flatMap rcells) ∧ Below w.heap.size w w' := by
  have hnb := rightB_true.1 hr
  obtain ⟨i2, hi2, hx0, hx1, hx2⟩ := info_parts root_info
  have HRAW : Hidden (∀ k : Nat, k < 8 → ∀ W, Below w.heap.size w W → Rd W (some ⟨pb, ob + (200 + 11 * k), none⟩) (rawR l k)) := ⟨fun k hk W hW => by
    have := rawR_rd (hrd.below hW) k hk (by omega)
    rwa [Option.map_some, Addr.add_lit] at this⟩
  have HLEN : Hidden (∀ k : Nat, k < 8 → (rawR l k).length = 11) := ⟨fun k hk => rawR_len l k hk (by omega)⟩
  have HL : Hidden (rootsL l = rootsF (rawR l) 8) := ⟨rfl⟩
  generalize rawR l = S at *
  clear hrd hn
  go_enter Tryz.func55, Tryz.ntmps55
  go_wp2_with fail
  go_loopg [3, 4] 8 (fun m v i wr => ∃ k : Nat, k ≤ 8 ∧ m = 8 - k ∧ i = .int .i64 (k : Int) ∧ Below w.heap.size w wr ∧ wr.ownsRow w.heap.size 150 2 v (rootsF S k).length ((rootsF S k).flatMap rcells))
  case atStart => exact ⟨0, by omega, rfl, rfl, Below.refl _ _, World.ownsRow_nil _ _ _ _⟩
  case round =>
    obtain ⟨k, hk, rfl, rfl, hbel, hown⟩ := hrel
    by_cases hlt : k < 8
    · have k0 : (k : Int) < 8 := by omega
      have s1 : IntKind.i64.wrap ((k : Int) + 1) = (k : Int) + 1 := IntWalk.i64_in _ (by omega)
      have hll := rootsF_len S k
      have HS := Hidden.mk (rootsF_succ S k)
      have hrw := HRAW.out k hlt wr hbel
      have hlen := HLEN.out k hlt
      obtain ⟨p, off, hA, hpl⟩ := hrw.lt (by omega)
      injection hA with hA
      injection hA with hp1 ho1
      subst hp1
      have HA := Hidden.mk ho1
      rw [ho1] at hrw
      have q10 := hrw.at_ 10 (by omega)
      have g10 : (S k).getD 10 0 = (S k)[10]'(by omega) := by simp [hlen]
      have HP : Hidden (rootP (S k) = (if gotName ((S k).take 8) = true then nmR (S k) else [], ((S k)[10]'(by omega)).toNat)) := ⟨by unfold rootP; rw [g10]⟩
      have HLK := Hidden.mk hlen
      generalize (S k)[10]'(by omega) = x10 at *
      generalize rootsF S k = L at *
      have w10 : IntKind.i64.wrap (x10.toNat : Int) = (x10.toNat : Int) := IntWalk.i64_in _ (by have := u8_lt x10; omega)
      generalize hcc : c - (200 + 11 * k) = cc at *
      have hc8 : 8 ≤ cc := by omega
      have HCC := Hidden.mk hcc
      clear ho1 g10 hcc hlen
      go_wp2_with fail
      refine (refRootAt_ok pb ob n c k _ hlt (by omega) hnc).mono ?_
      rintro e w1 ⟨rfl, rfl⟩
      rw [HA.out, HCC.out]
      go_wp2_with fail
      refine (refZero_any _ 11 _ (S k) _ HLK.out (by omega) hrw).mono ?_
      rintro e w1 ⟨rfl, rfl⟩
      cases hz : zeroE (S k) with
      | true =>
        rw [hz] at HS
        clear hz q10
        go_wp2_with fail
        go_roundg (8 - (k + 1))
        case measure => omega
        case rel => exact ⟨k + 1, by omega, rfl, by go_num, hbel, by rw [HS.out]; simpa using hown⟩
      | false =>
        rw [hz] at HS
        clear hz
        go_wp2_with fail
        refine (refReadName_any (some ⟨pb, off, none⟩) cc ((S k).take 8) _ (by simp [HLK.out]) hc8 (hrw.take 8 (by rw [HLK.out]; omega))).mono ?_
        rintro e w3 ⟨he, rfl⟩
        have hb3 := Below.refl wr.heap.size wr
        have hB3 := hbel.trans (hb3.mono hbel.size)
        have hown3 := own_below hown hb3
        have z10 := (hb3.cell (p := ⟨pb, off + 10, none⟩) hpl).trans q10
        clear hb3 hbel hown q10 hpl hrw
        cases hg : gotName ((S k).take 8)
        all_goals
          rw [hg] at he HP
          first | simp only [Bool.false_eq_true, if_false] at he | simp only [if_true] at he
          subst he
          have HG := Hidden.mk hg
          clear hg
        case false =>
          go_wp2_with (at_builtin; refine wpList_append_lies _ rfl (.tmp 25) (.tmp 32) _ rfl w.heap.size 150 i2 _ 2 24 Tryz.underlying101 hi2 hx0 hx1 hx2 rfl (by decide) u3 L.length (L.flatMap rcells) rfl (own_below hown3 ((Below.refl _ _).alloc (Nat.le_refl _) _)) ⟨wr.heap.size, 0, none⟩ 1 1 [sv [], .int .i64 x10.toNat] rfl rfl (World.news_of_block (cs := #[sv [], .int .i64 x10.toNat]) (t := 150) (fr := (0, 0)) (heap_alloc_new wr _)) (by simp [Value.oneCell']) (by omega) (by simp only [maxLen]; omega) (by omega) (by have := hB3.size; simp; omega) (wr.heap.size + 1) (by simp) ?_; intro g8 cap8 w8 hown8 hg8 hat8 hlt8)
          have hgW := grown_trans' ((Below.refl _ _).alloc (Nat.le_refl _) _) hg8
          have hB8 : Below w.heap.size w w8 := hB3.grown hgW hB3.size (fun q hq => (hown3.lt q hq).1)
          have hpp := HP.out
          simp only [Bool.false_eq_true, if_false] at hpp
          have HPP := Hidden.mk hpp
          clear hown3 hB3 hg8 hgW hat8 hlt8 hpp
          go_roundg (8 - (k + 1))
          case measure => omega
          case rel => exact ⟨k + 1, by omega, rfl, by go_num, hB8, by rw [HS.out, HPP.out]; simpa [rcells] using hown8⟩
        case true =>
          have hpp := HP.out
          simp only [if_true] at hpp
          have HPP := Hidden.mk hpp
          have HNM : Hidden (nmR (S k) = nameAt ((S k).take 8)) := ⟨rfl⟩
          generalize nameAt ((S k).take 8) = nm at *
          clear hpp
          go_wp2_with (at_builtin; refine wpList_append_lies _ rfl (.tmp 25) (.tmp 32) _ rfl w.heap.size 150 i2 _ 2 24 Tryz.underlying101 hi2 hx0 hx1 hx2 rfl (by decide) u3 L.length (L.flatMap rcells) rfl (own_below hown3 ((Below.refl _ _).alloc (Nat.le_refl _) _)) ⟨wr.heap.size, 0, none⟩ 1 1 [sv nm, .int .i64 x10.toNat] rfl rfl (World.news_of_block (cs := #[sv nm, .int .i64 x10.toNat]) (t := 150) (fr := (0, 0)) (heap_alloc_new wr _)) (by simp [Value.oneCell']) (by omega) (by simp only [maxLen]; omega) (by omega) (by have := hB3.size; simp; omega) (wr.heap.size + 1) (by simp) ?_; intro g8 cap8 w8 hown8 hg8 hat8 hlt8)
          have hgW := grown_trans' ((Below.refl _ _).alloc (Nat.le_refl _) _) hg8
          have hB8 : Below w.heap.size w w8 := hB3.grown hgW hB3.size (fun q hq => (hown3.lt q hq).1)
          clear hown3 hB3 hg8 hgW hat8 hlt8
          go_roundg (8 - (k + 1))
          case measure => omega
          case rel => exact ⟨k + 1, by omega, rfl, by go_num, hB8, by rw [HS.out, HPP.out, HNM.out]; simpa [rcells] using hown8⟩
    · obtain rfl : k = 8 := by omega
      go_wp2_with fail
      go_ret
      exact ⟨_, rfl, by rw [HL.out]; exact hown, hbel⟩

end Go.Proofs.YtoieifphklodoaaGreatDoor
/- The reference on images: PutEntry. -/
namespace Go.Proofs.YtoieifphklodoaaGreatDoor
open Go.RowKit

theorem putEnt_three (l : Bytes) (k t b m : Nat) (h : 5 * k + 5 ≤ l.length) (ht : t ≤ 15) : putEnt l ((k : Int) + 1) (b : Int) (m : Int) (t : Int) = splice (splice (splice l (5 * k) (numB (t + 1) 1)) (5 * k + 1) (numB b 2)) (5 * k + 3) (numB m 2) := by
  have e1 := splice_join l (numB (t + 1) 1) (numB b 2) (5 * k) (by rw [numB_length, numB_length]; omega)
  have e2 := splice_join l (numB (t + 1) 1 ++ numB b 2) (numB m 2) (5 * k) (by rw [List.length_append, numB_length, numB_length, numB_length]; omega)
  rw [List.length_append, numB_length, numB_length] at e2
  rw [numB_length] at e1
  rw [e1, show 5 * k + 3 = 5 * k + (1 + 2) by omega, e2]
  unfold putEnt entB
  rw [entO_k]
  have hm : numB (t + 1) 1 = [UInt8.ofNat (t + 1)] := by
    show [UInt8.ofNat ((t + 1) % 256)] = _
    rw [Nat.mod_eq_of_lt (by omega)]
  rw [hm]
  rfl
end Go.Proofs.YtoieifphklodoaaGreatDoor
/- The contract of check.handles: the walk. -/
namespace Go.Proofs.YtoieifphklodoaaGreatDoor
open Go.RowKit

set_option maxRecDepth 100000 in
set_option maxHeartbeats 1000000 in
theorem handles_ok (A : Option Addr) (n c : Nat) (l : Bytes) (w : World) (hn : l.length = n) (hr : rightB n = true) (hnc : n ≤ c) (hrd : Rd w A l) :
    Calls Tryz.prog 75 #[.slice A n c] w fun e w' => ∃ vf vr vw, e = .returned (.tuple #[vf, vr]) ∧ HSt w' w.heap.size vf vr vw (faultsH n (rawE l) 40) (rightL n (rawE l) 40) (wholeL n (rawE l) 40) ∧ Below w.heap.size w w' := by
  have hnb := rightB_true.1 hr
  obtain ⟨i1, hi1, hy0, hy1, hy2⟩ := info_parts fault_info
  obtain ⟨i2, hi2, hx0, hx1, hx2⟩ := info_parts entry_info
  have HGET : Hidden (∀ k : Nat, k < 40 → ∀ W, Below w.heap.size w W → Calls Tryz.prog 87 #[.slice A n c, .int .i64 ((k : Int) + 1)] W fun e w' => (hasE (rawE l k) = true → e = .returned (.tuple #[entR ((k : Int) + 1) (rawE l k), .nilIface])) ∧ (hasE (rawE l k) = false → e = .returned (.tuple #[entV 0 0 0 0, .iface 110 (.int .i64 5)])) ∧ Below W.heap.size W w') :=
    ⟨fun k hk W hW => iget_ok A n c l k W hn hr hnc (hrd.below hW) hk⟩
  have HRAW : Hidden (∀ k : Nat, k < 40 → ∀ W, Below w.heap.size w W → Rd W (A.map (·.add (5 * k))) (rawE l k)) := ⟨fun k hk W hW => rawE_rd (hrd.below hW) k hk (by omega)⟩
  have HLEN : Hidden (∀ k : Nat, k < 40 → (rawE l k).length = 5) := ⟨fun k hk => rawE_len l k hk (by omega)⟩
  generalize rawE l = R at *
  clear hr hrd hn
  go_enter Tryz.func75, Tryz.ntmps75
  go_wp2_with fail
  go_loopw [2, 3, 4, 5] (fun vf vr vw h wr => ∃ k : Nat, k ≤ 40 ∧ h = .int .i64 ((k : Int) + 1) ∧ Below w.heap.size w wr ∧ HSt wr w.heap.size vf vr vw (faultsH n R k) (rightL n R k) (wholeL n R k)) (fun _ _ _ h _ => 41 - (intOf h).toNat)
  case atStart => exact ⟨0, by omega, rfl, Below.refl _ _, World.ownsRow_nil _ _ _ _, World.ownsRow_nil _ _ _ _, World.ownsRow_nil _ _ _ _, fun b hb => by cases hb⟩
  case round =>
    obtain ⟨k, hk, rfl, hbel, hst⟩ := hrel
    by_cases hlt : k < 40
    · have k0 : ((k : Int) + 1) ≤ 40 := by omega
      have s1 : IntKind.i64.wrap ((k : Int) + 1 + 1) = (k : Int) + 1 + 1 := IntWalk.i64_in _ (by omega)
      have hlF := faultsH_len n R k
      have hlR : (rightL n R k).length ≤ k := entsL_len _ R k
      have hlW : (wholeL n R k).length ≤ k := entsL_len _ R k
      have hget := HGET.out k hlt wr hbel
      have HG := Hidden.mk hget
      clear hget
      have HSF := Hidden.mk (faultsH_succ n R k)
      have HSR : Hidden (rightL n R (k + 1) = rightL n R k ++ if (kindH n R k == 6) = true then [(((k : Int) + 1), R k)] else []) := ⟨entsL_succ _ R k⟩
      have HSW : Hidden (wholeL n R (k + 1) = wholeL n R k ++ if wholeE n (R k) = true then [(((k : Int) + 1), R k)] else []) := ⟨entsL_succ _ R k⟩
      cases hE : hasE (R k) with
      | false =>
        have hW0 : wholeE n (R k) = false := by simp [wholeE, hE]
        have hKK : kindH n R k = if zeroE (R k) = true then 0 else 3 := by unfold kindH; rw [hE]; simp
        have HKK := Hidden.mk hKK
        have HW0 := Hidden.mk hW0
        have HEE := Hidden.mk hE
        clear hW0 hKK hE
        go_wp2_with fail
        refine HG.out.mono ?_
        rintro e w1 ⟨_, he, hb1⟩
        have he := he HEE.out
        subst he
        have hB1 := hbel.trans (hb1.mono hbel.size)
        have hst1 := hst.below hb1
        have hB2 : Below w.heap.size w (w1.alloc (.cells #[.int .i64 0, .int .i64 0, .int .i64 0, .int .i64 0] 89)) := hB1.alloc hB1.size _
        have hst2 := hst1.below ((Below.refl _ _).alloc (Nat.le_refl _) (.cells #[.int .i64 0, .int .i64 0, .int .i64 0, .int .i64 0] 89))
        clear hst hst1 hB1 hb1 hbel
        go_wp2_with fail
        generalize w1.alloc (.cells #[.int .i64 0, .int .i64 0, .int .i64 0, .int .i64 0] 89) = w2 at *
        refine (raw_any A n c ((k : Int) + 1) _ (by omega) (by omega) (by omega) hnc).mono ?_
        rintro e w3 ⟨rfl, rfl⟩
        rw [entO_k]
        go_wp2_with fail
        refine (izero_any _ 5 _ (R k) _ (HLEN.out k hlt) (by simp [maxLen]) (HRAW.out k hlt w2 hB2)).mono ?_
        rintro e w3 ⟨rfl, rfl⟩
        cases hz : zeroE (R k) with
        | true =>
          have e1 : faultsH n R (k + 1) = faultsH n R k := by rw [HSF.out, HKK.out, hz]; simp [fltOf]
          have e2 : rightL n R (k + 1) = rightL n R k := by rw [HSR.out, HKK.out, hz]; simp
          have e3 : wholeL n R (k + 1) = wholeL n R k := by rw [HSW.out, HW0.out]; simp
          have hst3 : HSt w2 w.heap.size u2 u3 u4 (faultsH n R (k + 1)) (rightL n R (k + 1)) (wholeL n R (k + 1)) := by rw [e1, e2, e3]; exact hst2
          have HST := Hidden.mk hst3
          clear e1 e2 e3 hst3 hst2 hz
          go_wp2_with fail
          go_roundw
          case rel => exact ⟨k + 1, by omega, by go_num, hB2, HST.out⟩
          case measure => simp [intOf]; omega
        | false =>
          have e1 : faultsH n R (k + 1) = faultsH n R k ++ [⟨3, k + 1⟩] := by rw [HSF.out, HKK.out, hz]; simp [fltOf]
          have e2 : rightL n R (k + 1) = rightL n R k := by rw [HSR.out, HKK.out, hz]; simp
          have e3 : wholeL n R (k + 1) = wholeL n R k := by rw [HSW.out, HW0.out]; simp
          have HE1 := Hidden.mk e1
          have HE2 := Hidden.mk e2
          have HE3 := Hidden.mk e3
          clear e1 e2 e3 hz
          go_wp2_with (at_builtin; refine wpList_append_lies _ rfl (.tmp 30) (.tmp 33) _ rfl w.heap.size 184 i1 _ 2 16 Tryz.underlying49 hi1 hy0 hy1 hy2 rfl (by decide) u2 (faultsH n R k).length ((faultsH n R k).flatMap fcells) rfl (own_below hst2.f ((Below.refl _ _).alloc (Nat.le_refl _) _)) ⟨w2.heap.size, 0, none⟩ 1 1 [.int .i64 3, .int .i64 ((k : Int) + 1)] rfl rfl (World.news_of_block (cs := #[.int .i64 3, .int .i64 ((k : Int) + 1)]) (t := 184) (fr := (0, 0)) (heap_alloc_new w2 _)) (by simp [Value.oneCell']) (by omega) (by simp only [maxLen]; omega) (by omega) (by have := hB2.size; simp; omega) (w2.heap.size + 1) (by simp) ?_; intro gf capf w7 hown7 hg7 hat7 hlt7)
          have hgF := grown_trans' ((Below.refl _ _).alloc (Nat.le_refl _) _) hg7
          have hst7 := hst2.addF (x := ⟨3, k + 1⟩) hgF hown7
          have hB7 : Below w.heap.size w w7 := hB2.grown hgF hB2.size (fun q hq => (hst2.f.lt q hq).1)
          clear hown7 hg7 hat7 hlt7 hgF hst2 hB2
          go_roundw
          case rel => exact ⟨k + 1, by omega, by go_num, hB7, by rw [HE1.out, HE2.out, HE3.out]; exact hst7⟩
          case measure => simp [intOf]; omega
      | true =>
        have HKK : Hidden (kindH n R k = if strayE n (R k) = true then 1 else if (wholeL n R k).any (fun x => overE (R k) x.2) = true then 2 else 6) := ⟨by rw [wholeL_any]; unfold kindH; rw [hE]; simp⟩
        have HWW : Hidden (wholeE n (R k) = !strayE n (R k)) := ⟨by unfold wholeE; rw [hE]; simp⟩
        have HEE := Hidden.mk hE
        have HSTR : Hidden ((!(tagB (rTag (R k)) && lenB (rLen (R k)) && withinB n (rAt (R k)) (rLen (R k)))) = strayE n (R k)) := ⟨rfl⟩
        have HENT : Hidden (∀ h, entR h (R k) = entV h (rAt (R k)) (rLen (R k)) (rTag (R k))) := ⟨fun _ => rfl⟩
        have b1 := rAt_le (R k)
        have b2 := rLen_le (R k)
        have HCELL : Hidden (ecells (((k : Int) + 1), R k) = [.int .i64 ((k : Int) + 1), .int .i64 (rAt (R k)), .int .i64 (rLen (R k)), .int .i64 (rTag (R k))]) := ⟨rfl⟩
        have HOV : Hidden (∀ (Bx : Nat) (x : Int × Bytes) (W : World), W.cell? ⟨Bx, 1, none⟩ = some (.int .i64 (rAt (R k))) → W.cell? ⟨Bx, 2, none⟩ = some (.int .i64 (rLen (R k))) → Calls Tryz.prog 130 #[entR x.1 x.2, .pointer (some ⟨Bx, 0, none⟩)] W fun e w' => e = .returned (.bool (overE (R k) x.2)) ∧ Below W.heap.size W w') := ⟨fun (Bx : Nat) (x : Int × Bytes) (W : World) h1 h2 => over1_any (R k) Bx x W h1 h2⟩
        clear hE
        go_wp2_with fail
        refine HG.out.mono ?_
        rintro e w1 ⟨he, _, hb1⟩
        have he := he HEE.out
        rw [HENT.out] at he
        subst he
        generalize rAt (R k) = a1 at *
        generalize rLen (R k) = a2 at *
        generalize rTag (R k) = a3 at *
        have hB1 := hbel.trans (hb1.mono hbel.size)
        have hst1 := hst.below hb1
        have nf : ∀ q, u2.ownBlock = some q → q < w1.heap.size := fun q hq => Nat.lt_of_lt_of_le (hst.f.lt q hq).2 hb1.size
        have nr : ∀ q, u3.ownBlock = some q → q < w1.heap.size := fun q hq => Nat.lt_of_lt_of_le (hst.r.lt q hq).2 hb1.size
        have NF := Hidden.mk nf
        have NR := Hidden.mk nr
        have hal : Below w1.heap.size w1 (w1.alloc (.cells #[.int .i64 ((k : Int) + 1), .int .i64 a1, .int .i64 a2, .int .i64 a3] 89)) := (Below.refl _ _).alloc (Nat.le_refl _) _
        have hB2 : Below w.heap.size w (w1.alloc (.cells #[.int .i64 ((k : Int) + 1), .int .i64 a1, .int .i64 a2, .int .i64 a3] 89)) := hB1.alloc hB1.size _
        have hst2 := hst1.below hal
        have hbx : (w1.alloc (.cells #[.int .i64 ((k : Int) + 1), .int .i64 a1, .int .i64 a2, .int .i64 a3] 89)).heap[w1.heap.size]? = some (.cells #[.int .i64 ((k : Int) + 1), .int .i64 a1, .int .i64 a2, .int .i64 a3] 89 (0, 0)) := heap_alloc_new w1 _
        clear hst hst1 hB1 hb1 hbel hal nf nr
        go_wp2_with fail
        generalize w1.alloc (.cells #[.int .i64 ((k : Int) + 1), .int .i64 a1, .int .i64 a2, .int .i64 a3] 89) = w2 at *
        generalize w1.heap.size = Bx at *
        refine (stray_any A n c ((k : Int) + 1) a1 a2 a3 _ (by omega) (by omega) (by omega) (by omega)).mono ?_
        rintro e w3 ⟨rfl, hb3⟩
        rw [HSTR.out]
        have hB3 := hB2.trans (hb3.mono hB2.size)
        have hst3 := hst2.below hb3
        have hltx : Bx < w2.heap.size := (Array.getElem?_eq_some_iff.1 hbx).1
        have hbx3 := (hb3.block Bx hltx).trans hbx
        have hltx3 : Bx < w3.heap.size := (Array.getElem?_eq_some_iff.1 hbx3).1
        clear hB2 hst2 hb3 hbx hltx
        cases hs : strayE n (R k) with
        | true =>
          have HE1 : Hidden (faultsH n R (k + 1) = faultsH n R k ++ [⟨1, k + 1⟩]) := ⟨by rw [HSF.out, HKK.out, hs]; simp [fltOf]⟩
          have HE2 : Hidden (rightL n R (k + 1) = rightL n R k) := ⟨by rw [HSR.out, HKK.out, hs]; simp⟩
          have HE3 : Hidden (wholeL n R (k + 1) = wholeL n R k) := ⟨by rw [HSW.out, HWW.out, hs]; simp⟩
          clear hs
          go_wp2_with (at_builtin; refine wpList_append_lies _ rfl (.tmp 39) (.tmp 42) _ rfl w.heap.size 184 i1 _ 2 16 Tryz.underlying49 hi1 hy0 hy1 hy2 rfl (by decide) u2 (faultsH n R k).length ((faultsH n R k).flatMap fcells) rfl (own_below hst3.f ((Below.refl _ _).alloc (Nat.le_refl _) _)) ⟨w3.heap.size, 0, none⟩ 1 1 [.int .i64 1, .int .i64 ((k : Int) + 1)] rfl rfl (World.news_of_block (cs := #[.int .i64 1, .int .i64 ((k : Int) + 1)]) (t := 184) (fr := (0, 0)) (heap_alloc_new w3 _)) (by simp [Value.oneCell']) (by omega) (by simp only [maxLen]; omega) (by omega) (by have := hB3.size; simp; omega) (w3.heap.size + 1) (by simp) ?_; intro gf capf w7 hown7 hg7 hat7 hlt7)
          have hgF := grown_trans' ((Below.refl _ _).alloc (Nat.le_refl _) _) hg7
          have hst7 := hst3.addF (x := ⟨1, k + 1⟩) hgF hown7
          have hB7 : Below w.heap.size w w7 := hB3.grown hgF hB3.size (fun q hq => (hst3.f.lt q hq).1)
          clear hown7 hg7 hat7 hlt7 hgF hst3 hB3
          go_roundw
          case rel => exact ⟨k + 1, by omega, by go_num, hB7, by rw [HE1.out, HE2.out, HE3.out]; exact hst7⟩
          case measure => simp [intOf]; omega
        | false =>
          obtain ⟨A4, c4, hv4, hc4, hrd4⟩ := own_rdEs hst3.o
          subst hv4
          have hcf := cfe_over (fun x => overE (R k) x.2) A4 (wholeL n R k).length c4 (wholeL n R k) (.pointer (some ⟨Bx, 0, none⟩)) w3 rfl (by omega) hrd4 (fun x _ W hW => HOV.out Bx x W (by have := (hW.block Bx hltx3).trans hbx3; simp [World.cell?, this]) (by have := (hW.block Bx hltx3).trans hbx3; simp [World.cell?, this]))
          have HCF := Hidden.mk hcf
          clear hcf
          go_wp2_with fail
          refine HCF.out.mono ?_
          rintro e w4 ⟨rfl, hb4⟩
          have hB4 := hB3.trans (hb4.mono hB3.size)
          have hst4 := hst3.below hb4
          have hbx4 := (hb4.block Bx hltx3).trans hbx3
          have hltx4 : Bx < w4.heap.size := (Array.getElem?_eq_some_iff.1 hbx4).1
          have hrdc4 : ∀ W : World, W.heap[Bx]? = some (.cells #[.int .i64 ((k : Int) + 1), .int .i64 a1, .int .i64 a2, .int .i64 a3] 89 (0, 0)) → W.cell? ⟨Bx, 0, none⟩ = some (.int .i64 ((k : Int) + 1)) ∧ W.cell? ⟨Bx, 1, none⟩ = some (.int .i64 a1) ∧ W.cell? ⟨Bx, 2, none⟩ = some (.int .i64 a2) ∧ W.cell? ⟨Bx, 3, none⟩ = some (.int .i64 a3) := fun W h => by simp [World.cell?, h]
          have HRD := Hidden.mk hrdc4
          obtain ⟨y0, y1, y2, y3⟩ := hrdc4 w4 hbx4
          clear hB3 hst3 hb4 hbx3 hltx3 hrd4 hrdc4
          have HE3 : Hidden (wholeL n R (k + 1) = wholeL n R k ++ [(((k : Int) + 1), R k)]) := ⟨by rw [HSW.out, HWW.out, hs]; simp⟩
          cases hany : (wholeL n R k).any (fun x => overE (R k) x.2) with
          | true =>
            have HE1 : Hidden (faultsH n R (k + 1) = faultsH n R k ++ [⟨2, k + 1⟩]) := ⟨by rw [HSF.out, HKK.out, hs, hany]; simp [fltOf]⟩
            have HE2 : Hidden (rightL n R (k + 1) = rightL n R k) := ⟨by rw [HSR.out, HKK.out, hs, hany]; simp⟩
            clear hs hany
            go_wp2_with (first | (at_builtin; refine wpList_append_lies _ rfl (.tmp 48) (.tmp 51) _ rfl w.heap.size 184 i1 _ 2 16 Tryz.underlying49 hi1 hy0 hy1 hy2 rfl (by decide) u2 (faultsH n R k).length ((faultsH n R k).flatMap fcells) rfl (own_below hst4.f ((Below.refl _ _).alloc (Nat.le_refl _) _)) ⟨w4.heap.size, 0, none⟩ 1 1 [.int .i64 2, .int .i64 ((k : Int) + 1)] rfl rfl (World.news_of_block (cs := #[.int .i64 2, .int .i64 ((k : Int) + 1)]) (t := 184) (fr := (0, 0)) (heap_alloc_new w4 _)) (by simp [Value.oneCell']) (by omega) (by simp only [maxLen]; omega) (by omega) (by have := hB4.size; simp; omega) (w4.heap.size + 1) (by simp) ?_; intro gf capf w7 hown7 hg7 hat7 hlt7; have hgF := grown_trans' ((Below.refl _ _).alloc (Nat.le_refl _) _) hg7; have hst7 := hst4.addF (x := ⟨2, k + 1⟩) hgF hown7; have hB7 : Below w.heap.size w w7 := hB4.grown hgF hB4.size (fun q hq => (hst4.f.lt q hq).1); obtain ⟨z0, z1, z2, z3⟩ := HRD.out w7 ((hgF.block Bx hltx4 (fun e => Nat.lt_irrefl _ (NF.out Bx e.symm))).trans hbx4)) | (at_builtin; refine wpList_append_lies _ rfl (.tmp 53) (.tmp 55) _ rfl w.heap.size 89 i2 _ 4 32 Tryz.underlying100 hi2 hx0 hx1 hx2 rfl (by decide) (.slice A4 (wholeL n R k).length c4) (wholeL n R k).length ((wholeL n R k).flatMap ecells) rfl (own_below hst7.o ((Below.refl _ _).alloc (Nat.le_refl _) _)) ⟨w7.heap.size, 0, none⟩ 1 1 [.int .i64 ((k : Int) + 1), .int .i64 a1, .int .i64 a2, .int .i64 a3] rfl rfl (World.news_of_block (cs := #[.int .i64 ((k : Int) + 1), .int .i64 a1, .int .i64 a2, .int .i64 a3]) (t := 89) (fr := (0, 0)) (heap_alloc_new w7 _)) (by simp [Value.oneCell']) (by omega) (by simp only [maxLen]; omega) (by omega) (by have := hB7.size; simp; omega) (w7.heap.size + 1) (by simp) ?_; intro g8 cap8 w8 hown8 hg8 hat8 hlt8))
            have hgW := grown_trans' ((Below.refl _ _).alloc (Nat.le_refl _) _) hg8
            have hst8 := hst7.addW (x := (((k : Int) + 1), R k)) hgW rfl (by rw [HCELL.out]; exact hown8) (by rcases hat8 with h | h; exact .inl h; exact .inr (by omega))
            have hB8 : Below w.heap.size w w8 := hB7.grown hgW hB7.size (fun q hq => (hst7.o.lt q hq).1)
            go_roundw
            case rel => exact ⟨k + 1, by omega, by go_num, hB8, by rw [HE1.out, HE2.out, HE3.out]; exact hst8⟩
            case measure => simp [intOf]; omega
          | false =>
            have HE1 : Hidden (faultsH n R (k + 1) = faultsH n R k) := ⟨by rw [HSF.out, HKK.out, hs, hany]; simp [fltOf]⟩
            have HE2 : Hidden (rightL n R (k + 1) = rightL n R k ++ [(((k : Int) + 1), R k)]) := ⟨by rw [HSR.out, HKK.out, hs, hany]; simp⟩
            clear hs hany
            go_wp2_with (first | (at_builtin; refine wpList_append_lies _ rfl (.tmp 18) (.tmp 20) _ rfl w.heap.size 89 i2 _ 4 32 Tryz.underlying100 hi2 hx0 hx1 hx2 rfl (by decide) u3 (rightL n R k).length ((rightL n R k).flatMap ecells) rfl (own_below hst4.r ((Below.refl _ _).alloc (Nat.le_refl _) _)) ⟨w4.heap.size, 0, none⟩ 1 1 [.int .i64 ((k : Int) + 1), .int .i64 a1, .int .i64 a2, .int .i64 a3] rfl rfl (World.news_of_block (cs := #[.int .i64 ((k : Int) + 1), .int .i64 a1, .int .i64 a2, .int .i64 a3]) (t := 89) (fr := (0, 0)) (heap_alloc_new w4 _)) (by simp [Value.oneCell']) (by omega) (by simp only [maxLen]; omega) (by omega) (by have := hB4.size; simp; omega) (w4.heap.size + 1) (by simp) ?_; intro g6 cap6 w6 hown6 hg6 hat6 hlt6; have hgR := grown_trans' ((Below.refl _ _).alloc (Nat.le_refl _) _) hg6; have hst6 := hst4.addR (x := (((k : Int) + 1), R k)) hgR rfl (by rw [HCELL.out]; exact hown6) (by rcases hat6 with h | h; exact .inl h; exact .inr (by omega)); have hB6 : Below w.heap.size w w6 := hB4.grown hgR hB4.size (fun q hq => (hst4.r.lt q hq).1); obtain ⟨z0, z1, z2, z3⟩ := HRD.out w6 ((hgR.block Bx hltx4 (fun e => Nat.lt_irrefl _ (NR.out Bx e.symm))).trans hbx4)) | (at_builtin; refine wpList_append_lies _ rfl (.tmp 53) (.tmp 55) _ rfl w.heap.size 89 i2 _ 4 32 Tryz.underlying100 hi2 hx0 hx1 hx2 rfl (by decide) (.slice A4 (wholeL n R k).length c4) (wholeL n R k).length ((wholeL n R k).flatMap ecells) rfl (own_below hst6.o ((Below.refl _ _).alloc (Nat.le_refl _) _)) ⟨w6.heap.size, 0, none⟩ 1 1 [.int .i64 ((k : Int) + 1), .int .i64 a1, .int .i64 a2, .int .i64 a3] rfl rfl (World.news_of_block (cs := #[.int .i64 ((k : Int) + 1), .int .i64 a1, .int .i64 a2, .int .i64 a3]) (t := 89) (fr := (0, 0)) (heap_alloc_new w6 _)) (by simp [Value.oneCell']) (by omega) (by simp only [maxLen]; omega) (by omega) (by have := hB6.size; simp; omega) (w6.heap.size + 1) (by simp) ?_; intro g8 cap8 w8 hown8 hg8 hat8 hlt8))
            have hgW := grown_trans' ((Below.refl _ _).alloc (Nat.le_refl _) _) hg8
            have hst8 := hst6.addW (x := (((k : Int) + 1), R k)) hgW rfl (by rw [HCELL.out]; exact hown8) (by rcases hat8 with h | h; exact .inl h; exact .inr (by omega))
            have hB8 : Below w.heap.size w w8 := hB6.grown hgW hB6.size (fun q hq => (hst6.o.lt q hq).1)
            go_roundw
            case rel => exact ⟨k + 1, by omega, by go_num, hB8, by rw [HE1.out, HE2.out, HE3.out]; exact hst8⟩
            case measure => simp [intOf]; omega
    · obtain rfl : k = 40 := by omega
      go_wp2_with fail
      go_ret2
      exact ⟨u2, u3, u4, rfl, hst, hbel⟩
end Go.Proofs.YtoieifphklodoaaGreatDoor
/- The contract of check.Check. -/
namespace Go.Proofs.YtoieifphklodoaaGreatDoor
open Go.RowKit

theorem flt_one (F : List Flt) : ∀ u ∈ F.flatMap fcells, u.oneCell' = true := by
  intro u hu
  obtain ⟨f, _, h⟩ := List.mem_flatMap.1 hu
  simp only [fcells, List.mem_cons, List.not_mem_nil, or_false] at h
  rcases h with rfl | rfl <;> rfl
theorem right_leads (n : Nat) (R : Nat → Bytes) (x : UInt8) : ((rightL n R 40).any fun e => e.1 == (x.toNat : Int)) = leadsE n R x := by
  unfold rightL entsL leadsE
  rw [List.any_map, List.any_filter]
  congr 1
  funext k
  simp only [Function.comp]
  congr 1
  rw [Bool.eq_iff_iff]; simp; omega
set_option maxRecDepth 100000 in
theorem check_yes (A : Option Addr) (n c : Nat) (l : Bytes) (w : World) (hn : l.length = n) (hr : rightB n = true) (hnc : n ≤ c) (hrd : Rd w A l) :
    Calls Tryz.prog 20 #[.slice A n c] w fun e w' => ∃ v, e = .returned (.tuple #[v, .nilIface]) ∧ w'.ownsRow w.heap.size 184 2 v (checkL l).length ((checkL l).flatMap fcells) ∧ Below w.heap.size w w' := by
  obtain ⟨i1, hi1, hy0, hy1, hy2⟩ := info_parts fault_info
  have hlF := faultsH_len n (rawE l) 40
  have hlR : (rightL n (rawE l) 40).length ≤ 40 := entsL_len _ _ 40
  have hlG := faultsR_len (leadsE n (rawE l)) (rawR l) 8
  have HCL : Hidden (checkL l = faultsH n (rawE l) 40 ++ faultsR (leadsE n (rawE l)) (rawR l) 8) := ⟨by unfold checkL; rw [hn]⟩
  go_enter Tryz.func20, Tryz.ntmps20
  go_wp2_with fail
  refine (right_any _ _).mono ?_
  rintro e w1 ⟨rfl, rfl⟩
  rw [hr]
  go_wp2_with fail
  refine (handles_ok A n c l _ hn hr hnc hrd).mono ?_
  rintro e w1 ⟨vf, vr, vw, rfl, hst, hb1⟩
  obtain ⟨Ar, cr, rfl, hcr, hre⟩ := own_rdEs hst.r
  go_wp2_with fail
  refine (roots_ok A Ar n c _ cr l (rightL n (rawE l) 40) (leadsE n (rawE l)) _ hn hr hnc (hrd.below hb1) rfl (by omega) hre (right_leads n (rawE l))).mono ?_
  rintro e w2 ⟨vg, rfl, hg2, hb2⟩
  have hf2 := own_below hst.f hb2
  obtain ⟨Ag, cg, rfl, hcg, hsrc⟩ := Src.of_own hg2
  have hB2 := hb1.trans (hb2.mono hb1.size)
  generalize faultsH n (rawE l) 40 = FH at *
  generalize faultsR (leadsE n (rawE l)) (rawR l) 8 = FR at *
  have HS := Hidden.mk hsrc
  have HF2 := Hidden.mk hf2
  clear hst hre hg2 hsrc hf2 hb1 hb2 hn hr hrd
  go_wp2_with (at_builtin; refine wpList_append_src _ rfl (.tmp 16) (.tmp 19) _ rfl w.heap.size 184 i1 _ 2 16 Tryz.underlying49 hi1 hy0 hy1 hy2 rfl (by decide) vf FH.length (FH.flatMap fcells) rfl HF2.out Ag FR.length cg (FR.flatMap fcells) rfl HS.out (flt_one _) (by simp only [maxLen]; omega) (by omega) hB2.size ?_; intro v7 w7 hown7 hg7 hat7)
  have hB7 : Below w.heap.size w w7 := hB2.grown hg7 hB2.size (fun q hq => (HF2.out.lt q hq).1)
  go_ret2
  refine ⟨_, rfl, ?_, hB7⟩
  rw [HCL.out]
  simpa using hown7
end Go.Proofs.YtoieifphklodoaaGreatDoor
/- The contract of check.Mend. -/
namespace Go.Proofs.YtoieifphklodoaaGreatDoor
open Go.RowKit

end Go.Proofs.YtoieifphklodoaaGreatDoor
/- The contract of image.Drop; what puts leave of an image, in plain words. -/
namespace Go.Proofs.YtoieifphklodoaaGreatDoor
open Go.RowKit

set_option maxRecDepth 100000 in
theorem idrop_ok (A : Option Addr) (n c : Nat) (l : Bytes) (k : Nat) (w : World) (hn : l.length = n) (hr : rightB n = true) (hnc : n ≤ c) (hrd : Rd w A l) (hk : k < 40) (hE : hasE (rawE l k) = true) :
    Calls Tryz.prog 92 #[.slice A n c, .int .i64 ((k : Int) + 1)] w fun e w' => ∃ g cap, e = .returned (.tuple #[.slice (some ⟨g, 0, none⟩) n cap, .nilIface]) ∧ w.heap.size ≤ g ∧ Row w' 5 g cap (splice l (5 * k) (List.replicate 5 0)) ∧ Below w.heap.size w w' := by
  have hnb := rightB_true.1 hr
  have HG := Hidden.mk ((iget_ok A n c l k w hn hr hnc hrd hk).mono fun _ _ h => (⟨h.1 hE, h.2.2⟩ : _ ∧ _))
  unfold entR entV at HG
  generalize (rAt (rawE l k) : Int) = a1 at *
  generalize (rLen (rawE l k) : Int) = a2 at *
  generalize rTag (rawE l k) = a3 at *
  clear hE
  obtain ⟨p, off, rfl, hpl⟩ := hrd.lt (by omega)
  go_enter Tryz.func92, Tryz.ntmps92
  go_wp2_with fail
  refine HG.out.mono ?_
  rintro e w1 ⟨rfl, hb1⟩
  have hB2 : Below w.heap.size w (w1.alloc (.cells #[.int .i64 ((k : Int) + 1), .int .i64 a1, .int .i64 a2, .int .i64 a3] 89)) := hb1.alloc hb1.size _
  clear hb1
  go_wp2_with fail
  generalize w1.alloc (.cells #[.int .i64 ((k : Int) + 1), .int .i64 a1, .int .i64 a2, .int .i64 a3] 89) = w2 at *
  refine (clone_some _ n c l _ hn (by omega) (hrd.below hB2)).mono ?_
  rintro e w3 ⟨g, cap, rfl, hg, hrow, hb3⟩
  have hB3 := hB2.trans (hb3.mono hB2.size)
  have hgw : w.heap.size ≤ g := Nat.le_trans hB2.size hg
  have hlc := hrow.le.1
  clear hg hb3 hB2
  go_wp2_with fail
  refine (raw_any (some ⟨g, 0, none⟩) n cap ((k : Int) + 1) _ (by omega) (by omega) (by omega) (by omega)).mono ?_
  rintro e w4 ⟨rfl, rfl⟩
  rw [entO_k]
  simp only [Option.map_some, Addr.add_lit, Nat.zero_add]
  obtain ⟨cur, hcur, _, _, hcs, _⟩ := id hrow
  have hclear := fun c' ty => run_clear_row w3 g (5 * k) 5 c' cur _ hcur (by omega) (by omega) ty
  have hrow5 := hrow.set_ (5 * k) (List.replicate 5 0) (by simp; omega) cur hcur
  have hB5 : Below w.heap.size w (w3.setRow g (setB cur (5 * k) ((List.replicate 5 (0 : UInt8)).map bv))) := below_setRow hB3 hgw _
  have H5 := Hidden.mk (And.intro hrow5 hB5)
  clear hrow hrow5 hB5 hB3 hcur hcs hlc
  generalize w3.setRow g (setB cur (5 * k) ((List.replicate 5 (0 : UInt8)).map bv)) = w5 at *
  go_wp2_with (simp only [hclear])
  go_ret2
  exact ⟨g, cap, rfl, hgw, H5.out.1, H5.out.2⟩
theorem rawE_splice (l x : Bytes) (k j : Nat) (hx : x.length = 5) (hk : k < 40) (_hj : j < 40) (hl : 200 ≤ l.length) : rawE (splice l (5 * k) x) j = if j = k then x else rawE l j := by
  apply List.ext_getElem?
  intro q
  unfold rawE
  rw [List.getElem?_take, List.getElem?_drop, splice_at _ _ _ _ (by omega)]
  by_cases hq : q < 5
  · rw [if_pos hq]
    by_cases hjk : j = k
    · subst hjk
      rw [if_pos (by omega), if_pos rfl]
      congr 1; omega
    · rw [if_neg (by omega), if_neg hjk, List.getElem?_take, if_pos hq, List.getElem?_drop]
  · rw [if_neg hq]
    by_cases hjk : j = k
    · rw [if_pos hjk, List.getElem?_eq_none (by omega)]
    · rw [if_neg hjk, List.getElem?_take, if_neg hq]
theorem rawR_splice (l x : Bytes) (i j : Nat) (hx : x.length = 11) (hi : i < 8) (_hj : j < 8) (hl : 288 ≤ l.length) : rawR (splice l (200 + 11 * i) x) j = if j = i then x else rawR l j := by
  apply List.ext_getElem?
  intro q
  unfold rawR
  rw [List.getElem?_take, List.getElem?_drop, splice_at _ _ _ _ (by omega)]
  by_cases hq : q < 11
  · rw [if_pos hq]
    by_cases hji : j = i
    · subst hji
      rw [if_pos (by omega), if_pos rfl]
      congr 1; omega
    · rw [if_neg (by omega), if_neg hji, List.getElem?_take, if_pos hq, List.getElem?_drop]
  · rw [if_neg hq]
    by_cases hji : j = i
    · rw [if_pos hji, List.getElem?_eq_none (by omega)]
    · rw [if_neg hji, List.getElem?_take, if_neg hq]
theorem rawR_head (l x : Bytes) (o j : Nat) (hx : o + x.length ≤ 200) (hl : 200 ≤ l.length) : rawR (splice l o x) j = rawR l j := by
  apply List.ext_getElem?
  intro q
  unfold rawR
  rw [List.getElem?_take, List.getElem?_drop, List.getElem?_take, List.getElem?_drop]
  by_cases hq : q < 11
  · rw [if_pos hq, if_pos hq, splice_at _ _ _ _ (by omega), if_neg (by omega)]
  · rw [if_neg hq, if_neg hq]
theorem ofB_two (n : Nat) (h : n < 65536) : ofB (numB n 2) = n := by
  have h1 := ofNat_mod n
  have h2 := ofNat_mod (n / 256)
  simp only [numB, ofB, h1, h2]
  omega
theorem entB_rd (a b t : Nat) (ha : a < 65536) (hb : b < 65536) (ht : t ≤ 15) : hasE (entB a b t) = true ∧ rAt (entB a b t) = a ∧ rLen (entB a b t) = b ∧ rTag (entB a b t) = t := by
  have hd : (UInt8.ofNat (t + 1)).toNat = t + 1 := by rw [UInt8.toNat_ofNat', Nat.mod_eq_of_lt (by omega)]
  have h2 : (numB a 2).length = 2 := numB_length a 2
  have h3 : (numB b 2).length = 2 := numB_length b 2
  refine ⟨?_, ?_, ?_, ?_⟩
  · unfold hasE rHd entB
    simp only [List.headD_cons]
    rw [bne_iff_ne]
    intro e
    rw [e] at hd
    simp at hd
  · unfold rAt entB
    rw [List.drop_one, List.tail_cons, List.take_append_of_le_length (by omega), List.take_of_length_le (by omega), ofB_two a ha]
  · unfold rLen entB
    rw [List.drop_succ_cons, List.drop_append, List.drop_of_length_le (by omega), h2, List.nil_append, List.drop_zero, List.take_of_length_le (by omega), ofB_two b hb]
  · unfold rTag rHd entB
    simp only [List.headD_cons]
    omega
theorem rootsF_congr (S S' : Nat → Bytes) : ∀ m, (∀ j, j < m → S j = S' j) → rootsF S m = rootsF S' m
  | 0, _ => rfl
  | m + 1, h => by rw [rootsF_succ, rootsF_succ, h m (by omega), rootsF_congr S S' m (fun j hj => h j (by omega))]
theorem idrop_e (A : Option Addr) (n c : Nat) (h k : Int) (w : World) (hget : Calls Tryz.prog 87 #[.slice A n c, .int .i64 h] w fun e w' => e = .returned (.tuple #[entV 0 0 0 0, .iface 110 (.int .i64 k)]) ∧ Below w.heap.size w w') :
    Calls Tryz.prog 92 #[.slice A n c, .int .i64 h] w fun e w' => e = .returned (.tuple #[.slice none 0 0, .iface 110 (.int .i64 k)]) ∧ Below w.heap.size w w' := by
  have HG := Hidden.mk hget
  unfold entV at HG
  clear hget
  go_enter Tryz.func92, Tryz.ntmps92
  go_wp2_with fail
  refine HG.out.mono ?_
  rintro e w1 ⟨rfl, hb1⟩
  have hB2 : Below w.heap.size w (w1.alloc (.cells #[.int .i64 0, .int .i64 0, .int .i64 0, .int .i64 0] 89)) := hb1.alloc hb1.size _
  clear hb1
  go_wp2_with fail
  go_ret2
  exact ⟨rfl, hB2⟩
end Go.Proofs.YtoieifphklodoaaGreatDoor
