/- The contract of image.PutRoot. -/
import Derived.Test.YtibogmoemohngaaImg2
import Derived.Test.YtibogmoemohngaaNumBack1
import Derived.Test.YtibogmoemohngaaStamp1
namespace Go.Proofs.Ytibogmoemohngaa
open Go.RowKit

abbrev rootV (s : Bytes) (h : Int) : Value := .agg #[sv s, .int .i64 h]
def rootO (i : Int) : Nat := (200 + i * 11).toNat
theorem rawRoot_any (A : Option Addr) (n c : Nat) (i : Int) (w : World) (h1 : 0 ≤ i) (h2 : i < 8) (hn : 288 ≤ n) (hc : n ≤ c) :
    Calls Try.prog 98 #[.slice A n c, .int .i64 i] w fun e w' => e = .returned (.slice (A.map (·.add (rootO i))) 11 (c - rootO i)) ∧ w = w' := by
  obtain ⟨k, rfl⟩ := Int.eq_ofNat_of_zero_le h1
  have he : Hidden (rootO (k : Int) = 200 + k * 11) := ⟨by unfold rootO; omega⟩
  have hk : k < 8 := by omega
  go_enter Try.func98, Try.ntmps98
  go_wp2
  go_ret
  rw [he.out]
  refine ⟨?_, rfl⟩
  show Ending.returned (.slice (A.map (·.add (200 + k * 11))) ((200 + (k + 1) * 11) - (200 + k * 11)) (c - (200 + k * 11))) = _
  rw [show (200 + (k + 1) * 11) - (200 + k * 11) = 11 from by omega]

theorem root_e3 (A : Option Addr) (n c : Nat) (i : Int) (s : Bytes) (h : Int) (w : World) (hr : rightB n = false) :
    Calls Try.prog 92 #[.slice A n c, .int .i64 i, rootV s h] w fun e w' => e = .returned (.tuple #[.slice none 0 0, .iface 78 (.int .i64 3)]) ∧ Below w.heap.size w w' := by
  go_enter Try.func92, Try.ntmps92
  go_wp2_with fail
  refine (check_e3 _ _ _ _ _ hr).mono ?_
  rintro e w' ⟨rfl, rfl⟩
  go_wp2
  go_ret2
  exact ⟨rfl, (Below.refl _ _).alloc (Nat.le_refl _) _⟩
theorem root_e1 (A : Option Addr) (n c : Nat) (i : Int) (s : Bytes) (h : Int) (w : World) (hr : rightB n = true) (hi : i < 0 ∨ 8 ≤ i) :
    Calls Try.prog 92 #[.slice A n c, .int .i64 i, rootV s h] w fun e w' => e = .returned (.tuple #[.slice none 0 0, .iface 78 (.int .i64 1)]) ∧ Below w.heap.size w w' := by
  have hone : handleB 1 = true := by decide
  rcases hi with hi | hi
  all_goals
    go_enter Try.func92, Try.ntmps92
    go_wp2_with fail
    refine (check_ok _ _ _ _ _ hr hone).mono ?_
    rintro e w' ⟨rfl, rfl⟩
    go_wp2
    go_ret2
    exact ⟨rfl, (Below.refl _ _).alloc (Nat.le_refl _) _⟩
set_option maxRecDepth 100000 in
theorem root_zero (A : Option Addr) (n c : Nat) (l : Bytes) (i : Int) (w : World) (hn : l.length = n) (_hnc : n ≤ c) (hrd : Rd w A l) (hr : rightB n = true) (hi1 : 0 ≤ i) (hi2 : i < 8) :
    Calls Try.prog 92 #[.slice A n c, .int .i64 i, rootV [] 0] w fun e w' => ∃ g cap, e = .returned (.tuple #[.slice (some ⟨g, 0, none⟩) n cap, .nilIface]) ∧ w.heap.size ≤ g ∧ Row w' 5 g cap (splice l (rootO i) (List.replicate 11 0)) ∧ Below w.heap.size w w' := by
  have hone : handleB 1 = true := by decide
  have hmk := mk_bytes 11 11 rfl (by omega)
  go_enter Try.func92, Try.ntmps92
  go_wp2_with fail
  refine (check_ok _ _ _ _ _ hr hone).mono ?_
  rintro e w' ⟨rfl, rfl⟩
  go_wp2_with fail
  have hrb := rightB_true.1 hr
  obtain ⟨p0, off0, rfl, hlt0⟩ := hrd.lt (by omega)
  have hW : Below w.heap.size w (w.alloc (.cells #[sv [], .int .i64 0] 111)) := (Below.refl _ _).alloc (Nat.le_refl _) _
  have hB1 := hW.alloc hW.size (.cells (zeroRow 11) 5)
  have hxr := row_zeros (w.alloc (.cells #[sv [], .int .i64 0] 111)) 11 (by simp [maxLen])
  have hxl : (List.replicate 11 (0 : UInt8)).length = 11 := by decide
  simp only [World.size_alloc] at hxr ⊢
  generalize (w.alloc (.cells #[sv [], .int .i64 0] 111)).alloc (.cells (zeroRow 11) 5) = w1 at *
  generalize w.heap.size + 1 = xb at *
  generalize hXL : List.replicate 11 (0 : UInt8) = xl at *
  have HXL := Hidden.mk hXL
  clear hXL
  refine (clone_some _ _ _ l _ hn (by omega) (hrd.below hB1)).mono ?_
  rintro e w2 ⟨g, cap, rfl, hg, hrow, hb2⟩
  have hB2 : Below w.heap.size w w2 := hB1.trans (hb2.mono hB1.size)
  have hgw : w.heap.size ≤ g := Nat.le_trans hB1.size hg
  have hxr2 := hxr.below hb2 hxr.lt
  have hlc := hrow.le
  clear hxr hb2 hB1 hg
  go_wp2_with fail
  refine (rawRoot_any (some ⟨g, 0, none⟩) n cap i _ hi1 hi2 (by omega) (by omega)).mono ?_
  rintro e w3 ⟨rfl, rfl⟩
  simp only [Option.map_some, Addr.add_lit, Nat.zero_add]
  have hro : rootO i + 11 ≤ 288 := by unfold rootO; omega
  generalize hO : rootO i = o at *
  have HO := Hidden.mk hO
  clear hO
  obtain ⟨cur, hcur, _, _, hcs, _⟩ := id hrow
  have hcopy := fun ty => run_copy_rd w2 g o 11 (cap - o) 11 11 11 (some ⟨xb, 0, none⟩) xl cur 5 hcur hxl hxr2.rd rfl (by omega) ty
  rw [List.take_of_length_le (by omega)] at hcopy
  have hrow4 := hrow.set_ o xl (by omega) cur hcur
  have hB4 : Below w.heap.size w (w2.setRow g (setB cur o (xl.map bv))) := below_setRow hB2 hgw _
  generalize w2.setRow g (setB cur o (xl.map bv)) = w4 at *
  clear hcur hcs hxr2 hrow hB2
  go_wp2_with fail
  go_ret2
  exact ⟨g, cap, rfl, hgw, by rw [HO.out, HXL.out]; exact hrow4, hB4⟩

theorem root_e1h (A : Option Addr) (n c : Nat) (i : Int) (s : Bytes) (h : Int) (w : World) (hr : rightB n = true) (hi1 : 0 ≤ i) (hi2 : i < 8) (hne : ¬ (s = [] ∧ h = 0)) (hh : handleB h = false) :
    Calls Try.prog 92 #[.slice A n c, .int .i64 i, rootV s h] w fun e w' => e = .returned (.tuple #[.slice none 0 0, .iface 78 (.int .i64 1)]) ∧ Below w.heap.size w w' := by
  have hone : handleB 1 = true := by decide
  have hmk := mk_bytes 11 11 rfl (by omega)
  have hB1 := ((Below.refl w.heap.size w).alloc (Nat.le_refl _) (.cells #[sv s, .int .i64 h] 111)).alloc (by simp) (.cells (zeroRow 11) 5)
  have hcase : s.isEmpty = false ∨ (s = [] ∧ (h == 0) = false) := by
    cases s with
    | nil => right; simpa using hne
    | cons x r => left; rfl
  clear hne
  rcases hcase with hs | ⟨rfl, hs⟩
  all_goals
    go_enter Try.func92, Try.ntmps92
    go_wp2_with fail
    refine (check_ok _ _ _ _ _ hr hone).mono ?_
    rintro e w' ⟨rfl, rfl⟩
    go_wp2_with fail
    refine (handle_any _ _).mono ?_
    rintro e w' ⟨rfl, rfl⟩
    rw [hh]
    go_wp2
    go_ret2
    exact ⟨rfl, hB1⟩

theorem root_e2 (A : Option Addr) (n c : Nat) (i : Int) (s : Bytes) (h : Int) (w : World) (hs : s.length ≤ 140737488351232) (hr : rightB n = true) (hi1 : 0 ≤ i) (hi2 : i < 8) (hh : handleB h = true) (hnm : isName s = false) :
    Calls Try.prog 92 #[.slice A n c, .int .i64 i, rootV s h] w fun e w' => e = .returned (.tuple #[.slice none 0 0, .iface 78 (.int .i64 2)]) ∧ Below w.heap.size w w' := by
  have hone : handleB 1 = true := by decide
  have hmk := mk_bytes 11 11 rfl (by omega)
  have hB1 := ((Below.refl w.heap.size w).alloc (Nat.le_refl _) (.cells #[sv s, .int .i64 h] 111)).alloc (by simp) (.cells (zeroRow 11) 5)
  have hhb := handleB_true.1 hh
  have h0 : (h == 0) = false := by simp; omega
  clear hhb
  have hcase : s.isEmpty = false ∨ s = [] := by
    cases s with
    | nil => right; rfl
    | cons x r => left; rfl
  rcases hcase with hs0 | rfl
  all_goals
    go_enter Try.func92, Try.ntmps92
    go_wp2_with fail
    refine (check_ok _ _ _ _ _ hr hone).mono ?_
    rintro e w' ⟨rfl, rfl⟩
    go_wp2_with fail
    refine (handle_any _ _).mono ?_
    rintro e w' ⟨rfl, rfl⟩
    rw [hh]
    go_wp2_with fail
    refine (putName_no _ _ hs hnm).mono ?_
    rintro e w1 ⟨rfl, hb⟩
    go_wp2
    go_ret2
    exact ⟨rfl, hB1.trans (hb.mono hB1.size)⟩

/-- the eleven bytes of a root -/
def rootB (s : Bytes) (h : Int) : Bytes := nameB s ++ [0, 0, UInt8.ofNat h.toNat]
set_option maxRecDepth 100000 in
set_option maxHeartbeats 1000000 in
theorem root_ok (A : Option Addr) (n c : Nat) (l : Bytes) (i : Int) (s : Bytes) (h : Int) (w : World) (hn : l.length = n) (hrd : Rd w A l) (hr : rightB n = true) (hi1 : 0 ≤ i) (hi2 : i < 8) (hh : handleB h = true) (hnm : isName s = true) :
    Calls Try.prog 92 #[.slice A n c, .int .i64 i, rootV s h] w fun e w' => ∃ g cap, e = .returned (.tuple #[.slice (some ⟨g, 0, none⟩) n cap, .nilIface]) ∧ w.heap.size ≤ g ∧ Row w' 5 g cap (splice l (rootO i) (rootB s h)) ∧ Below w.heap.size w w' := by
  have hone : handleB 1 = true := by decide
  have hmk := mk_bytes 11 11 rfl (by omega)
  have hB1 := ((Below.refl w.heap.size w).alloc (Nat.le_refl _) (.cells #[sv s, .int .i64 h] 111)).alloc (by simp) (.cells (zeroRow 11) 5)
  have hhb := handleB_true.1 hh
  have hrb := rightB_true.1 hr
  have h8 := nameB_len s hnm
  have hs0 : s.isEmpty = false := by
    cases s with
    | nil => cases hnm
    | cons x r => rfl
  obtain ⟨p0, off0, rfl, hlt0⟩ := hrd.lt (by omega)
  obtain ⟨k, rfl⟩ := Int.eq_ofNat_of_zero_le (show 0 ≤ h by omega)
  go_enter Try.func92, Try.ntmps92
  go_wp2_with fail
  refine (check_ok _ _ _ _ _ hr hone).mono ?_
  rintro e w' ⟨rfl, rfl⟩
  go_wp2_with fail
  refine (handle_any _ _).mono ?_
  rintro e w' ⟨rfl, rfl⟩
  rw [hh]
  go_wp2_with fail
  refine (putName_ok s _ hnm).mono ?_
  rintro e w1 ⟨gs, rfl, hgs, hsrow, hb⟩
  have hx0 := row_zeros (w.alloc (.cells #[sv s, .int .i64 k] 111)) 11 (by simp [maxLen])
  have hc1 : ((w.alloc (.cells #[sv s, .int .i64 k] 111)).alloc (.cells (zeroRow 11) 5)).cell? ⟨w.heap.size, 1, none⟩ = some (.int .i64 k) := by
    rw [World.cell?_alloc_lt _ _ _ (by simp)]; exact World.cell?_alloc_mark w _ _ (0, 0) 1
  have hBB : Below w.heap.size w w1 := hB1.trans (hb.mono hB1.size)
  have hx1 := hx0.below hb hx0.lt
  have hc2 := (hb.cell (p := ⟨w.heap.size, 1, none⟩) (by simp; omega)).trans hc1
  simp only [World.size_alloc] at hx1 hgs
  clear hx0 hc1 hB1 hb hmk
  obtain ⟨cur, hcur, _, _, hcs, _⟩ := id hx1
  have hcopy := fun ty => run_copy_rd w1 (w.heap.size + 1) 0 11 11 8 8 8 (some ⟨gs, 0, none⟩) (nameB s) cur 5 hcur h8 hsrow.rd rfl (by omega) ty
  rw [List.take_of_length_le (by omega)] at hcopy
  have hx2 := hx1.set_ 0 (nameB s) (by simp; omega) cur hcur
  have hBB2 : Below w.heap.size w (w1.setRow (w.heap.size + 1) (setB cur 0 ((nameB s).map bv))) := below_setRow hBB (by omega) _
  have hc3 : (w1.setRow (w.heap.size + 1) (setB cur 0 ((nameB s).map bv))).cell? ⟨w.heap.size, 1, none⟩ = some (.int .i64 k) := by
    rw [cell_setRow_other _ _ _ _ (by simp)]; exact hc2
  rw [splice_zeros] at hx2
  generalize w1.setRow (w.heap.size + 1) (setB cur 0 ((nameB s).map bv)) = w2 at *
  clear hcur hcs hx1 hBB hc2 hsrow
  obtain ⟨cur, hcur, _, _, hcs, _⟩ := id hx2
  have hcell : w2.cell? ⟨w.heap.size + 1, 10, none⟩ = some (cur[10]'(by omega)) := by
    rw [cell_of_row w2 _ _ _ _ _ hcur]; exact Array.getElem?_eq_getElem (by omega)
  have hfr : w2.frozen? ⟨w.heap.size + 1, 10, none⟩ = false := frozen_of_row w2 _ _ _ _ hcur
  generalize cur[10]'(by omega) = u0 at hcell
  have hst : w2.setCell ⟨w.heap.size + 1, 10, none⟩ (.int .u8 (k : Int)) = w2.setRow (w.heap.size + 1) (setB cur 10 ([UInt8.ofNat k].map bv)) := by
    rw [setCell_eq_setRow w2 _ _ _ _ _ _ hcur]
    have := setB_snoc cur 10 [] (bv (UInt8.ofNat k)) (by simp; omega)
    rw [setB_nil] at this
    simp only [List.length_nil, Nat.add_zero, List.nil_append] at this
    rw [List.map_cons, List.map_nil, ← this]
    congr 2
    simp only [bv, UInt8.toNat_ofNat']
    congr 1
    omega
  have hxr : Row (w2.setCell ⟨w.heap.size + 1, 10, none⟩ (.int .u8 (k : Int))) 5 (w.heap.size + 1) 11 (splice (nameB s ++ List.replicate (11 - (nameB s).length) 0) 10 [UInt8.ofNat k]) := by
    rw [hst]; exact hx2.set_ 10 _ (by simp; omega) cur hcur
  have hB1 : Below w.heap.size w (w2.setCell ⟨w.heap.size + 1, 10, none⟩ (.int .u8 (k : Int))) := hBB2.setCell (by simp) _
  have hXL : splice (nameB s ++ List.replicate (11 - (nameB s).length) 0) 10 [UInt8.ofNat k] = rootB s k := by
    have := splice_app (nameB s ++ [0, 0]) [0] [] [UInt8.ofNat k] rfl
    simp only [List.append_nil, List.length_append, h8] at this
    rw [h8, show List.replicate (11 - 8) (0 : UInt8) = [0, 0] ++ [0] from rfl, ← List.append_assoc]
    rw [show 8 + [(0 : UInt8), 0].length = 10 from rfl] at this
    rw [this]
    simp [rootB]
  have hxl : (rootB s (k : Int)).length = 11 := by simp [rootB, h8]
  rw [hXL] at hxr
  have hc3' := hc3
  clear hst hXL hBB2 hc3' hcur hcs hx2
  go_wp2_with fail
  clear hcell hfr
  generalize w2.setCell ⟨w.heap.size + 1, 10, none⟩ (.int .u8 (k : Int)) = w3 at *
  generalize w.heap.size + 1 = xb at *
  generalize hXL : rootB s (k : Int) = xl at *
  have HXL := Hidden.mk hXL
  clear hXL
  refine (clone_some _ _ _ l _ hn (by omega) (hrd.below hB1)).mono ?_
  rintro e w2 ⟨g, cap, rfl, hg, hrow, hb2⟩
  have hB2 : Below w.heap.size w w2 := hB1.trans (hb2.mono hB1.size)
  have hgw : w.heap.size ≤ g := Nat.le_trans hB1.size hg
  have hxr2 := hxr.below hb2 hxr.lt
  have hlc := hrow.le
  clear hxr hb2 hB1 hg
  go_wp2_with fail
  refine (rawRoot_any (some ⟨g, 0, none⟩) n cap i _ hi1 hi2 (by omega) (by omega)).mono ?_
  rintro e w3 ⟨rfl, rfl⟩
  simp only [Option.map_some, Addr.add_lit, Nat.zero_add]
  have hro : rootO i + 11 ≤ 288 := by unfold rootO; omega
  generalize hO : rootO i = o at *
  have HO := Hidden.mk hO
  clear hO
  obtain ⟨cur, hcur, _, _, hcs, _⟩ := id hrow
  have hcopy := fun ty => run_copy_rd w2 g o 11 (cap - o) 11 11 11 (some ⟨xb, 0, none⟩) xl cur 5 hcur hxl hxr2.rd rfl (by omega) ty
  rw [List.take_of_length_le (by omega)] at hcopy
  have hrow4 := hrow.set_ o xl (by omega) cur hcur
  have hB4 : Below w.heap.size w (w2.setRow g (setB cur o (xl.map bv))) := below_setRow hB2 hgw _
  generalize w2.setRow g (setB cur o (xl.map bv)) = w4 at *
  clear hcur hcs hxr2 hrow hB2
  go_wp2_with fail
  go_ret2
  exact ⟨g, cap, rfl, hgw, by rw [HO.out, HXL.out]; exact hrow4, hB4⟩
end Go.Proofs.Ytibogmoemohngaa
