/- The contract of image.Put. -/
import Derived.Test.YtibogmoemohngaaImg1
namespace Go.Proofs.Ytibogmoemohngaa
open Go.RowKit

theorem splice_join (l x y : Bytes) (o : Nat) (h : o + x.length + y.length ≤ l.length) : splice (splice l o x) (o + x.length) y = splice l o (x ++ y) := by
  unfold splice
  have h1 : (l.take o).length = o := by simp; omega
  rw [List.take_append, h1, List.take_of_length_le (by omega), List.take_append, show o + x.length - o = x.length from by omega, List.take_of_length_le (Nat.le_refl _), Nat.sub_self, List.take_zero, List.append_nil]
  rw [List.drop_append, h1, List.drop_of_length_le (by omega), List.nil_append, List.drop_append, List.drop_of_length_le (by omega), List.nil_append, List.drop_drop]
  simp only [List.append_assoc, List.length_append]
  congr 4
  omega
/-- the five bytes of an entry -/
def entB (at_ len tag : Nat) : Bytes := UInt8.ofNat (tag + 1) :: (numB at_ 2 ++ numB len 2)
theorem entB_len (at_ len tag : Nat) : (entB at_ len tag).length = 5 := by simp [entB, numB_length]
def entO (h : Int) : Nat := (5 * (h - 1)).toNat

theorem raw_any (A : Option Addr) (n c : Nat) (h : Int) (w : World) (h1 : 1 ≤ h) (h2 : h ≤ 40) (hn : 200 ≤ n) (hc : n ≤ c) :
    Calls Try.prog 95 #[.slice A n c, .int .i64 h] w fun e w' => e = .returned (.slice (A.map (·.add (entO h))) 5 (c - entO h)) ∧ w = w' := by
  obtain ⟨k, rfl⟩ : ∃ k : Nat, h = (k : Int) + 1 := ⟨(h - 1).toNat, by omega⟩
  have he : Hidden (entO ((k : Int) + 1) = 5 * k) := ⟨by unfold entO; omega⟩
  have hk : k < 40 := by omega
  go_enter Try.func95, Try.ntmps95
  go_wp2
  go_ret
  rw [he.out]
  refine ⟨?_, rfl⟩
  show Ending.returned (.slice (A.map (·.add (k * 5))) ((k + 1) * 5 - k * 5) (c - k * 5)) = _
  rw [Nat.mul_comm k 5, show (k + 1) * 5 - 5 * k = 5 from by omega]

/-- an entry as a value -/
abbrev entV (h at_ len tag : Int) : Value := .agg #[.int .i64 h, .int .i64 at_, .int .i64 len, .int .i64 tag]
/-- a block of an entry's four cells -/
structure EntAt (w : World) (p : Nat) (h at_ len tag : Int) : Prop where
  c0 : w.cell? ⟨p, 0, none⟩ = some (.int .i64 h)
  c1 : w.cell? ⟨p, 1, none⟩ = some (.int .i64 at_)
  c2 : w.cell? ⟨p, 2, none⟩ = some (.int .i64 len)
  c3 : w.cell? ⟨p, 3, none⟩ = some (.int .i64 tag)
theorem EntAt.new (w : World) (h at_ len tag : Int) (t : TypeId) : EntAt (w.alloc (.cells #[.int .i64 h, .int .i64 at_, .int .i64 len, .int .i64 tag] t)) w.heap.size h at_ len tag :=
  ⟨World.cell?_alloc_mark w _ t (0, 0) 0, World.cell?_alloc_mark w _ t (0, 0) 1, World.cell?_alloc_mark w _ t (0, 0) 2, World.cell?_alloc_mark w _ t (0, 0) 3⟩
theorem EntAt.keep {w w' : World} {p : Nat} {h at_ len tag : Int} (e : EntAt w p h at_ len tag) (hk : w'.heap[p]? = w.heap[p]?) : EntAt w' p h at_ len tag :=
  ⟨(World.cell?_of_block (w := w) hk).trans e.c0, (World.cell?_of_block (w := w) hk).trans e.c1, (World.cell?_of_block (w := w) hk).trans e.c2, (World.cell?_of_block (w := w) hk).trans e.c3⟩

theorem iput_e3 (A : Option Addr) (n c : Nat) (h at_ len tag : Int) (w : World) (hr : rightB n = false) :
    Calls Try.prog 94 #[.slice A n c, entV h at_ len tag] w fun e w' => e = .returned (.tuple #[.slice none 0 0, .iface 78 (.int .i64 3)]) ∧ Below w.heap.size w w' := by
  go_enter Try.func94, Try.ntmps94
  go_wp2_with fail
  refine (check_e3 _ _ _ _ _ hr).mono ?_
  rintro e w' ⟨rfl, rfl⟩
  go_wp2
  go_ret2
  exact ⟨rfl, (Below.refl _ _).alloc (Nat.le_refl _) _⟩
theorem iput_e1 (A : Option Addr) (n c : Nat) (h at_ len tag : Int) (w : World) (hr : rightB n = true) (hh : handleB h = false ∨ tagB tag = false ∨ lenB len = false) :
    Calls Try.prog 94 #[.slice A n c, entV h at_ len tag] w fun e w' => e = .returned (.tuple #[.slice none 0 0, .iface 78 (.int .i64 1)]) ∧ Below w.heap.size w w' := by
  cases hx : handleB h with
  | false =>
    clear hh
    go_enter Try.func94, Try.ntmps94
    go_wp2_with fail
    refine (check_e1 _ _ _ _ _ hr hx).mono ?_
    rintro e w' ⟨rfl, rfl⟩
    go_wp2
    go_ret2
    exact ⟨rfl, (Below.refl _ _).alloc (Nat.le_refl _) _⟩
  | true =>
    cases hy : tagB tag with
    | false =>
      clear hh
      go_enter Try.func94, Try.ntmps94
      go_wp2_with fail
      refine (check_ok _ _ _ _ _ hr hx).mono ?_
      rintro e w' ⟨rfl, rfl⟩
      go_wp2_with fail
      refine (tag_any _ _).mono ?_
      rintro e w' ⟨rfl, rfl⟩
      rw [hy]
      go_wp2
      go_ret2
      exact ⟨rfl, (Below.refl _ _).alloc (Nat.le_refl _) _⟩
    | true =>
      have hz : lenB len = false := by simpa [hx, hy] using hh
      clear hh
      go_enter Try.func94, Try.ntmps94
      go_wp2_with fail
      refine (check_ok _ _ _ _ _ hr hx).mono ?_
      rintro e w' ⟨rfl, rfl⟩
      go_wp2_with fail
      refine (tag_any _ _).mono ?_
      rintro e w' ⟨rfl, rfl⟩
      rw [hy]
      go_wp2_with fail
      refine (len_any _ _).mono ?_
      rintro e w' ⟨rfl, rfl⟩
      rw [hz]
      go_wp2
      go_ret2
      exact ⟨rfl, (Below.refl _ _).alloc (Nat.le_refl _) _⟩
theorem iput_e3w (A : Option Addr) (n c : Nat) (h at_ len tag : Int) (w : World) (hr : rightB n = true) (hx : handleB h = true) (hy : tagB tag = true) (hz : lenB len = true) (hw : withinB n at_ len = false) :
    Calls Try.prog 94 #[.slice A n c, entV h at_ len tag] w fun e w' => e = .returned (.tuple #[.slice none 0 0, .iface 78 (.int .i64 3)]) ∧ Below w.heap.size w w' := by
  have hrb := rightB_true.1 hr
  have hlb := lenB_true.1 hz
  go_enter Try.func94, Try.ntmps94
  go_wp2_with fail
  refine (check_ok _ _ _ _ _ hr hx).mono ?_
  rintro e w' ⟨rfl, rfl⟩
  go_wp2_with fail
  refine (tag_any _ _).mono ?_
  rintro e w' ⟨rfl, rfl⟩
  rw [hy]
  go_wp2_with fail
  refine (len_any _ _).mono ?_
  rintro e w' ⟨rfl, rfl⟩
  rw [hz]
  go_wp2_with fail
  refine (within_any _ _ _ _ (by omega) (by omega) (by omega) (by omega)).mono ?_
  rintro e w1 ⟨rfl, hb⟩
  rw [hw]
  go_wp2
  go_ret2
  exact ⟨rfl, ((Below.refl _ _).alloc (Nat.le_refl _) _).trans (hb.mono (by simp))⟩

/-- an image with an entry -/
def putEnt (l : Bytes) (h at_ len tag : Int) : Bytes := splice l (entO h) (entB at_.toNat len.toNat tag.toNat)
theorem putEnt_len (l : Bytes) (h at_ len tag : Int) (h1 : 1 ≤ h) (h2 : h ≤ 40) (hl : 200 ≤ l.length) : (putEnt l h at_ len tag).length = l.length := by
  unfold putEnt; refine splice_len _ _ _ ?_; rw [entB_len]; unfold entO; omega

set_option maxRecDepth 100000 in
set_option maxHeartbeats 1000000 in
theorem iput_ok (A : Option Addr) (n c : Nat) (l : Bytes) (h at_ len tag : Int) (w : World) (hn : l.length = n) (_hnc : n ≤ c) (hrd : Rd w A l) (hr : rightB n = true) (hx : handleB h = true) (hy : tagB tag = true) (hz : lenB len = true) (hw : withinB n at_ len = true) :
    Calls Try.prog 94 #[.slice A n c, entV h at_ len tag] w fun e w' => ∃ g cap, e = .returned (.tuple #[.slice (some ⟨g, 0, none⟩) n cap, .nilIface]) ∧ w.heap.size ≤ g ∧ Row w' 5 g cap (putEnt l h at_ len tag) ∧ Below w.heap.size w w' := by
  have hrb := rightB_true.1 hr
  have hlb := lenB_true.1 hz
  have hhb := handleB_true.1 hx
  have htb := tagB_true.1 hy
  have hwb := withinB_true.1 hw
  obtain ⟨a, rfl⟩ := Int.eq_ofNat_of_zero_le (show 0 ≤ at_ by omega)
  obtain ⟨m, rfl⟩ := Int.eq_ofNat_of_zero_le (show 0 ≤ len by omega)
  obtain ⟨t, rfl⟩ := Int.eq_ofNat_of_zero_le htb.1
  have heo : entO h + 5 ≤ 200 := by unfold entO; omega
  have hB0 : Below w.heap.size w (w.alloc (.cells #[.int .i64 h, .int .i64 a, .int .i64 m, .int .i64 t] 49)) := (Below.refl _ _).alloc (Nat.le_refl _) _
  have he0 := EntAt.new w h a m t 49
  obtain ⟨p0, off0, rfl, hlt0⟩ := hrd.lt (by omega)
  go_enter Try.func94, Try.ntmps94
  go_wp2_with fail
  refine (check_ok _ _ _ _ _ hr hx).mono ?_
  rintro e w' ⟨rfl, rfl⟩
  go_wp2_with fail
  refine (tag_any _ _).mono ?_
  rintro e w' ⟨rfl, rfl⟩
  rw [hy]
  go_wp2_with fail
  refine (len_any _ _).mono ?_
  rintro e w' ⟨rfl, rfl⟩
  rw [hz]
  go_wp2_with fail
  refine (within_any _ _ _ _ (by omega) (by omega) (by omega) (by omega)).mono ?_
  rintro e w1 ⟨rfl, hb1⟩
  rw [hw]
  have hB1 : Below w.heap.size w w1 := hB0.trans (hb1.mono hB0.size)
  have he1 := he0.keep (hb1.block w.heap.size (by simp))
  clear he0 hb1 hB0
  go_wp2_with fail
  refine (clone_some _ _ _ l _ hn (by omega) (hrd.below hB1)).mono ?_
  rintro e w2 ⟨g, cap, rfl, hg, hrow, hb2⟩
  have hB2 : Below w.heap.size w w2 := hB1.trans (hb2.mono hB1.size)
  have hlt1 : w.heap.size < w1.heap.size := block_lt_of_cell he1.c0
  have he2 := he1.keep (hb2.block w.heap.size hlt1)
  have hgw : w.heap.size ≤ g := Nat.le_trans hB1.size hg
  have hgne : w.heap.size ≠ g := by omega
  have hlc := hrow.le
  have hc0 := he2.c0
  clear he1 hb2 hB1
  go_wp2_with fail
  refine (raw_any (some ⟨g, 0, none⟩) n cap h _ hhb.1 hhb.2 (by omega) (by omega)).mono ?_
  rintro e w3 ⟨rfl, rfl⟩
  simp only [Option.map_some, Addr.add_lit, Nat.zero_add]
  have hrow' := hrow
  obtain ⟨cur, hcur, hcl, hcm, hcs, hct⟩ := hrow'
  generalize ho : entO h = o at *
  have HO := Hidden.mk ho
  clear ho
  have hcell : w2.cell? ⟨g, o, none⟩ = some (cur[o]'(by omega)) := by
    rw [cell_of_row w2 g _ _ _ _ hcur]; exact Array.getElem?_eq_getElem (by omega)
  have hfr : w2.frozen? ⟨g, o, none⟩ = false := frozen_of_row w2 g _ _ _ hcur
  generalize cur[o]'(by omega) = u0 at hcell
  have hc3 := he2.c3
  have hst : w2.setCell ⟨g, o, none⟩ (.int .u8 ((t : Int) + 1)) = w2.setRow g (setB cur o ([UInt8.ofNat (t + 1)].map bv)) := by
    rw [setCell_eq_setRow w2 g _ _ _ _ _ hcur]
    have := setB_snoc cur o [] (bv (UInt8.ofNat (t + 1))) (by simp; omega)
    rw [setB_nil] at this
    simp only [List.length_nil, Nat.add_zero, List.nil_append] at this
    rw [List.map_cons, List.map_nil, ← this]
    congr 2
    simp only [bv, UInt8.toNat_ofNat']
    congr 1
    omega
  have he3 : EntAt (w2.setCell ⟨g, o, none⟩ (.int .u8 ((t : Int) + 1))) w.heap.size h a m t := by rw [hst]; exact he2.keep (setRow_other w2 g _ _ hgne)
  have hB3 : Below w.heap.size w (w2.setCell ⟨g, o, none⟩ (.int .u8 ((t : Int) + 1))) := hB2.setCell hgw _
  have hrow3 : Row (w2.setCell ⟨g, o, none⟩ (.int .u8 ((t : Int) + 1))) 5 g cap (splice l o [UInt8.ofNat (t + 1)]) := by rw [hst]; exact hrow.set_ o _ (by simp; omega) cur hcur
  have hw3 : ∃ w3, w2.setCell ⟨g, o, none⟩ (.int .u8 ((t : Int) + 1)) = w3 := ⟨_, rfl⟩
  have hc1 := he3.c1
  clear hst
  go_wp2_with fail
  generalize w2.setCell ⟨g, o, none⟩ (.int .u8 ((t : Int) + 1)) = w3 at *
  clear hcell hfr hcur hcs hct hcl hcm hrow hB2 he2 hc0 hc1 hc3 hw3
  obtain ⟨cur3, hcur3, _, hcm3, hcs3, _⟩ := id hrow3
  refine (set_any g o 5 (cap - o) 5 cur3 1 a 2 _ hcur3 (by omega) (by omega) (by simp [maxLen]) (by omega)).mono ?_
  rintro e w4 ⟨rfl, hw4⟩
  have hl3 : (splice l o [UInt8.ofNat (t + 1)]).length = l.length := splice_len _ _ _ (by simp; omega)
  have hrow4 := hrow3.set_ (o + 1) (numB a 2) (by rw [hl3, numB_length]; omega) cur3 hcur3
  rw [← hw4] at hrow4
  have he4 : EntAt w4 w.heap.size h a m t := by rw [hw4]; exact he3.keep (setRow_other w3 g _ _ hgne)
  have hB4 : Below w.heap.size w w4 := by rw [hw4]; exact below_setRow hB3 hgw _
  have hc2 := he4.c2
  clear hw4 hcur3 hcm3 hcs3 he3 hB3 hrow3
  go_wp2_with fail
  clear hc2
  obtain ⟨cur4, hcur4, _, hcm4, hcs4, _⟩ := id hrow4
  refine (set_any g o 5 (cap - o) 5 cur4 3 m 2 _ hcur4 (by omega) (by omega) (by simp [maxLen]) (by omega)).mono ?_
  rintro e w5 ⟨rfl, rfl⟩
  have hl4 : (splice (splice l o [UInt8.ofNat (t + 1)]) (o + 1) (numB a 2)).length = l.length := by rw [splice_len _ _ _ (by rw [hl3, numB_length]; omega), hl3]
  have hrow5 := hrow4.set_ (o + 3) (numB m 2) (by rw [hl4, numB_length]; omega) cur4 hcur4
  have hB5 : Below w.heap.size w (w4.setRow g (setB cur4 (o + 3) ((numB m 2).map bv))) := below_setRow hB4 hgw _
  generalize w4.setRow g (setB cur4 (o + 3) ((numB m 2).map bv)) = w5 at *
  clear hcur4 hcs4
  go_wp2_with fail
  go_ret2
  refine ⟨g, cap, rfl, hgw, ?_, hB5⟩
  have e1 := splice_join l [UInt8.ofNat (t + 1)] (numB a 2) o (by simp [numB_length]; omega)
  have e2 := splice_join l ([UInt8.ofNat (t + 1)] ++ numB a 2) (numB m 2) o (by simp [numB_length]; omega)
  simp only [List.length_append, List.length_cons, List.length_nil, numB_length] at e1 e2
  have : putEnt l h a m t = splice l o (([UInt8.ofNat (t + 1)] ++ numB a 2) ++ numB m 2) := by
    unfold putEnt; rw [HO.out]; rfl
  rw [this, ← e2, ← e1]
  exact hrow5

/-- what Put answers, whatever it is handed -/
def PutAns (w w' : World) (n : Nat) (l : Bytes) (h at_ len tag : Int) (v err : Value) : Prop :=
  (∃ k, err = .iface 78 (.int .i64 k)) ∨
  (err = .nilIface ∧ handleB h = true ∧ tagB tag = true ∧ lenB len = true ∧ withinB n at_ len = true ∧ ∃ g cap, v = .slice (some ⟨g, 0, none⟩) n cap ∧ w.heap.size ≤ g ∧ Row w' 5 g cap (putEnt l h at_ len tag))
theorem iput_any (A : Option Addr) (n c : Nat) (l : Bytes) (h at_ len tag : Int) (w : World) (hn : l.length = n) (hnc : n ≤ c) (hrd : Rd w A l) :
    Calls Try.prog 94 #[.slice A n c, entV h at_ len tag] w fun e w' => ∃ v err, e = .returned (.tuple #[v, err]) ∧ Below w.heap.size w w' ∧ PutAns w w' n l h at_ len tag v err := by
  cases hr : rightB n with
  | false => exact (iput_e3 A n c h at_ len tag w hr).mono fun e w' ⟨he, hb⟩ => ⟨_, _, he, hb, .inl ⟨3, rfl⟩⟩
  | true =>
    by_cases hbad : handleB h = false ∨ tagB tag = false ∨ lenB len = false
    · exact (iput_e1 A n c h at_ len tag w hr hbad).mono fun e w' ⟨he, hb⟩ => ⟨_, _, he, hb, .inl ⟨1, rfl⟩⟩
    · have h1 : handleB h = true := by cases hx : handleB h <;> simp_all
      have h2 : tagB tag = true := by cases hx : tagB tag <;> simp_all
      have h3 : lenB len = true := by cases hx : lenB len <;> simp_all
      cases hw : withinB n at_ len with
      | false => exact (iput_e3w A n c h at_ len tag w hr h1 h2 h3 hw).mono fun e w' ⟨he, hb⟩ => ⟨_, _, he, hb, .inl ⟨3, rfl⟩⟩
      | true => exact (iput_ok A n c l h at_ len tag w hn hnc hrd hr h1 h2 h3 hw).mono fun e w' ⟨g, cap, he, hg, hrow, hb⟩ => ⟨_, _, he, hb, .inr ⟨rfl, h1, h2, h3, hw, g, cap, rfl, hg, hrow⟩⟩

/-- is an error nil? -/
def ErrIs (err : Value) (b : Bool) : Prop := (∀ (W : World) (x : Operand), (eqGuard .eql 25 x (.const .nilIface) err .nilIface).run Try.prog W = .ok () W) ∧ (∀ (W : World) (x : Operand), (eqGuard .neq 25 x (.const .nilIface) err .nilIface).run Try.prog W = .ok () W) ∧ (∀ W : World, (binOp .eql 25 err .nilIface).run Try.prog W = .ok (.bool b) W) ∧ (∀ W : World, (binOp .neq 25 err .nilIface).run Try.prog W = .ok (.bool (!b)) W)
theorem errIs_nil : ErrIs .nilIface true := ⟨fun W x => by go_simp, fun W x => by go_simp, fun W => by go_simp, fun W => by go_simp⟩
theorem errIs_some (k : Int) : ErrIs (.iface 78 (.int .i64 k)) false := ⟨fun W x => by go_simp, fun W x => by go_simp, fun W => by go_simp, fun W => by go_simp⟩
theorem PutAns.isNil {w w' : World} {n : Nat} {l : Bytes} {h at_ len tag : Int} {v err : Value} (a : PutAns w w' n l h at_ len tag v err) : ∃ b, ErrIs err b ∧
    (b = true → handleB h = true ∧ tagB tag = true ∧ lenB len = true ∧ withinB n at_ len = true ∧ ∃ g cap, v = .slice (some ⟨g, 0, none⟩) n cap ∧ w.heap.size ≤ g ∧ Row w' 5 g cap (putEnt l h at_ len tag)) := by
  rcases a with ⟨k, rfl⟩ | ⟨rfl, h1⟩
  · exact ⟨false, errIs_some k, fun h => by cases h⟩
  · exact ⟨true, errIs_nil, fun _ => h1⟩
end Go.Proofs.Ytibogmoemohngaa
