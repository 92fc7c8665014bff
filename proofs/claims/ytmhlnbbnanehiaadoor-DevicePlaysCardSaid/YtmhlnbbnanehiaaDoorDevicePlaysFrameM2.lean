/- Contracts and plain laws, put together: Stamp1, Stamp2, RefS, NumLow1, NumBack1, StampRow1, PagesP, DevA, ErrI, Img1, Img2, Img3, DiffP, DiffQ, CheckP, Img4, Chk1, Chk2, Chk4, Img5, RefN, RefP, RefM, RefNm, RefI1, RefI2, RefD1, Rows2, RefD2, RefD3, RefD4, RefD5, RefD6. -/
import Derived.Test.YtmhlnbbnanehiaaDoorDevicePlaysFrameM1
import Derived.Laws.CopyOwn
import Derived.Deep.RegionHeld3
import Derived.Deep.AppendLies
import Derived.Deep.LoopGhost
import Derived.Deep.RegionLaw
import Derived.Deep.DeepCutAuto
import Derived.Deep.CutBlock
import Derived.StillTailTactics
/- The contracts of stamp.Make and bytes.Equal. -/
namespace Go.Proofs.YtmhlnbbnanehiaaDoor
open Go.RowKit

/-- a sector of a stamp and a body -/
def makeB (st : Nat) (b : Bytes) : Bytes := numB st 4 ++ (b ++ List.replicate (24 - b.length) 0) ++ numB st 4
theorem makeB_len (st : Nat) (b : Bytes) (h : b.length ≤ 24) : (makeB st b).length = 32 := by simp [makeB, numB_length]; omega
theorem splice_app (a b c d : Bytes) (h : b.length = d.length) : splice (a ++ (b ++ c)) a.length d = a ++ (d ++ c) := by
  simp only [splice, List.take_left, ← h]
  rw [← List.append_assoc a b c, ← List.length_append, List.drop_left]
theorem makeB_steps (st : Nat) (b : Bytes) (h : b.length ≤ 24) : splice (splice (splice (List.replicate 32 0) 0 (numB st 4)) 4 b) 28 (numB st 4) = makeB st b := by
  have hl := numB_length st 4
  rw [splice_zeros, hl, show 32 - 4 = b.length + ((24 - b.length) + 4) from by omega, ← List.replicate_append_replicate]
  have e1 := splice_app (numB st 4) (List.replicate b.length 0) (List.replicate ((24 - b.length) + 4) 0) b (by simp)
  rw [hl] at e1
  rw [e1, ← List.replicate_append_replicate]
  have e2 := splice_app (numB st 4 ++ (b ++ List.replicate (24 - b.length) 0)) (List.replicate 4 0) [] (numB st 4) (by simp [hl])
  have hlen : (numB st 4 ++ (b ++ List.replicate (24 - b.length) 0)).length = 28 := by simp [hl]; omega
  rw [hlen] at e2
  simp only [List.append_nil] at e2
  rw [← List.append_assoc b, ← List.append_assoc (numB st 4), e2, makeB]

theorem make_e1 (st : Int) (A : Option Addr) (n c : Nat) (w : World) (h : st < 1 ∨ 4294967295 < st) :
    Calls Tryd.prog 59 #[.int .i64 st, .slice A n c] w fun e w' => e = .returned (.tuple #[.slice none 0 0, .iface 103 (.int .i64 1)]) ∧ w = w' := by
  by_cases h1 : st < 1
  · clear h
    go_enter Tryd.func59, Tryd.ntmps59
    go_wp2
    go_ret2
    exact ⟨rfl, rfl⟩
  · have h2 : 4294967295 < st := by omega
    clear h
    go_enter Tryd.func59, Tryd.ntmps59
    go_wp2
    go_ret2
    exact ⟨rfl, rfl⟩
theorem make_e4 (st : Int) (A : Option Addr) (n c : Nat) (w : World) (h1 : 1 ≤ st) (h2 : st ≤ 4294967295) (hn : 24 < n) :
    Calls Tryd.prog 59 #[.int .i64 st, .slice A n c] w fun e w' => e = .returned (.tuple #[.slice none 0 0, .iface 103 (.int .i64 4)]) ∧ w = w' := by
  go_enter Tryd.func59, Tryd.ntmps59
  go_wp2
  go_ret2
  exact ⟨rfl, rfl⟩
set_option maxRecDepth 100000 in
theorem make_ok (st : Int) (A : Option Addr) (n c : Nat) (b : Bytes) (w : World) (hbn : b.length = n) (h1 : 1 ≤ st) (h2 : st ≤ 4294967295) (hn : n ≤ 24) (hr : Rd w A b) :
    Calls Tryd.prog 59 #[.int .i64 st, .slice A n c] w fun e w' => ∃ g, e = .returned (.tuple #[.slice (some ⟨g, 0, none⟩) 32 32, .nilIface]) ∧ w.heap.size ≤ g ∧ Row w' 5 g 32 (makeB st.toNat b) ∧ Below w.heap.size w w' := by
  obtain ⟨s, rfl⟩ := Int.eq_ofNat_of_zero_le (show 0 ≤ st by omega)
  have hmk := mk_bytes 32 32 rfl (by omega) w
  have hz := row_zeros w 32 (by simp [maxLen])
  have hblk : (w.alloc (.cells (zeroRow 32) 5)).heap[w.heap.size]? = some (.cells (zeroRow 32) 5 (0, 0)) := heap_alloc_new w _
  have hB1 : Below w.heap.size w (w.alloc (.cells (zeroRow 32) 5)) := (Below.refl _ _).alloc (Nat.le_refl _) _
  have hl := numB_length s 4
  go_enter Tryd.func59, Tryd.ntmps59
  go_wp2_with fail
  refine (set_any w.heap.size 0 32 32 5 (zeroRow 32) 0 s 4 _ hblk (by omega) (by omega) (by simp [maxLen]) (by rw [zeroRow_size]; omega)).mono ?_
  rintro e w1 ⟨rfl, hw1⟩
  have hrow1 := hz.set_ 0 (numB s 4) (by simp [hl]) _ hblk
  have hblk1 : w1.heap[w.heap.size]? = some (.cells (setB (zeroRow 32) 0 ((numB s 4).map bv)) 5 (0, 0)) := by rw [hw1]; exact setRow_heap _ _ _ _ _ _ hblk
  rw [Nat.zero_add] at hw1
  rw [← hw1] at hrow1
  have hB2 : Below w.heap.size w w1 := by rw [hw1]; exact below_setRow hB1 (Nat.le_refl _) _
  have hsz1 : (setB (zeroRow 32) 0 ((numB s 4).map bv)).size = 32 := by rw [setB_size _ _ _ (by simp [hl, zeroRow_size]), zeroRow_size]
  generalize setB (zeroRow 32) 0 ((numB s 4).map bv) = cur1 at hblk1 hsz1
  clear hw1 hmk hz hblk hB1
  have hcopy := fun ty => run_copy_rd w1 w.heap.size 4 28 28 n c n A b cur1 5 hblk1 hbn (hr.below hB2) (Nat.min_eq_left (by omega)).symm (by omega) ty
  rw [List.take_of_length_le (by omega)] at hcopy
  have hrow2 := hrow1.set_ 4 b (by rw [splice_len _ _ _ (by simp [hl])]; simp; omega) _ hblk1
  have hblk2 := setRow_heap w1 w.heap.size cur1 (setB cur1 4 (b.map bv)) 5 (0, 0) hblk1
  have hB3 : Below w.heap.size w (w1.setRow w.heap.size (setB cur1 4 (b.map bv))) := below_setRow hB2 (Nat.le_refl _) _
  have hsz2 : (setB cur1 4 (b.map bv)).size = 32 := by rw [setB_size _ _ _ (by simp; omega), hsz1]
  generalize w1.setRow w.heap.size (setB cur1 4 (b.map bv)) = w2 at hcopy hrow2 hblk2 hB3
  generalize setB cur1 4 (b.map bv) = cur2 at hblk2 hsz2
  go_wp2_with fail
  refine (set_any w.heap.size 0 32 32 5 cur2 28 s 4 _ hblk2 (by omega) (by omega) (by simp [maxLen]) (by omega)).mono ?_
  rintro e w3 ⟨rfl, rfl⟩
  go_wp2_with fail
  go_ret2
  refine ⟨_, rfl, Nat.le_refl _, ?_, below_setRow hB3 (Nat.le_refl _) _⟩
  have hrow3 := hrow2.set_ 28 (numB s 4) (by rw [splice_len _ _ _ (by rw [splice_len _ _ _ (by simp [hl])]; simp; omega), splice_len _ _ _ (by simp [hl])]; simp [hl]) _ hblk2
  rw [makeB_steps s b (by omega)] at hrow3
  simpa using hrow3

/-- bytes.Equal -/
theorem equal_any (A B : Option Addr) (n m c d : Nat) (a b : Bytes) (w : World) (hn : a.length = n) (hm : b.length = m) (ha : Rd w A a) (hb : Rd w B b) :
    Calls Tryd.prog 82 #[.slice A n c, .slice B m d] w fun e w' => e = .returned (.bool (a == b)) ∧ w = w' := by
  have c1 := conv_text w A n c a hn ha
  have c2 := conv_text w B m d b hm hb
  go_enter Tryd.func82, Tryd.ntmps82
  go_wp2
  go_ret
  exact ⟨rfl, rfl⟩
end Go.Proofs.YtmhlnbbnanehiaaDoor
/- The contracts of stamp.Open and vaultref1.Zero. -/
namespace Go.Proofs.YtmhlnbbnanehiaaDoor
open Go.RowKit

theorem open_e3 (A : Option Addr) (n c : Nat) (w : World) (h : n ≠ 32) :
    Calls Tryd.prog 92 #[.slice A n c] w fun e w' => e = .returned (.tuple #[.int .i64 0, .slice none 0 0, .iface 103 (.int .i64 3)]) ∧ w = w' := by
  have h' : ((n : Int) != 32) = true := by simp; omega
  clear h
  go_enter Tryd.func92, Tryd.ntmps92
  go_wp2
  go_ret3
  exact ⟨rfl, rfl⟩
def stampOf (l : Bytes) : Nat := ofB (l.take 4)
def bodyOf (l : Bytes) : Bytes := (l.drop 4).take 24
theorem open_e6 (A : Option Addr) (c : Nat) (l : Bytes) (w : World) (hl : l.length = 32) (hc : 32 ≤ c) (hr : Rd w A l) (hne : l.take 4 ≠ l.drop 28) :
    Calls Tryd.prog 92 #[.slice A 32 c] w fun e w' => e = .returned (.tuple #[.int .i64 0, .slice none 0 0, .iface 103 (.int .i64 6)]) ∧ ∃ n, w' = w.drewN n := by
  have hr1 := hr.take 4 (by omega)
  have hr2 := hr.cut 28 4 (by omega)
  rw [List.take_of_length_le (by simp; omega)] at hr2
  have hb : (l.take 4 == l.drop 28) = false := by simpa using hne
  have HB := Hidden.mk hb
  clear hb hne
  go_enter Tryd.func92, Tryd.ntmps92
  go_wp2_with fail
  go_quiet (fail)
  go_wp2_with fail
  refine (of_any _ _ _ (l.take 4) _ (by simp; omega) (by omega) (hr1.drewN _)).mono ?_
  rintro e w1 ⟨rfl, rfl⟩
  go_wp2_with fail
  refine (equal_any _ _ _ _ _ _ (l.take 4) (l.drop 28) _ (by simp; omega) (by simp; omega) (hr1.drewN _) (hr2.drewN _)).mono ?_
  rintro e w1 ⟨rfl, rfl⟩
  rw [HB.out]
  go_wp2_with fail
  go_ret3
  exact ⟨rfl, _, rfl⟩
theorem open_e5 (A : Option Addr) (c : Nat) (l : Bytes) (w : World) (hl : l.length = 32) (hc : 32 ≤ c) (hr : Rd w A l) (he : l.take 4 = l.drop 28) (h0 : stampOf l = 0) :
    Calls Tryd.prog 92 #[.slice A 32 c] w fun e w' => e = .returned (.tuple #[.int .i64 0, .slice none 0 0, .iface 103 (.int .i64 5)]) ∧ ∃ n, w' = w.drewN n := by
  have hr1 := hr.take 4 (by omega)
  have hr2 := hr.cut 28 4 (by omega)
  rw [List.take_of_length_le (by simp; omega)] at hr2
  have hb : (l.take 4 == l.drop 28) = true := by simpa using he
  have HB := Hidden.mk hb
  have H0 := Hidden.mk h0
  clear hb he h0
  go_enter Tryd.func92, Tryd.ntmps92
  go_wp2_with fail
  go_quiet (fail)
  go_wp2_with fail
  refine (of_any _ _ _ (l.take 4) _ (by simp; omega) (by omega) (hr1.drewN _)).mono ?_
  rintro e w1 ⟨rfl, rfl⟩
  rw [show ofB (l.take 4) = 0 from H0.out]
  go_wp2_with fail
  refine (equal_any _ _ _ _ _ _ (l.take 4) (l.drop 28) _ (by simp; omega) (by simp; omega) (hr1.drewN _) (hr2.drewN _)).mono ?_
  rintro e w1 ⟨rfl, rfl⟩
  rw [HB.out]
  go_wp2_with fail
  go_ret3
  exact ⟨rfl, _, rfl⟩
theorem open_ok (A : Option Addr) (c : Nat) (l : Bytes) (w : World) (hl : l.length = 32) (hc : 32 ≤ c) (hr : Rd w A l) (he : l.take 4 = l.drop 28) (h0 : stampOf l ≠ 0) :
    Calls Tryd.prog 92 #[.slice A 32 c] w fun e w' => ∃ g cap, e = .returned (.tuple #[.int .i64 (stampOf l), .slice (some ⟨g, 0, none⟩) 24 cap, .nilIface]) ∧
      w.heap.size ≤ g ∧ Row w' 5 g cap (bodyOf l) ∧ Below w.heap.size w w' := by
  have hr1 := hr.take 4 (by omega)
  have hr2 := hr.cut 28 4 (by omega)
  have hr3 := hr.cut 4 24 (by omega)
  rw [List.take_of_length_le (by simp; omega)] at hr2
  obtain ⟨p, off, rfl, _⟩ := hr.lt (by omega)
  have hb : (l.take 4 == l.drop 28) = true := by simpa using he
  have HB := Hidden.mk hb
  have h0' : ((stampOf l : Int) == 0) = false := by simp; omega
  clear hb he h0
  go_enter Tryd.func92, Tryd.ntmps92
  go_wp2_with fail
  go_quiet (fail)
  go_wp2_with fail
  refine (of_any _ _ _ (l.take 4) _ (by simp; omega) (by omega) (hr1.drewN _)).mono ?_
  rintro e w1 ⟨rfl, rfl⟩
  rw [show ofB (l.take 4) = stampOf l from rfl]
  go_wp2_with fail
  refine (equal_any _ _ _ _ _ _ (l.take 4) (l.drop 28) _ (by simp; omega) (by simp; omega) (hr1.drewN _) (hr2.drewN _)).mono ?_
  rintro e w1 ⟨rfl, rfl⟩
  rw [HB.out]
  go_wp2_with fail
  refine (clone_some _ 24 _ (bodyOf l) _ (by simp [bodyOf]; omega) (by omega) (hr3.drewN _)).mono ?_
  rintro e w1 ⟨g, cap, rfl, hg, hrow, hb⟩
  go_wp2_with fail
  go_ret3
  exact ⟨g, cap, rfl, hg, hrow, (below_drewN (Below.refl _ _) _).trans hb⟩

end Go.Proofs.YtmhlnbbnanehiaaDoor
/- The contracts of the reference's Number, Make and Open. -/
namespace Go.Proofs.YtmhlnbbnanehiaaDoor
open Go.RowKit

theorem ofB_drop (l : Bytes) (j : Nat) (h : j < l.length) : ofB (l.drop j) = l[j].toNat + 256 * ofB (l.drop (j + 1)) := by
  rw [List.drop_eq_getElem_cons h]; rfl
theorem number_any (A : Option Addr) (n c : Nat) (l : Bytes) (w : World) (hn : l.length = n) (hl : n ≤ 4) (hr : Rd w A l) :
    Calls Tryd.prog 93 #[.slice A n c] w fun e w' => e = .returned (.int .i64 (ofB l)) ∧ w = w' := by
  subst hn
  have s0 : IntKind.i64.wrap ((l.length : Int) - 1) = (l.length : Int) - 1 := IntWalk.i64_in _ (by omega)
  go_enter Tryd.func93, Tryd.ntmps93
  go_wp2
  go_loop [3, 4] (fun n i => ∃ j : Nat, j ≤ l.length ∧ i = .int .i64 ((j : Int) - 1) ∧ n = .int .i64 (ofB (l.drop j))) (fun _ i => (intOf i + 1).toNat)
  case atStart => exact ⟨l.length, Nat.le_refl _, rfl, by simp [ofB]⟩
  case round =>
    obtain ⟨j, hj, rfl, rfl⟩ := hrel
    rcases j with _ | j
    · rw [show (((0 : Nat) : Int) - 1) = (-1 : Int) from rfl, List.drop_zero]
      go_wp2
      go_ret
      exact ⟨rfl, rfl⟩
    · rw [show (((j + 1 : Nat) : Int) - 1) = (j : Int) from by omega]
      obtain ⟨b, off, rfl, hc⟩ := hr j (by omega)
      have hd := ofB_drop l j (by omega)
      have h1 := ofB_lt (l.drop (j + 1))
      have hp : 2 ^ (8 * (l.drop (j + 1)).length) ≤ 16777216 := by
        have : (l.drop (j + 1)).length ≤ 3 := by simp; omega
        calc 2 ^ (8 * (l.drop (j + 1)).length) ≤ 2 ^ 24 := Nat.pow_le_pow_right (by omega) (by omega)
          _ = 16777216 := by decide
      have hx := u8_lt l[j]
      have HD := Hidden.mk hd
      generalize ofB (l.drop (j + 1)) = m at *
      generalize l[j] = x at *
      have s1 : IntKind.i64.wrap ((m : Int) * 256) = (m : Int) * 256 := IntWalk.i64_in _ (by omega)
      have s2 : IntKind.i64.wrap (x.toNat : Int) = (x.toNat : Int) := IntWalk.i64_in _ (by omega)
      have s3 : IntKind.i64.wrap ((m : Int) * 256 + (x.toNat : Int)) = (m : Int) * 256 + (x.toNat : Int) := IntWalk.i64_in _ (by omega)
      have s4 : IntKind.i64.wrap ((j : Int) - 1) = (j : Int) - 1 := IntWalk.i64_in _ (by omega)
      have k0 : (0 : Int) ≤ j := by omega
      have k1 : (j : Int) < l.length := by omega
      clear hd h1 hp
      go_wp2
      go_round
      case rel => exact ⟨j, by omega, rfl, by rw [HD.out]; exact int_i64 (by omega)⟩
      case measure => simp [intOf]

/-- what a stamp with a body is as a sector, and the fault -/
def makeF (st : Int) (b : Bytes) : Bytes × Nat := if st < 1 ∨ 4294967295 < st then ([], 1) else if 24 < b.length then ([], 4) else (makeB st.toNat b, 0)
/-- what a sector is: its stamp, its body, the fault -/
def openF (l : Bytes) : Nat × Bytes × Nat := if l.length ≠ 32 then (0, [], 3) else if l.take 4 ≠ l.drop 28 then (0, [], 6) else if stampOf l = 0 then (0, [], 5) else (stampOf l, bodyOf l, 0)
def mixF (a b : Bytes) (cut : Int) : Bytes × Nat := if a.length ≠ 32 ∨ b.length ≠ 32 then ([], 3) else if cut < 0 ∨ 32 < cut then ([], 1) else (a.take cut.toNat ++ b.drop cut.toNat, 0)

theorem make_any (st : Int) (A : Option Addr) (n c : Nat) (b : Bytes) (w : World) (hn : b.length = n) (hr : Rd w A b) :
    Calls Tryd.prog 59 #[.int .i64 st, .slice A n c] w fun e w' => ∃ A' c', e = .returned (.tuple #[.slice A' (makeF st b).1.length c', errV (makeF st b).2]) ∧ Rd w' A' (makeF st b).1 ∧ Below w.heap.size w w' := by
  unfold makeF
  by_cases h1 : st < 1 ∨ 4294967295 < st
  · rw [if_pos h1]
    refine (make_e1 st A n c w h1).mono ?_
    rintro e w' ⟨rfl, rfl⟩
    exact ⟨none, 0, rfl, Rd.nil_, Below.refl _ _⟩
  · rw [if_neg h1]
    by_cases h2 : 24 < b.length
    · rw [if_pos h2]
      refine (make_e4 st A n c w (by omega) (by omega) (by omega)).mono ?_
      rintro e w' ⟨rfl, rfl⟩
      exact ⟨none, 0, rfl, Rd.nil_, Below.refl _ _⟩
    · rw [if_neg h2]
      refine (make_ok st A n c b w hn (by omega) (by omega) (by omega) hr).mono ?_
      rintro e w' ⟨g, rfl, hg, hrow, hb⟩
      exact ⟨some ⟨g, 0, none⟩, 32, by rw [makeB_len _ _ (by omega)]; rfl, hrow.rd, hb⟩
theorem open_any (A : Option Addr) (n c : Nat) (l : Bytes) (w : World) (hn : l.length = n) (hc : n ≤ c) (hr : Rd w A l) :
    Calls Tryd.prog 92 #[.slice A n c] w fun e w' => ∃ A' c', e = .returned (.tuple #[.int .i64 (openF l).1, .slice A' (openF l).2.1.length c', errV (openF l).2.2]) ∧ Rd w' A' (openF l).2.1 ∧ Below w.heap.size w w' := by
  subst hn
  unfold openF
  by_cases h1 : l.length ≠ 32
  · rw [if_pos h1]
    refine (open_e3 A _ c w h1).mono ?_
    rintro e w' ⟨rfl, rfl⟩
    exact ⟨none, 0, rfl, Rd.nil_, Below.refl _ _⟩
  · rw [if_neg h1]
    have h32 : l.length = 32 := by omega
    rw [h32] at hc ⊢
    by_cases h2 : l.take 4 ≠ l.drop 28
    · rw [if_pos h2]
      refine (open_e6 A c l w h32 hc hr h2).mono ?_
      rintro e w' ⟨rfl, n, rfl⟩
      exact ⟨none, 0, rfl, Rd.nil_, below_drewN (Below.refl _ _) _⟩
    · rw [if_neg h2]
      have h2' : l.take 4 = l.drop 28 := Decidable.not_not.1 h2
      by_cases h3 : stampOf l = 0
      · rw [if_pos h3]
        refine (open_e5 A c l w h32 hc hr h2' h3).mono ?_
        rintro e w' ⟨rfl, n, rfl⟩
        exact ⟨none, 0, rfl, Rd.nil_, below_drewN (Below.refl _ _) _⟩
      · rw [if_neg h3]
        refine (open_ok A c l w h32 hc hr h2' h3).mono ?_
        rintro e w' ⟨g, cap, rfl, hg, hrow, hb⟩
        exact ⟨some ⟨g, 0, none⟩, cap, by rw [show (bodyOf l).length = 24 from by simp [bodyOf, h32]]; rfl, hrow.rd, hb⟩

set_option maxRecDepth 100000 in
theorem refOpen_any (A : Option Addr) (n c : Nat) (l : Bytes) (w : World) (hn : l.length = n) (hc : n ≤ c) (hr : Rd w A l) :
    Calls Tryd.prog 81 #[.slice A n c] w fun e w' => ∃ A' c', e = .returned (.tuple #[.int .i64 (openF l).1, .slice A' (openF l).2.1.length c', .int .i64 (openF l).2.2]) ∧ Rd w' A' (openF l).2.1 ∧ Below w.heap.size w w' := by
  unfold openF
  by_cases h1 : n = 32
  · subst h1
    rw [if_neg (by omega)]
    have hr1 := hr.take 4 (by omega)
    have hr2 := hr.cut 28 4 (by omega)
    have hr3 := hr.cut 4 24 (by omega)
    rw [List.take_of_length_le (by simp; omega)] at hr2
    obtain ⟨p, off, rfl, _⟩ := hr.lt (by omega)
    have e1 : (l.take 4).length = 4 := by simp; omega
    have e2 : (l.drop 28).length = 4 := by simp; omega
    have hb3 : (bodyOf l).length = 24 := by simp [bodyOf, hn]
    by_cases h2 : l.take 4 = l.drop 28
    · have H2 := Hidden.mk h2
      by_cases h3 : stampOf l = 0
      · rw [if_neg (by simpa using h2), if_pos h3]
        have H3 := Hidden.mk h3
        clear h2 h3
        go_enter Tryd.func81, Tryd.ntmps81
        go_wp2_with fail
        refine (number_any _ 4 _ (l.take 4) _ e1 (by omega) hr1).mono ?_
        rintro e w1 ⟨rfl, rfl⟩
        rw [show ofB (l.take 4) = 0 from H3.out]
        go_wp2_with fail
        refine (number_any _ 4 _ (l.drop 28) _ e2 (by omega) hr2).mono ?_
        rintro e w1 ⟨rfl, rfl⟩
        rw [← H2.out, show ofB (l.take 4) = 0 from H3.out]
        go_wp2_with fail
        go_ret3
        exact ⟨none, 0, rfl, Rd.nil_, Below.refl _ _⟩
      · rw [if_neg (by simpa using h2), if_neg h3]
        have t3 : ((stampOf l : Int) == 0) = false := by simp; omega
        clear h2 h3
        go_enter Tryd.func81, Tryd.ntmps81
        go_wp2_with fail
        refine (number_any _ 4 _ (l.take 4) _ e1 (by omega) hr1).mono ?_
        rintro e w1 ⟨rfl, rfl⟩
        rw [show ofB (l.take 4) = stampOf l from rfl]
        go_wp2_with fail
        refine (number_any _ 4 _ (l.drop 28) _ e2 (by omega) hr2).mono ?_
        rintro e w1 ⟨rfl, rfl⟩
        rw [← H2.out, show ofB (l.take 4) = stampOf l from rfl]
        go_wp2_with fail
        go_quiet (fail)
        go_wp2_with fail
        go_ret3
        exact ⟨some ⟨p, off + 4, none⟩, c - 4, by rw [hb3]; rfl, by simpa [Addr.add_lit, bodyOf] using hr3.drewN nq, below_drewN (Below.refl _ _) _⟩
    · rw [if_pos h2]
      have t2 : ((ofB (l.take 4) : Int) != (ofB (l.drop 28) : Int)) = true := by
        simp only [bne_iff_ne, ne_eq]
        intro h
        exact h2 (ofB_inj _ _ (by rw [e1, e2]) (by omega))
      clear h2
      go_enter Tryd.func81, Tryd.ntmps81
      go_wp2_with fail
      refine (number_any _ 4 _ (l.take 4) _ e1 (by omega) hr1).mono ?_
      rintro e w1 ⟨rfl, rfl⟩
      go_wp2_with fail
      refine (number_any _ 4 _ (l.drop 28) _ e2 (by omega) hr2).mono ?_
      rintro e w1 ⟨rfl, rfl⟩
      go_wp2_with fail
      go_ret3
      exact ⟨none, 0, rfl, Rd.nil_, Below.refl _ _⟩
  · rw [if_pos (by omega)]
    have t1 : ((n : Int) != 32) = true := by simp; omega
    clear h1
    go_enter Tryd.func81, Tryd.ntmps81
    go_wp2
    go_ret3
    exact ⟨none, 0, rfl, Rd.nil_, Below.refl _ _⟩
end Go.Proofs.YtmhlnbbnanehiaaDoor
/- NumLow: plain facts on numbers as bytes; the contract of pow. -/
namespace Go.Proofs.YtmhlnbbnanehiaaDoor
open Go.RowKit

theorem ofB_append (a b : Bytes) : ofB (a ++ b) = ofB a + 2 ^ (8 * a.length) * ofB b := by
  induction a with
  | nil => simp [ofB]
  | cons d a ih =>
    simp only [List.cons_append, ofB, ih, List.length_cons]
    rw [show 8 * (a.length + 1) = 8 * a.length + 8 from by omega, Nat.pow_add, Nat.mul_add, Nat.add_assoc]
    congr 2
    rw [← Nat.mul_assoc, Nat.mul_comm 256, show 2 ^ 8 = 256 from rfl]
theorem ofB_numB (n s : Nat) : ofB (numB n s) = n % 2 ^ (8 * s) := by
  induction s generalizing n with
  | zero => simp [numB, ofB, Nat.mod_one]
  | succ s ih =>
    simp only [numB, ofB, ofNat_mod, ih]
    rw [show 8 * (s + 1) = 8 + 8 * s from by omega, Nat.pow_add, show 2 ^ 8 = 256 from rfl, Nat.mod_mul]
theorem numB_take (n s i : Nat) (h : i ≤ s) : (numB n s).take i = numB n i := by
  induction s generalizing n i with
  | zero => have : i = 0 := by omega
            subst this; rfl
  | succ s ih =>
    cases i with
    | zero => simp [numB]
    | succ i => simp only [numB, List.take_succ_cons]; rw [ih _ _ (by omega)]
theorem splice_mid (l bs : Bytes) (i : Nat) (s : Nat) (h : i + bs.length ≤ l.length) (hs : s ≤ bs.length) : ((splice l i bs).drop i).take s = bs.take s := by
  unfold splice
  have hl : (l.take i).length = i := by simp; omega
  rw [List.drop_append_of_le_length (by omega), List.drop_of_length_le (by omega), List.nil_append, List.take_append_of_le_length hs]
/-- what was put is got, in as many bytes or in fewer -/
theorem getN_putB (l : Bytes) (a x s i : Nat) (h : a + s ≤ l.length) (hi : i ≤ s) : getN (putB l a x s) a i = x % 2 ^ (8 * i) := by
  unfold getN putB
  simp only [Int.toNat_natCast]
  rw [splice_mid _ _ _ _ (by rw [numB_length]; omega) (by rw [numB_length]; omega), numB_take _ _ _ hi, ofB_numB]
theorem mostN_val (s : Nat) (h1 : 1 ≤ s) (h4 : s ≤ 4) : mostN s = ((2 ^ (8 * s) - 1 : Nat) : Int) := by
  have : s = 1 ∨ s = 2 ∨ s = 3 ∨ s = 4 := by omega
  rcases this with rfl | rfl | rfl | rfl <;> simp [mostN]
theorem mod_most (x s : Nat) (h1 : 1 ≤ s) (h4 : s ≤ 4) (hx : (x : Int) ≤ mostN s) : x % 2 ^ (8 * s) = x := by
  rw [mostN_val s h1 h4] at hx
  have : 0 < 2 ^ (8 * s) := Nat.pow_pos (by omega)
  exact Nat.mod_eq_of_lt (by omega)
theorem putB_len (l : Bytes) (a x s : Nat) (h : a + s ≤ l.length) : (putB l a x s).length = l.length := by
  unfold putB; simp only [Int.toNat_natCast]; exact splice_len _ _ _ (by rw [numB_length]; omega)
theorem putB_len' (l : Bytes) (a x s : Int) (hs : 1 ≤ s) (h0 : 0 ≤ a) (h : a + s ≤ l.length) : (putB l a x s).length = l.length := by
  unfold putB; exact splice_len _ _ _ (by rw [numB_length]; omega)
theorem splice_far (l bs : Bytes) (o i s : Nat) (h : o + bs.length ≤ l.length) (hd : i + s ≤ o ∨ o + bs.length ≤ i) : ((splice l o bs).drop i).take s = (l.drop i).take s := by
  apply List.ext_getElem?
  intro j
  rw [List.getElem?_take, List.getElem?_take]
  by_cases hj : j < s
  · rw [if_pos hj, if_pos hj, List.getElem?_drop, List.getElem?_drop]
    unfold splice
    have hl : (l.take o).length = o := by simp; omega
    by_cases h1 : i + j < o
    · rw [List.getElem?_append_left (by omega), List.getElem?_take, if_pos h1]
    · rw [List.getElem?_append_right (by omega), hl, List.getElem?_append_right (by omega), List.getElem?_drop]
      congr 1; omega
  · rw [if_neg hj, if_neg hj]
theorem getN_far (l : Bytes) (a s o : Nat) (ho : o + 1 ≤ l.length) (hd : o < a ∨ a + s ≤ o) : getN (putB l o (0 : Nat) (1 : Nat)) a s = getN l a s := by
  unfold getN putB
  simp only [Int.toNat_natCast]
  rw [splice_far _ _ _ _ _ (by rw [numB_length]; omega) (by rw [numB_length]; omega)]
theorem sameL_take (k : Nat) : ∀ (a b : Bytes), a.take k = b.take k → k ≤ a.length → k ≤ b.length → k ≤ sameL a b := by
  induction k with
  | zero => intros; omega
  | succ k ih =>
    intro a b ht ha hb
    cases a with
    | nil => simp at ha
    | cons x a =>
      cases b with
      | nil => simp at hb
      | cons y b =>
        simp only [List.take_succ_cons, List.cons.injEq] at ht
        have := ih a b ht.2 (by simpa using ha) (by simpa using hb)
        simp only [sameL, if_pos ht.1]
        omega
theorem sameL_put (l : Bytes) (o : Nat) (h : o + 1 ≤ l.length) : o ≤ sameL l (putB l o (0 : Nat) (1 : Nat)) := by
  refine sameL_take o _ _ ?_ (by omega) (by rw [putB_len _ _ _ _ h]; omega)
  unfold putB splice
  simp only [Int.toNat_natCast]
  have hl : (l.take o).length = o := by simp; omega
  rw [List.take_append_of_le_length (by omega), List.take_take, Nat.min_self]

end Go.Proofs.YtmhlnbbnanehiaaDoor
/- NumBack: the walk. -/
namespace Go.Proofs.YtmhlnbbnanehiaaDoor
open Go.RowKit

theorem two_row (w : World) : Row (w.alloc (.cells #[.int .u8 1, .int .u8 2] 5)) 5 w.heap.size 2 [1, 2] :=
  ⟨_, heap_alloc_new w _, by simp, by simp [maxLen], by simp, rfl⟩
theorem two_get : getN [1, 2] 0 2 = 513 := by decide
theorem putB_take (l : Bytes) (a x s : Nat) (h : a + s ≤ l.length) : (putB l a x s).take a = l.take a := by
  unfold putB splice
  simp only [Int.toNat_natCast]
  rw [List.take_append_of_le_length (by simp; omega), List.take_take, Nat.min_self]
theorem putB_drop (l : Bytes) (a x s : Nat) (h : a + s ≤ l.length) : (putB l a x s).drop (a + s) = l.drop (a + s) := by
  unfold putB splice
  simp only [Int.toNat_natCast, numB_length]
  rw [← List.append_assoc, List.drop_append_of_le_length (by simp [numB_length]; omega), List.drop_of_length_le (by simp [numB_length]; omega), List.nil_append]
theorem nameB_len (s : Bytes) (h : isName s = true) : (nameB s).length = 8 := by
  have h8 : s.length ≤ 8 := by simp [isName] at h; omega
  simp [nameB]; omega
theorem nameB_back (s : Bytes) (h : isName s = true) : gotName (nameB s) = true ∧ nameAt (nameB s) = s := by
  have h8 : s.length ≤ 8 := by simp [isName] at h; omega
  have hz : (0 : UInt8) ∉ s := by
    intro h0
    simp only [isName, Bool.and_eq_true, Bool.not_eq_true', List.any_eq_false] at h
    exact h.2 0 h0 (by decide)
  have hi : (nameB s).idxOf 0 = s.length := by
    unfold nameB
    rw [List.idxOf_append, if_neg hz]
    rcases Nat.lt_or_ge s.length 8 with hlt | hge
    · obtain ⟨m, hm⟩ : ∃ m, 8 - s.length = m + 1 := ⟨7 - s.length, by omega⟩
      rw [hm, List.replicate_succ]
      simp
    · have : 8 - s.length = 0 := by omega
      simp [this]
  have h1 : nameAt (nameB s) = s := by unfold nameAt; rw [hi]; simp [nameB]
  have h2 : nameRest (nameB s) = List.replicate (8 - s.length) 0 := by unfold nameRest; rw [hi]; simp [nameB]
  refine ⟨?_, h1⟩
  unfold gotName
  rw [h1, h2, h]
  simp [nonZero]

end Go.Proofs.YtmhlnbbnanehiaaDoor
/- StampRow: the walk. -/
namespace Go.Proofs.YtmhlnbbnanehiaaDoor
open Go.RowKit

theorem ofB_numB4 (n : Nat) (h : n ≤ 4294967295) : ofB (numB n 4) = n := by rw [ofB_numB]; exact Nat.mod_eq_of_lt (by omega)
theorem numB4_inj {n m : Nat} (hn : n ≤ 4294967295) (hm : m ≤ 4294967295) (h : numB n 4 = numB m 4) : n = m := by
  rw [← ofB_numB4 n hn, ← ofB_numB4 m hm, h]
theorem makeB_take (n : Nat) (b : Bytes) : (makeB n b).take 4 = numB n 4 := by
  unfold makeB
  rw [List.append_assoc, List.take_append_of_le_length (by rw [numB_length]; omega), List.take_of_length_le (by rw [numB_length]; omega)]
theorem makeB_drop (n : Nat) (b : Bytes) (h : b.length ≤ 24) : (makeB n b).drop 28 = numB n 4 := by
  unfold makeB
  have hl : (numB n 4 ++ (b ++ List.replicate (24 - b.length) 0)).length = 28 := by simp [numB_length]; omega
  rw [List.drop_append_of_le_length (by omega), List.drop_of_length_le (by omega), List.nil_append]
theorem makeB_body (n : Nat) (b : Bytes) (h : b.length ≤ 24) : bodyOf (makeB n b) = b ++ List.replicate (24 - b.length) 0 := by
  unfold bodyOf makeB
  rw [List.append_assoc, List.drop_append_of_le_length (by rw [numB_length]; omega), List.drop_of_length_le (by rw [numB_length]; omega), List.nil_append,
    List.take_append_of_le_length (by simp; omega), List.take_of_length_le (by simp; omega)]
theorem makeB_stamp (n : Nat) (b : Bytes) (hn : n ≤ 4294967295) : stampOf (makeB n b) = n := by unfold stampOf; rw [makeB_take, ofB_numB4 n hn]
theorem makeB_eq (n m : Nat) (b : Bytes) (hn : n ≤ 4294967295) (hm : m ≤ 4294967295) : (makeB n b == makeB m b) = ((n : Int) == (m : Int)) := by
  rw [Bool.eq_iff_iff, beq_iff_eq, beq_iff_eq]
  constructor
  · intro h
    have : numB n 4 = numB m 4 := by rw [← makeB_take n b, h, makeB_take]
    have := numB4_inj hn hm this
    omega
  · intro h
    have : n = m := by omega
    rw [this]

end Go.Proofs.YtmhlnbbnanehiaaDoor
/- Pages: the plain words: what a device becomes while pages are opened, committed; what is safe. -/
namespace Go.Proofs.YtmhlnbbnanehiaaDoor
open Go.RowKit

/-- Write, Flush, Read of whatever: what becomes of the device, the fault -/
def wrD (D : Dv) (i : Int) (b : Bytes) : Dv × Nat :=
  if i < 0 ∨ (D.S.length : Int) ≤ i then (D, 1) else if b.length ≠ 32 then (D, 3) else if D.down = true then (D, 9) else (stepD (putD D i.toNat b), if D.left = 0 then 9 else 0)
def flD (D : Dv) : Dv × Nat := if D.down = true then (D, 9) else if D.left = 0 then (stepD D, 9) else (flushD (stepD D), 0)
def rdE (D : Dv) (i : Int) : Nat := if i < 0 ∨ (D.S.length : Int) ≤ i then 1 else if D.down = true then 9 else 0
def rdL (D : Dv) (i : Int) : Bytes := if rdE D i = 0 then readD D i.toNat else []
/-- one step behind the other, till a fault -/
def runE {X : Type} (f : Nat → X → Dv → Dv × Nat) : Nat → List X → Dv → Dv × Nat
  | _, [], D => (D, 0)
  | k, x :: r, D => if (f k x D).2 = 0 then runE f (k + 1) r (f k x D).1 else f k x D
theorem runE_cons {X : Type} (f : Nat → X → Dv → Dv × Nat) (k : Nat) (x : X) (r : List X) (D : Dv) : runE f k (x :: r) D = if (f k x D).2 = 0 then runE f (k + 1) r (f k x D).1 else f k x D := rfl
theorem runE_app {X : Type} (f : Nat → X → Dv → Dv × Nat) : ∀ (l r : List X) (k : Nat) (D : Dv), (runE f k l D).2 = 0 → runE f k (l ++ r) D = runE f (k + l.length) r (runE f k l D).1
  | [], r, k, D, _ => rfl
  | x :: l, r, k, D, h => by
    rw [runE_cons] at h
    rw [List.cons_append, runE_cons, runE_cons f k x l D]
    by_cases h0 : (f k x D).2 = 0
    · rw [if_pos h0] at h ⊢
      rw [if_pos h0, runE_app f l r (k + 1) _ h, List.length_cons]
      congr 1
      omega
    · rw [if_neg h0] at h
      exact absurd h h0
theorem runE_step {X : Type} (f : Nat → X → Dv → Dv × Nat) (l : List X) (k j : Nat) (D : Dv) (hj : j < l.length) (h : (runE f k (l.take j) D).2 = 0) :
    ((f (k + j) l[j] (runE f k (l.take j) D).1).2 = 0 → runE f k (l.take (j + 1)) D = f (k + j) l[j] (runE f k (l.take j) D).1) ∧
    ((f (k + j) l[j] (runE f k (l.take j) D).1).2 ≠ 0 → runE f k l D = f (k + j) l[j] (runE f k (l.take j) D).1) := by
  have hl : (l.take j).length = j := by simp; omega
  constructor
  · intro h0
    rw [List.take_succ_eq_append_getElem hj, runE_app f _ _ k D h, hl]
    show (if _ = 0 then _ else _) = _
    rw [if_pos h0]
    show (_, 0) = _
    rw [← h0]
  · intro h0
    have e : l = l.take j ++ (l[j] :: l.drop (j + 1)) := by rw [← List.drop_eq_getElem_cons hj, List.take_append_drop]
    conv => lhs; rw [e]
    rw [runE_app f _ _ k D h, hl]
    show (if _ = 0 then _ else _) = _
    rw [if_neg h0]
def andThen (a : Dv × Nat) (g : Dv → Dv × Nat) : Dv × Nat := if a.2 = 0 then g a.1 else a
/-- how many pages there are; the sector behind a mark -/
def nP (D : Dv) : Nat := min (D.S.length - 48) 200
theorem nP_le (D : Dv) : nP D ≤ 200 ∧ nP D + 48 ≤ max D.S.length 48 := by unfold nP; omega
def areaP (a k : Nat) : Nat := 2 + 23 * a + k
/-- a mark: its stamp, and pages -/
def mkL (b : Bytes) : Bytes := ((bodyOf b).drop 1).take ((bodyOf b).getD 0 0).toNat
def markOf (n : Nat) (b : Bytes) : Nat × Bytes :=
  if (openF b).2.2 ≠ 0 then (0, []) else if 23 < ((bodyOf b).getD 0 0).toNat then (0, []) else if (mkL b).all (fun x => decide (x.toNat < n)) = true then (stampOf b, mkL b) else (0, [])
def pick (a b : Nat × Bytes) : Nat × Nat × Bytes := if a.1 < b.1 then (b.1, 1, b.2) else (a.1, 0, a.2)
def openMk (D : Dv) : Nat × Nat × Bytes := pick (markOf (nP D) (readD D 0)) (markOf (nP D) (readD D 1))
def copyF (a : Nat) : Nat → UInt8 → Dv → Dv × Nat := fun k x D => wrD D (48 + (x.toNat : Int)) (readD D (areaP a k))
def openP (D : Dv) : Dv × Nat :=
  if D.S.length < 49 then (D, 1) else if D.down = true then (D, 9) else if (openMk D).1 = 0 then (D, 5) else andThen (runE (copyF (openMk D).2.1) 0 (openMk D).2.2 D) flD
/-- what is wrong with pages that are to be committed -/
def chkL (n : Nat) : List Int → List (Int × Bytes) → Nat
  | _, [] => 0
  | seen, x :: r => if x.1 < 0 ∨ (n : Int) ≤ x.1 then 1 else if x.2.length ≠ 32 then 3 else if x.1 ∈ seen then 7 else chkL n (seen ++ [x.1]) r
def chkP (n : Nat) (l : List (Int × Bytes)) : Nat := if 23 < l.length then 4 else chkL n [] l
def areaF (a : Nat) : Nat → Int × Bytes → Dv → Dv × Nat := fun k x D => wrD D (areaP a k) x.2
def pageF : Nat → Int × Bytes → Dv → Dv × Nat := fun _ x D => wrD D (48 + x.1) x.2
def markF (i : Nat) (b : Bytes) (D : Dv) : Dv × Nat := wrD D (i : Int) b
def numsB (l : List (Int × Bytes)) : Bytes := l.map fun x => UInt8.ofNat x.1.toNat
def markB (nx : Nat) (l : List (Int × Bytes)) : Bytes := makeB nx (UInt8.ofNat l.length :: numsB l)
def commitP (st n : Nat) (l : List (Int × Bytes)) (D : Dv) : Dv × Nat :=
  if chkP n l ≠ 0 then (D, chkP n l) else if D.down = true then (D, 9) else if l.length = 0 then (D, 0) else if 4294967295 < st + 1 then (D, 1) else
    andThen (andThen (andThen (andThen (andThen (runE (areaF ((st + 1) % 2)) 0 l D) flD) (markF ((st + 1) % 2) (markB (st + 1) l))) flD) (runE pageF 0 l)) flD
/-- the stamp behind it -/
def commitS (st n : Nat) (l : List (Int × Bytes)) (D : Dv) : Nat := if (commitP st n l D).2 = 0 ∧ l.length ≠ 0 then st + 1 else st

/-- what every device is -/
structure WfD (D : Dv) : Prop where
  nd : D.O.Nodup
  lt : ∀ i ∈ D.O, i < D.S.length
  sl : ∀ i, i < D.S.length → (D.S.getD i []).length = 32
  ml : ∀ i ∈ D.O, (D.M i).length = 32
theorem WfD.rd {D : Dv} (h : WfD D) {i : Nat} (hi : i < D.S.length) : (readD D i).length = 32 := by
  unfold readD; split
  · exact h.ml i ‹_›
  · exact h.sl i hi
theorem DevB.wf {w0 w : World} {F : Nat → Prop} {d : Nat} {D : Dv} (h : DevB w0 w F d D) : WfD D := by
  obtain ⟨_, _, _, h1, h2, h3, h4, _⟩ := h.lens
  exact ⟨h2, h1, fun i hi => by rw [show D.S.getD i [] = D.S[i] by simp [hi]]; exact h3 i hi, h4⟩
theorem stepD_S (D : Dv) : (stepD D).S = D.S ∧ (stepD D).O = D.O ∧ (stepD D).M = D.M := ⟨rfl, rfl, rfl⟩
theorem readD_step (D : Dv) (i : Nat) : readD (stepD D) i = readD D i := rfl
theorem readD_put (D : Dv) (i : Nat) (b : Bytes) (j : Nat) : readD (putD D i b) j = if j = i then b else readD D j := by
  unfold readD
  by_cases hj : j = i
  · subst hj
    rw [if_pos ((putD_mem D j b j).2 (.inr rfl)), if_pos rfl]
    show (if j = j then b else D.M j) = b
    rw [if_pos rfl]
  · rw [if_neg hj]
    by_cases ho : j ∈ D.O
    · rw [if_pos ((putD_mem D i b j).2 (.inl ho)), if_pos ho]
      show (if j = i then b else D.M j) = D.M j
      rw [if_neg hj]
    · rw [if_neg (fun h => ((putD_mem D i b j).1 h).elim ho hj), if_neg ho]; rfl
/-- what a write does -/
theorem wrD_cases (D : Dv) (i : Int) (b : Bytes) : ((wrD D i b).1 = D ∧ (wrD D i b).2 ≠ 0) ∨ (0 ≤ i ∧ i < D.S.length ∧ b.length = 32 ∧ D.down = false ∧ (wrD D i b).1 = stepD (putD D i.toNat b) ∧ (wrD D i b).2 = if D.left = 0 then 9 else 0) := by
  unfold wrD
  by_cases h1 : i < 0 ∨ (D.S.length : Int) ≤ i
  · rw [if_pos h1]; exact .inl ⟨rfl, by simp⟩
  rw [if_neg h1]
  by_cases h2 : b.length ≠ 32
  · rw [if_pos h2]; exact .inl ⟨rfl, by simp⟩
  rw [if_neg h2]
  by_cases h3 : D.down = true
  · rw [if_pos h3]; exact .inl ⟨rfl, by simp⟩
  · rw [if_neg h3]; exact .inr ⟨by omega, by omega, by omega, by simpa using h3, rfl, rfl⟩
theorem wrD_ok {D : Dv} {i : Nat} {b : Bytes} (hi : i < D.S.length) (hb : b.length = 32) (hd : D.down = false) : wrD D (i : Int) b = (stepD (putD D i b), if D.left = 0 then 9 else 0) := by
  unfold wrD
  rw [if_neg (by omega), if_neg (by omega), if_neg (by rw [hd]; decide), Int.toNat_natCast]
theorem wrD_len (D : Dv) (i : Int) (b : Bytes) : (wrD D i b).1.S = D.S := by
  rcases wrD_cases D i b with ⟨h, _⟩ | ⟨_, _, _, _, h, _⟩ <;> rw [h]
  rfl
theorem wrD_9 {D : Dv} {i : Nat} {b : Bytes} (hi : i < D.S.length) (hb : b.length = 32) (h : (wrD D (i : Int) b).2 ≠ 0) : (wrD D (i : Int) b).2 = 9 := by
  cases hd : D.down with
  | false =>
    rw [wrD_ok hi hb hd] at h ⊢
    dsimp only at h ⊢
    by_cases h0 : D.left = 0
    · rw [if_pos h0]
    · rw [if_neg h0] at h; exact absurd rfl h
  | true => unfold wrD; rw [if_neg (by omega), if_neg (by omega), if_pos hd]
theorem wrD_down {D : Dv} {i : Int} {b : Bytes} (h : (wrD D i b).2 = 0) : (wrD D i b).1.down = false := by
  rcases wrD_cases D i b with ⟨_, h'⟩ | ⟨_, _, _, _, h1, h2⟩
  · exact absurd h h'
  · rw [h1]
    rw [h2] at h
    split at h
    · cases h
    · show (D.left == 0) = false
      simpa using ‹¬ D.left = 0›
theorem wrD_wf {D : Dv} (hw : WfD D) (i : Int) (b : Bytes) : WfD (wrD D i b).1 := by
  rcases wrD_cases D i b with ⟨h, _⟩ | ⟨h0, h1, h2, _, h, _⟩
  · rw [h]; exact hw
  · rw [h]
    have hm := putD_mem D i.toNat b
    refine ⟨?_, fun k hk => ?_, hw.sl, fun k hk => ?_⟩
    · show (if i.toNat ∈ D.O then D.O else D.O ++ [i.toNat]).Nodup
      split
      · exact hw.nd
      · exact List.nodup_append.2 ⟨hw.nd, by simp, fun a ha b hb => by
          simp only [List.mem_singleton] at hb
          intro e; subst hb; exact absurd (e ▸ ha) ‹_›⟩
    · rcases (hm k).1 hk with h | h
      · exact hw.lt k h
      · show k < D.S.length; omega
    · show (if k = i.toNat then b else D.M k).length = 32
      split
      · exact h2
      · rcases (hm k).1 hk with h | h
        · exact hw.ml k h
        · contradiction
theorem flD_cases (D : Dv) : ((flD D).1.S = D.S ∧ (∀ j, readD (flD D).1 j = readD D j) ∧ (flD D).2 = 9 ∧ (flD D).1.O = D.O ∧ (flD D).1.M = D.M) ∨ (D.down = false ∧ flD D = (flushD (stepD D), 0)) := by
  unfold flD
  by_cases h1 : D.down = true
  · rw [if_pos h1]; exact .inl ⟨rfl, fun _ => rfl, rfl, rfl, rfl⟩
  rw [if_neg h1]
  by_cases h2 : D.left = 0
  · rw [if_pos h2]; exact .inl ⟨rfl, fun _ => rfl, rfl, rfl, rfl⟩
  · rw [if_neg h2]; exact .inr ⟨by simpa using h1, rfl⟩
theorem flushD_get (D : Dv) (j : Nat) (hj : j < D.S.length) : (flushD D).S.getD j [] = readD D j ∧ readD (flushD D) j = readD D j := by
  have h : (flushD D).S.getD j [] = readD D j := by simp [flushD, hj]
  exact ⟨h, by unfold readD at *; rw [if_neg (by simp [flushD])]; exact h⟩
theorem flD_len (D : Dv) : (flD D).1.S.length = D.S.length := by
  rcases flD_cases D with ⟨h, _⟩ | ⟨_, h⟩
  · rw [h]
  · rw [h]; simp [flushD, stepD]
theorem flD_wf {D : Dv} (hw : WfD D) : WfD (flD D).1 := by
  rcases flD_cases D with ⟨h, _, _, h2, h3⟩ | ⟨_, h⟩
  · exact ⟨by rw [h2]; exact hw.nd, by rw [h2, h]; exact hw.lt, by rw [h]; exact hw.sl, by rw [h2, h3]; exact hw.ml⟩
  · rw [h]
    refine ⟨by simp [flushD], fun i hi => by simp [flushD] at hi, fun i hi => ?_, fun i hi => by simp [flushD] at hi⟩
    have hi' : i < (stepD D).S.length := by simpa [flushD] using hi
    rw [(flushD_get (stepD D) i hi').1]
    exact hw.rd hi'
theorem flD_zero {D : Dv} (h : (flD D).2 = 0) : (flD D).1 = flushD (stepD D) ∧ (flD D).1.down = false ∧ (flD D).1.O = [] := by
  unfold flD at *
  by_cases h1 : D.down = true
  · rw [if_pos h1] at h; cases h
  rw [if_neg h1] at *
  by_cases h2 : D.left = 0
  · rw [if_pos h2] at h; cases h
  · rw [if_neg h2]
    exact ⟨rfl, by show (D.left == 0) = false; simpa using h2, rfl⟩
theorem flD_nz {D : Dv} (h : (flD D).2 ≠ 0) : (flD D).2 = 9 := by
  rcases flD_cases D with ⟨_, _, h', _⟩ | ⟨_, h'⟩
  · exact h'
  · rw [h'] at h; exact absurd rfl h
/-- a sector that is the same whatever is kept of what is pending -/
def Stab (D : Dv) (i : Nat) (v : Bytes) : Prop := D.S.getD i [] = v ∧ readD D i = v
theorem Stab.wr {D : Dv} {j : Nat} {v : Bytes} (h : Stab D j v) (i : Int) (b : Bytes) (hne : i ≠ j) : Stab (wrD D i b).1 j v := by
  rcases wrD_cases D i b with ⟨h', _⟩ | ⟨h0, _, _, _, h', _⟩
  · rw [h']; exact h
  · rw [h']
    refine ⟨h.1, ?_⟩
    rw [readD_step, readD_put, if_neg (by omega)]
    exact h.2
theorem Stab.fl {D : Dv} {j : Nat} {v : Bytes} (h : Stab D j v) (hj : j < D.S.length) : Stab (flD D).1 j v := by
  rcases flD_cases D with ⟨h1, h2, _⟩ | ⟨_, h1⟩
  · exact ⟨by rw [h1]; exact h.1, by rw [h2]; exact h.2⟩
  · rw [h1]
    have := flushD_get (stepD D) j hj
    exact ⟨this.1.trans h.2, this.2.trans h.2⟩
theorem stab_flushed {D : Dv} (h : (flD D).2 = 0) {j : Nat} (hj : j < D.S.length) : Stab (flD D).1 j (readD D j) := by
  rw [(flD_zero h).1]
  exact flushD_get (stepD D) j hj
theorem Stab.none_ {D : Dv} (h : D.O = []) (j : Nat) : Stab D j (readD D j) := ⟨by unfold readD; rw [h]; rfl, rfl⟩
/-- what a sector may be behind a crash -/
theorem crash_mix {D : Dv} (hw : WfD D) (keep : List Bool) (torn : Int) (c i : Nat) (hc : c ≤ 32) (hi : i < D.S.length) :
    ∃ k, k ≤ 32 ∧ readD (crashD D keep torn c) i = (readD D i).take k ++ (D.S.getD i []).drop k := by
  obtain ⟨h1, h2⟩ := crash_read D keep torn c i hw.nd hw.lt
  have hsl := hw.sl i hi
  by_cases hO : i ∈ D.O
  · obtain ⟨a, ha⟩ := List.mem_iff_getElem?.1 hO
    have hal := (List.getElem?_eq_some_iff.1 ha).1
    rw [h2 a hal ha]
    have hg : D.O.getD a 0 = i := by rw [List.getD_eq_getElem?_getD, ha]; rfl
    have hr : readD D i = D.M i := by unfold readD; rw [if_pos hO]
    have hml := hw.ml i hO
    unfold crash1
    rw [hg, hr]
    by_cases ht : (a : Int) = torn
    · rw [if_pos ht]
      refine ⟨c, hc, ?_⟩
      unfold splice
      simp only [List.take_zero, List.nil_append, Nat.zero_add]
      rw [List.length_take, hml, Nat.min_eq_left hc]
    · rw [if_neg ht]
      by_cases hk : keep.getD a false = true
      · rw [if_pos hk]
        exact ⟨32, by omega, by rw [List.take_of_length_le (by omega), List.drop_of_length_le (by omega), List.append_nil]⟩
      · rw [if_neg hk]
        exact ⟨0, by omega, by simp⟩
  · rw [h1 hO]
    exact ⟨0, by omega, by simp⟩
theorem crash_wf {D : Dv} (hw : WfD D) (keep : List Bool) (torn : Int) (c : Nat) (hc : c ≤ 32) : WfD (crashD D keep torn c) := by
  refine ⟨by simp [crashD], fun i hi => by simp [crashD] at hi, fun i hi => ?_, fun i hi => by simp [crashD] at hi⟩
  have hi' : i < D.S.length := by simpa [crashD, crashS_len] using hi
  obtain ⟨k, hk, h⟩ := crash_mix hw keep torn c i hc hi'
  have hr : readD (crashD D keep torn c) i = (crashD D keep torn c).S.getD i [] := by unfold readD; rw [if_neg (by simp [crashD])]
  rw [← hr, h, List.length_append, List.length_take, List.length_drop, hw.rd hi', hw.sl i hi']
  omega
theorem crash_len (D : Dv) (keep : List Bool) (torn : Int) (c : Nat) : (crashD D keep torn c).S.length = D.S.length := by simp [crashD, crashS_len]
theorem Stab.crash {D : Dv} {i : Nat} {v : Bytes} (h : Stab D i v) (hw : WfD D) (hi : i < D.S.length) (keep : List Bool) (torn : Int) (c : Nat) (hc : c ≤ 32) : Stab (crashD D keep torn c) i v := by
  obtain ⟨k, hk, h'⟩ := crash_mix hw keep torn c i hc hi
  have hr : readD (crashD D keep torn c) i = (crashD D keep torn c).S.getD i [] := by unfold readD; rw [if_neg (by simp [crashD])]
  have hv : readD (crashD D keep torn c) i = v := by rw [h', h.1, h.2, List.take_append_drop]
  exact ⟨hr ▸ hv, hv⟩
end Go.Proofs.YtmhlnbbnanehiaaDoor
/- A device: Write, Flush, Read of whatever, in one form each. -/
namespace Go.Proofs.YtmhlnbbnanehiaaDoor
open Go.RowKit Go.Maps Go.ChangeMaps

theorem errV0 : errV 0 = .nilIface := rfl
theorem errV_pos {n : Nat} (h : n ≠ 0) : errV n = .iface 103 (.int .i64 n) := by unfold errV; rw [if_neg h]
/-- what a call says that hands back bytes of its own, or a fault -/
def SlAns (w : World) (l : Bytes) (k : Nat) (e : Ending) (w' : World) : Prop :=
  ∃ A c, e = .returned (.tuple #[.slice A l.length c, errV k]) ∧ l.length ≤ c ∧ Rd w' A l ∧ (∀ ad, A = some ad → w.heap.size ≤ ad.block) ∧ Below w.heap.size w w'
theorem SlAns.mk {w w' : World} {l : Bytes} {k : Nat} {e : Ending} (h : ∃ A c, e = .returned (.tuple #[.slice A l.length c, errV k]) ∧ l.length ≤ c ∧ Rd w' A l ∧ (∀ ad, A = some ad → w.heap.size ≤ ad.block) ∧ Below w.heap.size w w') : SlAns w l k e w' := h
theorem SlAns.none_ {w : World} {k : Nat} {e : Ending} (h : e = .returned (.tuple #[.slice none 0 0, errV k])) : SlAns w [] k e w := ⟨none, 0, h, Nat.le_refl _, Rd.nil_, (fun ad e => by cases e), Below.refl _ _⟩
section
variable {w0 w : World} {F : Nat → Prop} {d : Nat} {D : Dv}
theorem DevB.write_all (h : DevB w0 w F d D) (i : Int) (A : Option Addr) (n c : Nat) (b : Bytes) (hn : b.length = n) (hrd : Rd w A b) (hAF : n = 32 → ∀ ad, A = some ad → ¬ F ad.block) :
    Calls Tryd.prog 23 #[.pointer (some ⟨d, 0, none⟩), .int .i64 i, .slice A n c] w fun e w' => e = .returned (errV (wrD D i b).2) ∧ ∃ F', DevB w0 w' F' d (wrD D i b).1 ∧ Keep F w w' ∧ ∀ k, F' k → F k ∨ w.heap.size ≤ k := by
  by_cases h1 : i < 0 ∨ (D.S.length : Int) ≤ i
  · have e : wrD D i b = (D, 1) := by unfold wrD; rw [if_pos h1]
    rw [e]
    refine (h.write_e1 i A n c h1).mono ?_
    rintro e w' ⟨rfl, rfl⟩
    exact ⟨rfl, F, h, Keep.refl _ _, fun k hk => .inl hk⟩
  · obtain ⟨i, rfl⟩ : ∃ k : Nat, i = k := ⟨i.toNat, by omega⟩
    have hi : i < D.S.length := by omega
    by_cases h2 : b.length ≠ 32
    · have e : wrD D (i : Int) b = (D, 3) := by unfold wrD; rw [if_neg h1, if_pos h2]
      rw [e]
      refine (h.write_e3 i A n c hi (by omega)).mono ?_
      rintro e w' ⟨rfl, rfl⟩
      exact ⟨rfl, F, h, Keep.refl _ _, fun k hk => .inl hk⟩
    · have hb : b.length = 32 := by omega
      obtain rfl : n = 32 := by omega
      cases hd : D.down with
      | true =>
        have e : wrD D (i : Int) b = (D, 9) := by unfold wrD; rw [if_neg h1, if_neg h2, if_pos hd]
        rw [e]
        refine (h.write_e9 i A c hi hd).mono ?_
        rintro e w' ⟨rfl, rfl⟩
        exact ⟨rfl, F, h, Keep.refl _ _, fun k hk => .inl hk⟩
      | false =>
        rw [wrD_ok hi hb hd]
        refine (h.write i A c b hi hd hb hrd (hAF rfl)).mono ?_
        rintro e w' ⟨rfl, F', hd', hk, hF⟩
        refine ⟨?_, F', hd', hk, hF⟩
        dsimp only
        unfold powV
        split <;> rfl
theorem DevB.flush_all (h : DevB w0 w F d D) :
    Calls Tryd.prog 25 #[.pointer (some ⟨d, 0, none⟩)] w fun e w' => e = .returned (errV (flD D).2) ∧ DevB w0 w' F d (flD D).1 ∧ Keep F w w' := by
  cases hd : D.down with
  | true =>
    have e : flD D = (D, 9) := by unfold flD; rw [if_pos hd]
    rw [e]
    refine (h.flush_dn hd).mono ?_
    rintro e w' ⟨rfl, rfl⟩
    exact ⟨rfl, h, Keep.refl _ _⟩
  | false =>
    by_cases hl : D.left = 0
    · have e : flD D = (stepD D, 9) := by unfold flD; rw [if_neg (by rw [hd]; decide), if_pos hl]
      rw [e]
      refine (h.flush_lost hd hl).mono ?_
      rintro e w' ⟨rfl, h1, h2⟩
      exact ⟨rfl, h1, h2⟩
    · have e : flD D = (flushD (stepD D), 0) := by unfold flD; rw [if_neg (by rw [hd]; decide), if_neg hl]
      rw [e]
      refine (h.flush hd hl).mono ?_
      rintro e w' ⟨rfl, h1, h2⟩
      exact ⟨rfl, h1, h2⟩
theorem DevB.read_all (h : DevB w0 w F d D) (i : Int) :
    Calls Tryd.prog 32 #[.pointer (some ⟨d, 0, none⟩), .int .i64 i] w (SlAns w (rdL D i) (rdE D i)) := by
  unfold rdL
  by_cases h1 : i < 0 ∨ (D.S.length : Int) ≤ i
  · have e : rdE D i = 1 := by unfold rdE; rw [if_pos h1]
    rw [e]
    refine (h.read_e1 i h1).mono ?_
    rintro e w' ⟨rfl, rfl⟩
    exact ⟨none, 0, rfl, Nat.le_refl _, Rd.nil_, (fun ad e => by cases e), Below.refl _ _⟩
  · obtain ⟨i, rfl⟩ : ∃ k : Nat, i = k := ⟨i.toNat, by omega⟩
    have hi : i < D.S.length := by omega
    cases hd : D.down with
    | true =>
      have e : rdE D (i : Int) = 9 := by unfold rdE; rw [if_neg h1, if_pos hd]
      rw [e]
      refine (h.read_e9 i hi hd).mono ?_
      rintro e w' ⟨rfl, rfl⟩
      exact ⟨none, 0, rfl, Nat.le_refl _, Rd.nil_, (fun ad e => by cases e), Below.refl _ _⟩
    | false =>
      have e : rdE D (i : Int) = 0 := by unfold rdE; rw [if_neg h1, if_neg (by rw [hd]; decide)]
      rw [e, if_pos rfl, Int.toNat_natCast]
      refine (h.read i hi hd).mono ?_
      rintro e w' ⟨g, cap, rfl, hg, hr, hl, hb, _⟩
      exact ⟨some ⟨g, 0, none⟩, cap, by rw [hl]; rfl, hr.le.1, hr.rd, fun ad e => by obtain rfl := Option.some.inj e; exact hg, hb⟩
end
end Go.Proofs.YtmhlnbbnanehiaaDoor
/- Is an error nil? As equations, for a walk. -/
namespace Go.Proofs.YtmhlnbbnanehiaaDoor
open Go.RowKit

/-- is an error nil? -/
def ErrIs (err : Value) (b : Bool) : Prop := (∀ (W : World) (x : Operand), (eqGuard .eql 25 x (.const .nilIface) err .nilIface).run Tryd.prog W = .ok () W) ∧ (∀ (W : World) (x : Operand), (eqGuard .neq 25 x (.const .nilIface) err .nilIface).run Tryd.prog W = .ok () W) ∧ (∀ W : World, (binOp .eql 25 err .nilIface).run Tryd.prog W = .ok (.bool b) W) ∧ (∀ W : World, (binOp .neq 25 err .nilIface).run Tryd.prog W = .ok (.bool (!b)) W)
theorem errIs_nil : ErrIs .nilIface true := ⟨fun W x => by go_simp, fun W x => by go_simp, fun W => by go_simp, fun W => by go_simp⟩
theorem errIs_some (k : Int) : ErrIs (.iface 103 (.int .i64 k)) false := ⟨fun W x => by go_simp, fun W x => by go_simp, fun W => by go_simp, fun W => by go_simp⟩
theorem errIs_errV (k : Nat) : ErrIs (errV k) (k == 0) := by
  by_cases h : k = 0
  · subst h; exact errIs_nil
  · have : (k == 0) = false := by simpa using h
    rw [this]
    unfold errV
    rw [if_neg h]
    exact errIs_some k
end Go.Proofs.YtmhlnbbnanehiaaDoor
/- Contracts of package image: the small ones, and New. -/
namespace Go.Proofs.YtmhlnbbnanehiaaDoor
open Go.RowKit

def rightB (n : Int) : Bool := decide (288 ≤ n) && decide (n ≤ 6400)
theorem rightB_true {n : Int} : rightB n = true ↔ 288 ≤ n ∧ n ≤ 6400 := by simp [rightB]
theorem rightB_false {n : Int} : rightB n = false ↔ n < 288 ∨ 6400 < n := by simp [rightB]; omega
def handleB (n : Int) : Bool := decide (1 ≤ n) && decide (n ≤ 40)
theorem handleB_true {n : Int} : handleB n = true ↔ 1 ≤ n ∧ n ≤ 40 := by simp [handleB]
theorem handleB_false {n : Int} : handleB n = false ↔ n < 1 ∨ 40 < n := by simp [handleB]; omega
def tagB (n : Int) : Bool := decide (0 ≤ n) && decide (n ≤ 15)
theorem tagB_true {n : Int} : tagB n = true ↔ 0 ≤ n ∧ n ≤ 15 := by simp [tagB]
theorem tagB_false {n : Int} : tagB n = false ↔ n < 0 ∨ 15 < n := by simp [tagB]; omega
def lenB (n : Int) : Bool := decide (1 ≤ n) && decide (n ≤ 1000)
theorem lenB_true {n : Int} : lenB n = true ↔ 1 ≤ n ∧ n ≤ 1000 := by simp [lenB]
theorem lenB_false {n : Int} : lenB n = false ↔ n < 1 ∨ 1000 < n := by simp [lenB]; omega
def withinB (n at_ len : Int) : Bool := decide (288 ≤ at_) && decide (len ≤ n) && decide (at_ ≤ n - len)
theorem withinB_true {n a l : Int} : withinB n a l = true ↔ 288 ≤ a ∧ l ≤ n ∧ a ≤ n - l := by simp [withinB, and_assoc]
end Go.Proofs.YtmhlnbbnanehiaaDoor
/- The contract of image.Put. -/
namespace Go.Proofs.YtmhlnbbnanehiaaDoor
open Go.RowKit

theorem splice_join (l x y : Bytes) (o : Nat) (h : o + x.length + y.length ≤ l.length) : splice (splice l o x) (o + x.length) y = splice l o (x ++ y) := by
  unfold splice
  have h1 : (l.take o).length = o := by simp; omega
  rw [List.take_append, h1, List.take_of_length_le (by omega), List.take_append, show o + x.length - o = x.length from by omega, List.take_of_length_le (Nat.le_refl _), Nat.sub_self, List.take_zero, List.append_nil]
  rw [List.drop_append, h1, List.drop_of_length_le (by omega), List.nil_append, List.drop_append, List.drop_of_length_le (by omega), List.nil_append, List.drop_drop]
  simp only [List.append_assoc, List.length_append]
  congr 4
  omega
/-- the five bytes of an entry -/
def entB (at_ len tag : Nat) : Bytes := UInt8.ofNat (tag + 1) :: (numB at_ 2 ++ numB len 2)
theorem entB_len (at_ len tag : Nat) : (entB at_ len tag).length = 5 := by simp [entB, numB_length]
def entO (h : Int) : Nat := (5 * (h - 1)).toNat

/-- an entry as a value -/
abbrev entV (h at_ len tag : Int) : Value := .agg #[.int .i64 h, .int .i64 at_, .int .i64 len, .int .i64 tag]
/-- a block of an entry's four cells -/
structure EntAt (w : World) (p : Nat) (h at_ len tag : Int) : Prop where
  c0 : w.cell? ⟨p, 0, none⟩ = some (.int .i64 h)
  c1 : w.cell? ⟨p, 1, none⟩ = some (.int .i64 at_)
  c2 : w.cell? ⟨p, 2, none⟩ = some (.int .i64 len)
  c3 : w.cell? ⟨p, 3, none⟩ = some (.int .i64 tag)
theorem EntAt.new (w : World) (h at_ len tag : Int) (t : TypeId) : EntAt (w.alloc (.cells #[.int .i64 h, .int .i64 at_, .int .i64 len, .int .i64 tag] t)) w.heap.size h at_ len tag :=
  ⟨World.cell?_alloc_mark w _ t (0, 0) 0, World.cell?_alloc_mark w _ t (0, 0) 1, World.cell?_alloc_mark w _ t (0, 0) 2, World.cell?_alloc_mark w _ t (0, 0) 3⟩
theorem EntAt.keep {w w' : World} {p : Nat} {h at_ len tag : Int} (e : EntAt w p h at_ len tag) (hk : w'.heap[p]? = w.heap[p]?) : EntAt w' p h at_ len tag :=
  ⟨(World.cell?_of_block (w := w) hk).trans e.c0, (World.cell?_of_block (w := w) hk).trans e.c1, (World.cell?_of_block (w := w) hk).trans e.c2, (World.cell?_of_block (w := w) hk).trans e.c3⟩

/-- an image with an entry -/
def putEnt (l : Bytes) (h at_ len tag : Int) : Bytes := splice l (entO h) (entB at_.toNat len.toNat tag.toNat)
theorem putEnt_len (l : Bytes) (h at_ len tag : Int) (h1 : 1 ≤ h) (h2 : h ≤ 40) (hl : 200 ≤ l.length) : (putEnt l h at_ len tag).length = l.length := by
  unfold putEnt; refine splice_len _ _ _ ?_; rw [entB_len]; unfold entO; omega

/-- what Put answers, whatever it is handed -/
def PutAns (w w' : World) (n : Nat) (l : Bytes) (h at_ len tag : Int) (v err : Value) : Prop :=
  (∃ k, err = .iface 103 (.int .i64 k)) ∨
  (err = .nilIface ∧ handleB h = true ∧ tagB tag = true ∧ lenB len = true ∧ withinB n at_ len = true ∧ ∃ g cap, v = .slice (some ⟨g, 0, none⟩) n cap ∧ w.heap.size ≤ g ∧ Row w' 5 g cap (putEnt l h at_ len tag))
theorem PutAns.isNil {w w' : World} {n : Nat} {l : Bytes} {h at_ len tag : Int} {v err : Value} (a : PutAns w w' n l h at_ len tag v err) : ∃ b, ErrIs err b ∧
    (b = true → handleB h = true ∧ tagB tag = true ∧ lenB len = true ∧ withinB n at_ len = true ∧ ∃ g cap, v = .slice (some ⟨g, 0, none⟩) n cap ∧ w.heap.size ≤ g ∧ Row w' 5 g cap (putEnt l h at_ len tag)) := by
  rcases a with ⟨k, rfl⟩ | ⟨rfl, h1⟩
  · exact ⟨false, errIs_some k, fun h => by cases h⟩
  · exact ⟨true, errIs_nil, fun _ => h1⟩
end Go.Proofs.YtmhlnbbnanehiaaDoor
/- The contract of image.PutRoot. -/
namespace Go.Proofs.YtmhlnbbnanehiaaDoor
open Go.RowKit

abbrev rootV (s : Bytes) (h : Int) : Value := .agg #[sv s, .int .i64 h]
def rootO (i : Int) : Nat := (200 + i * 11).toNat
/-- the eleven bytes of a root -/
def rootB (s : Bytes) (h : Int) : Bytes := nameB s ++ [0, 0, UInt8.ofNat h.toNat]
end Go.Proofs.YtmhlnbbnanehiaaDoor
/- Plain facts on changes of bytes. No program in sight. -/
namespace Go.Proofs.YtmhlnbbnanehiaaDoor

/-- a change: where, what stood there, what stands there then -/
structure Chg where
  at_ : Int
  old : Bytes
  new : Bytes

/-- how far two lists differ, from the first place on -/
def diffRun : Bytes → Bytes → Nat
  | x :: a, y :: b => if x = y then 0 else diffRun a b + 1
  | _, _ => 0
theorem diffRun_le (a b : Bytes) : diffRun a b ≤ a.length ∧ diffRun a b ≤ b.length := by
  induction a generalizing b with
  | nil => simp [diffRun]
  | cons x a ih =>
    cases b with
    | nil => simp [diffRun]
    | cons y b =>
      simp only [diffRun]
      have := ih b
      split <;> simp <;> omega
theorem diffRun_at (k : Nat) : ∀ (a b : Bytes), (∀ j, j < k → a[j]? ≠ b[j]?) → k ≤ a.length → k ≤ b.length → (k = a.length ∨ k = b.length ∨ a[k]? = b[k]?) → diffRun a b = k := by
  induction k with
  | zero =>
    intro a b _ _ _ h
    cases a with
    | nil => simp [diffRun]
    | cons x a =>
      cases b with
      | nil => simp [diffRun]
      | cons y b => simp at h; simp [diffRun, h]
  | succ k ih =>
    intro a b hne ha hb h
    cases a with
    | nil => simp at ha
    | cons x a =>
      cases b with
      | nil => simp at hb
      | cons y b =>
        have h0 := hne 0 (by omega)
        simp at h0
        have := ih a b (fun j hj => by have := hne (j + 1) (by omega); simpa using this) (by simpa using ha) (by simpa using hb) (by simpa using h)
        simp [diffRun, h0, this]
theorem diffRun_ne (a b : Bytes) (j : Nat) (h : j < diffRun a b) : a[j]? ≠ b[j]? := by
  induction a generalizing b j with
  | nil => simp [diffRun] at h
  | cons x a ih =>
    cases b with
    | nil => simp [diffRun] at h
    | cons y b =>
      simp only [diffRun] at h
      split at h
      · omega
      · rename_i hne
        cases j with
        | zero => simpa using hne
        | succ j => simpa using ih b j (by omega)
theorem diffRun_stop (a b : Bytes) (hl : a.length = b.length) (h : diffRun a b < a.length) : a[diffRun a b]? = b[diffRun a b]? := by
  induction a generalizing b with
  | nil => simp at h
  | cons x a ih =>
    cases b with
    | nil => simp at hl
    | cons y b =>
      simp only [diffRun] at h ⊢
      split
      · rename_i he; simp [he]
      · rename_i hne
        rw [if_neg hne] at h
        simpa using ih b (by simpa using hl) (by simpa using h)

/-- the run that begins at i -/
def runAt (a b : Bytes) (i : Nat) : Nat := diffRun (a.drop i) (b.drop i)
/-- the changes from i on; f: fuel -/
def diffF (a b : Bytes) : Nat → Nat → List Chg
  | 0, _ => []
  | f + 1, i =>
    if i < a.length then
      (if 0 < runAt a b i then [⟨i, (a.drop i).take (runAt a b i), (b.drop i).take (runAt a b i)⟩] else []) ++ diffF a b f (i + runAt a b i + 1)
    else []
theorem diffF_fuel (a b : Bytes) (f : Nat) : ∀ g i, a.length - i ≤ f → a.length - i ≤ g → diffF a b f i = diffF a b g i := by
  induction f with
  | zero =>
    intro g i hf hg
    cases g with
    | zero => rfl
    | succ g => simp only [diffF]; rw [if_neg (by omega)]
  | succ f ih =>
    intro g i hf hg
    cases g with
    | zero => simp only [diffF]; rw [if_neg (by omega)]
    | succ g =>
      simp only [diffF]
      split
      · rw [ih g _ (by omega) (by omega)]
      · rfl
/-- all changes -/
def diffL (a b : Bytes) : List Chg := diffF a b a.length 0
theorem diffF_step (a b : Bytes) (i : Nat) (h : i < a.length) : diffF a b (a.length - i) i =
    (if 0 < runAt a b i then [⟨i, (a.drop i).take (runAt a b i), (b.drop i).take (runAt a b i)⟩] else []) ++ diffF a b (a.length - (i + runAt a b i + 1)) (i + runAt a b i + 1) := by
  obtain ⟨f, hf⟩ : ∃ f, a.length - i = f + 1 := ⟨a.length - i - 1, by omega⟩
  rw [hf, diffF, if_pos h, diffF_fuel a b f (a.length - (i + runAt a b i + 1)) _ (by omega) (by omega)]
theorem runAt_le (a b : Bytes) (i : Nat) (hl : a.length = b.length) (hi : i ≤ a.length) : i + runAt a b i ≤ a.length := by
  have := (diffRun_le (a.drop i) (b.drop i)).1
  simp at this
  unfold runAt; omega
theorem runAt_ne (a b : Bytes) (i j : Nat) (h1 : i ≤ j) (h2 : j < i + runAt a b i) : a[j]? ≠ b[j]? := by
  have := diffRun_ne (a.drop i) (b.drop i) (j - i) (by unfold runAt at h2; omega)
  rw [List.getElem?_drop, List.getElem?_drop, show i + (j - i) = j from by omega] at this
  exact this
theorem runAt_stop (a b : Bytes) (i : Nat) (hl : a.length = b.length) (h : i + runAt a b i < a.length) : a[i + runAt a b i]? = b[i + runAt a b i]? := by
  have := diffRun_stop (a.drop i) (b.drop i) (by simp [hl]) (by unfold runAt at h; simp; omega)
  rw [List.getElem?_drop, List.getElem?_drop] at this
  exact this
/-- a walk that came to k has found the run -/
theorem runAt_at (a b : Bytes) (i k : Nat) (hl : a.length = b.length) (hik : i ≤ k) (hk : k ≤ a.length) (hne : ∀ j, i ≤ j → j < k → a[j]? ≠ b[j]?) (hstop : k = a.length ∨ a[k]? = b[k]?) : runAt a b i = k - i := by
  unfold runAt
  refine diffRun_at (k - i) _ _ (fun j hj => ?_) (by simp; omega) (by simp; omega) ?_
  · rw [List.getElem?_drop, List.getElem?_drop]; exact hne (i + j) (by omega) (by omega)
  · rcases hstop with h | h
    · left; simp; omega
    · right; right
      rw [List.getElem?_drop, List.getElem?_drop, show i + (k - i) = k from by omega]; exact h
end Go.Proofs.YtmhlnbbnanehiaaDoor
/- Plain facts on where changes lie. No program in sight. -/
namespace Go.Proofs.YtmhlnbbnanehiaaDoor

/-- what each change is -/
structure IsChg (a b : Bytes) (i : Nat) (c : Chg) (j r : Nat) : Prop where
  at_ : c.at_ = j
  lo : i ≤ j
  pos : 0 < r
  hi : j + r ≤ a.length
  old : c.old = (a.drop j).take r
  new : c.new = (b.drop j).take r
  ne : ∀ p, j ≤ p → p < j + r → a[p]? ≠ b[p]?
theorem diffF_mem (a b : Bytes) (hl : a.length = b.length) (f : Nat) : ∀ i, ∀ c ∈ diffF a b f i, ∃ j r, IsChg a b i c j r := by
  induction f with
  | zero => intro i c hc; simp [diffF] at hc
  | succ f ih =>
    intro i c hc
    simp only [diffF] at hc
    split at hc
    · rename_i hi
      rw [List.mem_append] at hc
      rcases hc with hc | hc
      · split at hc
        · rename_i hr
          rw [List.mem_singleton] at hc
          subst hc
          exact ⟨i, runAt a b i, rfl, Nat.le_refl _, hr, runAt_le a b i hl (by omega), rfl, rfl, fun p h1 h2 => runAt_ne a b i p h1 h2⟩
        · simp at hc
      · obtain ⟨j, r, h⟩ := ih _ c hc
        exact ⟨j, r, h.at_, by have := h.lo; omega, h.pos, h.hi, h.old, h.new, h.ne⟩
    · simp at hc
theorem diffL_mem (a b : Bytes) (hl : a.length = b.length) (c : Chg) (h : c ∈ diffL a b) : ∃ j r, IsChg a b 0 c j r := diffF_mem a b hl _ 0 c h
theorem IsChg.old_len {a b : Bytes} {i : Nat} {c : Chg} {j r : Nat} (h : IsChg a b i c j r) : c.old.length = r := by rw [h.old]; simp; have := h.hi; omega
theorem IsChg.new_len {a b : Bytes} {i : Nat} {c : Chg} {j r : Nat} (h : IsChg a b i c j r) (hl : a.length = b.length) : c.new.length = r := by rw [h.new]; simp; have := h.hi; omega
/-- where nothing differs from i on no change is told -/
theorem diffF_nil (a b : Bytes) (f : Nat) : ∀ i, a.length - i ≤ f → diffF a b f i = [] → ∀ p, i ≤ p → p < a.length → a.length = b.length → a[p]? = b[p]? := by
  induction f with
  | zero => intro i hf _ p hp hl _; omega
  | succ f ih =>
    intro i hf h p hp hpl hl
    simp only [diffF] at h
    rw [if_pos (by omega), List.append_eq_nil_iff] at h
    have h0 : runAt a b i = 0 := by
      rcases Nat.eq_zero_or_pos (runAt a b i) with h0 | h0
      · exact h0
      · have := h.1; rw [if_pos h0] at this; cases this
    rw [h0] at h
    rcases Nat.eq_or_lt_of_le hp with he | hlt
    · subst he
      have := runAt_stop a b i hl (by omega)
      rw [h0, Nat.add_zero] at this
      exact this
    · exact ih _ (by omega) h.2 p (by omega) hpl hl
theorem diffL_eq_nil (a b : Bytes) (hl : a.length = b.length) (h : diffL a b = []) : a = b := by
  apply List.ext_getElem? 
  intro p
  by_cases hp : p < a.length
  · exact diffF_nil a b _ 0 (by omega) h p (by omega) hp hl
  · rw [List.getElem?_eq_none (by omega), List.getElem?_eq_none (by omega)]
theorem diffL_self (a : Bytes) : diffL a a = [] := by
  cases h : diffL a a with
  | nil => rfl
  | cons c r =>
    obtain ⟨j, r', hc⟩ := diffL_mem a a rfl c (by rw [h]; simp)
    exact absurd rfl (hc.ne j (Nat.le_refl _) (by have := hc.pos; omega))
/-- what was put at a place changes no byte but there -/
theorem splice_same (l x : Bytes) (o p : Nat) (h : o + x.length ≤ l.length) (hp : p < o ∨ o + x.length ≤ p) : l[p]? = (splice l o x)[p]? := by
  unfold splice
  have hl : (l.take o).length = o := by simp; omega
  rcases hp with hp | hp
  · rw [List.getElem?_append_left (by omega), List.getElem?_take, if_pos hp]
  · rw [List.getElem?_append_right (by omega), hl, List.getElem?_append_right (by omega), List.getElem?_drop]
    congr 1; omega
theorem splice_get (l x : Bytes) (o q : Nat) (h : o + x.length ≤ l.length) (hq : q < x.length) : (splice l o x)[o + q]? = x[q]? := by
  unfold splice
  have hl : (l.take o).length = o := by simp; omega
  rw [List.getElem?_append_right (by omega), hl, List.getElem?_append_left (by omega)]
  congr 1; omega
theorem diff_splice (l x : Bytes) (o : Nat) (h : o + x.length ≤ l.length) (c : Chg) (hc : c ∈ diffL l (splice l o x)) : ∃ j r : Nat, c.at_ = j ∧ c.new.length = r ∧ o ≤ j ∧ j + r ≤ o + x.length := by
  have hl : l.length = (splice l o x).length := (length_splice l o x h).symm
  obtain ⟨j, r, hj⟩ := diffL_mem _ _ hl c hc
  refine ⟨j, r, hj.at_, hj.new_len hl, ?_, ?_⟩
  · rcases Nat.lt_or_ge j o with hlt | hge
    · exact absurd (splice_same l x o j h (.inl hlt)) (hj.ne j (Nat.le_refl _) (by have := hj.pos; omega))
    · exact hge
  · rcases Nat.lt_or_ge (o + x.length) (j + r) with hlt | hge
    · have := hj.pos
      exact absurd (splice_same l x o (j + r - 1) h (.inr (by omega))) (hj.ne (j + r - 1) (by omega) (by omega))
    · exact hge
end Go.Proofs.YtmhlnbbnanehiaaDoor
/- Plain words for what is wrong with an image, and what mending makes of it. No walk here. -/
namespace Go.Proofs.YtmhlnbbnanehiaaDoor

/-- the five bytes of the handle k + 1 -/
def rawE (l : Bytes) (k : Nat) : Bytes := (l.drop (5 * k)).take 5
/-- the eleven bytes of a root -/
def rawR (l : Bytes) (i : Nat) : Bytes := (l.drop (200 + 11 * i)).take 11
def rHd (r : Bytes) : UInt8 := r.headD 0
def rAt (r : Bytes) : Nat := ofB ((r.drop 1).take 2)
def rLen (r : Bytes) : Nat := ofB ((r.drop 3).take 2)
def rTag (r : Bytes) : Int := ((rHd r).toNat : Int) - 1
def hasE (r : Bytes) : Bool := rHd r != 0
def strayE (n : Nat) (r : Bytes) : Bool := !(tagB (rTag r) && lenB (rLen r) && withinB n (rAt r) (rLen r))
def zeroE (r : Bytes) : Bool := !r.any nonZero
def overE (r s : Bytes) : Bool := decide (rAt r < rAt s + rLen s) && decide (rAt s < rAt r + rLen r)
def wholeE (n : Nat) (r : Bytes) : Bool := hasE r && !strayE n r

/-- a fault -/
structure Flt where
  what : Nat
  which : Nat
/-- what a handle is: 0: none; 1, 2, 3: a fault; 6: right -/
def kindH (n : Nat) (R : Nat → Bytes) (k : Nat) : Nat :=
  if hasE (R k) = true then (if strayE n (R k) = true then 1 else if (List.range k).any (fun j => wholeE n (R j) && overE (R k) (R j)) = true then 2 else 6)
  else (if zeroE (R k) = true then 0 else 3)
def fltOf (kind which : Nat) : List Flt := if kind = 0 ∨ kind = 6 then [] else [⟨kind, which⟩]
def faultsH (n : Nat) (R : Nat → Bytes) (m : Nat) : List Flt := (List.range m).flatMap fun k => fltOf (kindH n R k) (k + 1)
def leadsE (n : Nat) (R : Nat → Bytes) (x : UInt8) : Bool := (List.range 40).any fun k => kindH n R k == 6 && x.toNat == k + 1
def nmR (r : Bytes) : Bytes := nameAt (r.take 8)
def badR (leads : UInt8 → Bool) (r : Bytes) : Bool := !gotName (r.take 8) || r.getD 8 0 != 0 || r.getD 9 0 != 0 || !leads (r.getD 10 0)
def okR (leads : UInt8 → Bool) (r : Bytes) : Bool := !zeroE r && !badR leads r
/-- what a root is: 0: none; 4, 5: a fault; 6: right -/
def kindR (leads : UInt8 → Bool) (S : Nat → Bytes) (i : Nat) : Nat :=
  if zeroE (S i) = true then 0 else if badR leads (S i) = true then 4 else if (List.range i).any (fun j => okR leads (S j) && (nmR (S i) == nmR (S j))) = true then 5 else 6
def faultsR (leads : UInt8 → Bool) (S : Nat → Bytes) (m : Nat) : List Flt := (List.range m).flatMap fun i => fltOf (kindR leads S i) i
/-- what is wrong with an image -/
def checkL (l : Bytes) : List Flt := faultsH l.length (rawE l) 40 ++ faultsR (leadsE l.length (rawE l)) (rawR l) 8

theorem faultsH_succ (n : Nat) (R : Nat → Bytes) (m : Nat) : faultsH n R (m + 1) = faultsH n R m ++ fltOf (kindH n R m) (m + 1) := by
  simp [faultsH, List.range_succ]
theorem faultsR_succ (leads : UInt8 → Bool) (S : Nat → Bytes) (m : Nat) : faultsR leads S (m + 1) = faultsR leads S m ++ fltOf (kindR leads S m) m := by
  simp [faultsR, List.range_succ]
theorem fltOf_len (a b : Nat) : (fltOf a b).length ≤ 1 := by unfold fltOf; split <;> simp
theorem faultsH_len (n : Nat) (R : Nat → Bytes) (m : Nat) : (faultsH n R m).length ≤ m := by
  induction m with
  | zero => simp [faultsH]
  | succ m ih => rw [faultsH_succ, List.length_append]; have := fltOf_len (kindH n R m) (m + 1); omega
theorem faultsR_len (leads : UInt8 → Bool) (S : Nat → Bytes) (m : Nat) : (faultsR leads S m).length ≤ m := by
  induction m with
  | zero => simp [faultsR]
  | succ m ih => rw [faultsR_succ, List.length_append]; have := fltOf_len (kindR leads S m) m; omega
theorem kindH_cases (n : Nat) (R : Nat → Bytes) (k : Nat) : kindH n R k = 0 ∨ kindH n R k = 1 ∨ kindH n R k = 2 ∨ kindH n R k = 3 ∨ kindH n R k = 6 := by
  unfold kindH; repeat' split
  all_goals simp
theorem kindR_cases (leads : UInt8 → Bool) (S : Nat → Bytes) (k : Nat) : kindR leads S k = 0 ∨ kindR leads S k = 4 ∨ kindR leads S k = 5 ∨ kindR leads S k = 6 := by
  unfold kindR; repeat' split
  all_goals simp
theorem mem_fltOf {a b : Nat} {f : Flt} : f ∈ fltOf a b ↔ ¬ (a = 0 ∨ a = 6) ∧ f = ⟨a, b⟩ := by
  unfold fltOf; split <;> simp_all
theorem mem_checkL {l : Bytes} {f : Flt} : f ∈ checkL l ↔ (∃ k, k < 40 ∧ ¬ (kindH l.length (rawE l) k = 0 ∨ kindH l.length (rawE l) k = 6) ∧ f = ⟨kindH l.length (rawE l) k, k + 1⟩) ∨
    (∃ i, i < 8 ∧ ¬ (kindR (leadsE l.length (rawE l)) (rawR l) i = 0 ∨ kindR (leadsE l.length (rawE l)) (rawR l) i = 6) ∧ f = ⟨kindR (leadsE l.length (rawE l)) (rawR l) i, i⟩) := by
  simp only [checkL, List.mem_append, faultsH, faultsR, List.mem_flatMap, List.mem_range, mem_fltOf]

/-- the same handles, once what is wrong is 0 -/
theorem zeros_has : hasE (List.replicate 5 0) = false := by decide
theorem zeros_zero (n : Nat) : zeroE (List.replicate n 0) = true := by
  simp [zeroE, nonZero]
theorem kindH_after (n : Nat) (R R' : Nat → Bytes) (h : ∀ k, k < 40 → R' k = if kindH n R k = 0 ∨ kindH n R k = 6 then R k else List.replicate 5 0) (k : Nat) (hk : k < 40) :
    kindH n R' k = if kindH n R k = 6 then 6 else 0 := by
  have hz : kindH n R k ≠ 0 → kindH n R k ≠ 6 → kindH n R' k = 0 := fun h0 h6 => by
    have := h k hk
    rw [if_neg (by omega)] at this
    unfold kindH
    rw [this, zeros_has, zeros_zero]; simp
  rcases kindH_cases n R k with h0 | h0 | h0 | h0 | h0
  · rw [if_neg (by omega)]
    have hR := h k hk
    rw [if_pos (by omega)] at hR
    unfold kindH at h0 ⊢
    rw [hR]
    split at h0
    · repeat' split at h0
      all_goals simp at h0
    · rename_i hh
      rw [if_neg hh]
      split at h0
      · rename_i hz; rw [if_pos hz]
      · simp at h0
  · rw [if_neg (by omega)]; exact hz (by omega) (by omega)
  · rw [if_neg (by omega)]; exact hz (by omega) (by omega)
  · rw [if_neg (by omega)]; exact hz (by omega) (by omega)
  · rw [if_pos h0]
    have hR := h k hk
    rw [if_pos (by omega)] at hR
    unfold kindH at h0 ⊢
    rw [hR]
    split at h0
    · rename_i hh
      rw [if_pos hh]
      split at h0
      · simp at h0
      · rename_i hs
        rw [if_neg hs]
        split at h0
        · simp at h0
        · rename_i ha
          rw [if_neg]
          intro hx
          apply ha
          rw [List.any_eq_true] at hx ⊢
          obtain ⟨j, hj, hw⟩ := hx
          refine ⟨j, hj, ?_⟩
          have hj' : j < k := List.mem_range.1 hj
          have hRj := h j (by omega)
          split at hRj
          · rw [← hRj]; exact hw
          · rw [hRj] at hw; simp only [wholeE, zeros_has, Bool.false_and, Bool.false_eq_true] at hw
    · split at h0 <;> simp at h0
theorem leadsE_after (n : Nat) (R R' : Nat → Bytes) (h : ∀ k, k < 40 → kindH n R' k = if kindH n R k = 6 then 6 else 0) : leadsE n R' = leadsE n R := by
  funext x
  have : ∀ k ∈ List.range 40, (kindH n R' k == 6 && x.toNat == k + 1) = (kindH n R k == 6 && x.toNat == k + 1) := fun k hk => by
    rw [h k (List.mem_range.1 hk)]
    split
    · rename_i h6; rw [h6]
    · rename_i h6; simp [h6]
  unfold leadsE
  rw [Bool.eq_iff_iff, List.any_eq_true, List.any_eq_true]
  constructor
  · rintro ⟨k, hk, h⟩; exact ⟨k, hk, (this k hk) ▸ h⟩
  · rintro ⟨k, hk, h⟩; exact ⟨k, hk, (this k hk).symm ▸ h⟩
theorem kindR_after (leads : UInt8 → Bool) (S S' : Nat → Bytes) (h : ∀ i, i < 8 → S' i = if kindR leads S i = 0 ∨ kindR leads S i = 6 then S i else List.replicate 11 0) (i : Nat) (hi : i < 8) :
    kindR leads S' i = if kindR leads S i = 6 then 6 else 0 := by
  have hz : kindR leads S i ≠ 0 → kindR leads S i ≠ 6 → kindR leads S' i = 0 := fun h0 h6 => by
    have := h i hi
    rw [if_neg (by omega)] at this
    unfold kindR
    rw [this, zeros_zero]; simp
  rcases kindR_cases leads S i with h0 | h0 | h0 | h0
  · rw [if_neg (by omega)]
    have hS := h i hi
    rw [if_pos (by omega)] at hS
    unfold kindR at h0 ⊢
    rw [hS]
    split at h0
    · rename_i hh; rw [if_pos hh]
    · repeat' split at h0
      all_goals simp at h0
  · rw [if_neg (by omega)]; exact hz (by omega) (by omega)
  · rw [if_neg (by omega)]; exact hz (by omega) (by omega)
  · rw [if_pos h0]
    have hS := h i hi
    rw [if_pos (by omega)] at hS
    unfold kindR at h0 ⊢
    rw [hS]
    split at h0
    · simp at h0
    · rename_i hh
      rw [if_neg hh]
      split at h0
      · simp at h0
      · rename_i hb
        rw [if_neg hb]
        split at h0
        · simp at h0
        · rename_i ha
          rw [if_neg]
          intro hx
          apply ha
          rw [List.any_eq_true] at hx ⊢
          obtain ⟨j, hj, hw⟩ := hx
          refine ⟨j, hj, ?_⟩
          have hj' : j < i := List.mem_range.1 hj
          have hSj := h j (by omega)
          split at hSj
          · rw [← hSj]; exact hw
          · rw [hSj] at hw; simp only [okR, zeros_zero, Bool.not_true, Bool.false_and, Bool.false_eq_true] at hw

/-- where a fault's bytes lie -/
def fltO (f : Flt) : Nat := if f.what = 4 ∨ f.what = 5 then 200 + 11 * f.which else 5 * (f.which - 1)
def fltN (f : Flt) : Nat := if f.what = 4 ∨ f.what = 5 then 11 else 5
def clearF (l : Bytes) (f : Flt) : Bytes := splice l (fltO f) (List.replicate (fltN f) 0)
def clearAll (l : Bytes) (fs : List Flt) : Bytes := fs.foldl clearF l
def FltIn (n : Nat) (f : Flt) : Prop := fltO f + fltN f ≤ n
theorem splice_at (l x : Bytes) (o p : Nat) (h : o + x.length ≤ l.length) : (splice l o x)[p]? = if o ≤ p ∧ p < o + x.length then x[p - o]? else l[p]? := by
  split
  · rename_i hp
    have := splice_get l x o (p - o) h (by omega)
    rw [show o + (p - o) = p from by omega] at this
    exact this
  · exact (splice_same l x o p h (by omega)).symm
theorem clearF_len (l : Bytes) (f : Flt) (h : FltIn l.length f) : (clearF l f).length = l.length := by
  unfold clearF; exact length_splice _ _ _ (by rw [List.length_replicate]; exact h)
theorem clearAll_len (fs : List Flt) : ∀ l : Bytes, (∀ f ∈ fs, FltIn l.length f) → (clearAll l fs).length = l.length := by
  induction fs with
  | nil => intro l _; rfl
  | cons f fs ih =>
    intro l h
    have h1 := clearF_len l f (h f (by simp))
    show (clearAll (clearF l f) fs).length = _
    rw [ih _ (fun g hg => by rw [h1]; exact h g (by simp [hg])), h1]
def Cleared (fs : List Flt) (p : Nat) : Prop := ∃ f ∈ fs, fltO f ≤ p ∧ p < fltO f + fltN f
theorem clearAll_out (fs : List Flt) (p : Nat) (hp : ¬ Cleared fs p) : ∀ l : Bytes, (∀ f ∈ fs, FltIn l.length f) → (clearAll l fs)[p]? = l[p]? := by
  induction fs with
  | nil => intro l _; rfl
  | cons f fs ih =>
    intro l h
    have h1 := clearF_len l f (h f (by simp))
    show (clearAll (clearF l f) fs)[p]? = _
    rw [ih (fun ⟨g, hg, hh⟩ => hp ⟨g, by simp [hg], hh⟩) _ (fun g hg => by rw [h1]; exact h g (by simp [hg]))]
    unfold clearF
    rw [splice_at _ _ _ _ (by rw [List.length_replicate]; exact h f (by simp)), if_neg]
    rw [List.length_replicate]
    exact fun hh => hp ⟨f, by simp, hh⟩
theorem clearAll_zero (fs : List Flt) (p : Nat) : ∀ l : Bytes, (∀ f ∈ fs, FltIn l.length f) → l[p]? = some 0 → (clearAll l fs)[p]? = some 0 := by
  induction fs with
  | nil => intro l _ h; exact h
  | cons f fs ih =>
    intro l h hz
    have h1 := clearF_len l f (h f (by simp))
    show (clearAll (clearF l f) fs)[p]? = _
    refine ih _ (fun g hg => by rw [h1]; exact h g (by simp [hg])) ?_
    unfold clearF
    rw [splice_at _ _ _ _ (by rw [List.length_replicate]; exact h f (by simp))]
    split
    · rename_i hh; rw [List.length_replicate] at hh; rw [List.getElem?_replicate, if_pos (by omega)]
    · exact hz
theorem clearAll_in (fs : List Flt) (p : Nat) (hp : Cleared fs p) : ∀ l : Bytes, (∀ f ∈ fs, FltIn l.length f) → (clearAll l fs)[p]? = some 0 := by
  induction fs with
  | nil => obtain ⟨f, hf, _⟩ := hp; simp at hf
  | cons f fs ih =>
    intro l h
    have h1 := clearF_len l f (h f (by simp))
    have h2 : ∀ g ∈ fs, FltIn (clearF l f).length g := fun g hg => by rw [h1]; exact h g (by simp [hg])
    show (clearAll (clearF l f) fs)[p]? = _
    by_cases hc : Cleared fs p
    · exact ih hc _ h2
    · refine clearAll_zero fs p _ h2 ?_
      obtain ⟨g, hg, hh⟩ := hp
      rcases List.mem_cons.1 hg with rfl | hg
      · unfold clearF
        rw [splice_at _ _ _ _ (by rw [List.length_replicate]; exact h g (by simp)), if_pos (by rw [List.length_replicate]; exact hh), List.getElem?_replicate, if_pos (by omega)]
      · exact absurd ⟨g, hg, hh⟩ hc
/-- an image without what is wrong -/
def mendL (l : Bytes) : Bytes := clearAll l (checkL l)
theorem flt_in {l : Bytes} (hl : 288 ≤ l.length) {f : Flt} (hf : f ∈ checkL l) : FltIn l.length f := by
  unfold FltIn fltO fltN
  rcases mem_checkL.1 hf with ⟨k, hk, hn, rfl⟩ | ⟨i, hi, hn, rfl⟩
  · have := kindH_cases l.length (rawE l) k
    rw [if_neg (by simp only; omega), if_neg (by simp only; omega)]
    simp only; omega
  · have := kindR_cases (leadsE l.length (rawE l)) (rawR l) i
    rw [if_pos (by simp only; omega), if_pos (by simp only; omega)]
    simp only; omega
theorem mendL_len {l : Bytes} (hl : 288 ≤ l.length) : (mendL l).length = l.length := clearAll_len _ l (fun _ hf => flt_in hl hf)
theorem cleared_h {l : Bytes} {k q : Nat} (hk : k < 40) (hq : q < 5) : Cleared (checkL l) (5 * k + q) ↔ ¬ (kindH l.length (rawE l) k = 0 ∨ kindH l.length (rawE l) k = 6) := by
  constructor
  · rintro ⟨f, hf, h1, h2⟩
    unfold fltO fltN at *
    rcases mem_checkL.1 hf with ⟨k', hk', hn, rfl⟩ | ⟨i, hi, hn, rfl⟩
    · have := kindH_cases l.length (rawE l) k'
      rw [if_neg (by simp only; omega)] at h1 h2
      rw [if_neg (by simp only; omega)] at h2
      simp only at h1 h2
      obtain rfl : k' = k := by omega
      exact hn
    · have := kindR_cases (leadsE l.length (rawE l)) (rawR l) i
      rw [if_pos (by simp only; omega)] at h1 h2
      simp only at h1; omega
  · intro hn
    refine ⟨_, mem_checkL.2 (.inl ⟨k, hk, hn, rfl⟩), ?_⟩
    have := kindH_cases l.length (rawE l) k
    unfold fltO fltN
    rw [if_neg (by simp only; omega), if_neg (by simp only; omega)]
    simp only; omega
theorem cleared_r {l : Bytes} {i q : Nat} (hi : i < 8) (hq : q < 11) : Cleared (checkL l) (200 + 11 * i + q) ↔ ¬ (kindR (leadsE l.length (rawE l)) (rawR l) i = 0 ∨ kindR (leadsE l.length (rawE l)) (rawR l) i = 6) := by
  constructor
  · rintro ⟨f, hf, h1, h2⟩
    unfold fltO fltN at *
    rcases mem_checkL.1 hf with ⟨k', hk', hn, rfl⟩ | ⟨i', hi', hn, rfl⟩
    · have := kindH_cases l.length (rawE l) k'
      rw [if_neg (by simp only; omega)] at h1 h2
      rw [if_neg (by simp only; omega)] at h2
      simp only at h1 h2
      omega
    · have := kindR_cases (leadsE l.length (rawE l)) (rawR l) i'
      rw [if_pos (by simp only; omega)] at h1 h2
      rw [if_pos (by simp only; omega)] at h2
      simp only at h1 h2
      obtain rfl : i' = i := by omega
      exact hn
  · intro hn
    refine ⟨_, mem_checkL.2 (.inr ⟨i, hi, hn, rfl⟩), ?_⟩
    have := kindR_cases (leadsE l.length (rawE l)) (rawR l) i
    unfold fltO fltN
    rw [if_pos (by simp only; omega), if_pos (by simp only; omega)]
    simp only; omega
theorem mend_rawE {l : Bytes} (hl : 288 ≤ l.length) (k : Nat) (hk : k < 40) : rawE (mendL l) k = if kindH l.length (rawE l) k = 0 ∨ kindH l.length (rawE l) k = 6 then rawE l k else List.replicate 5 0 := by
  have hin : ∀ f ∈ checkL l, FltIn l.length f := fun _ hf => flt_in hl hf
  apply List.ext_getElem?
  intro q
  unfold rawE
  rw [List.getElem?_take, List.getElem?_drop]
  by_cases hq : q < 5
  · rw [if_pos hq]
    by_cases hc : kindH l.length (rawE l) k = 0 ∨ kindH l.length (rawE l) k = 6
    · have := clearAll_out (checkL l) (5 * k + q) (fun h => (cleared_h hk hq).1 h hc) l hin
      show (clearAll l (checkL l))[5 * k + q]? = _
      unfold rawE at *
      rw [this, if_pos hc, List.getElem?_take, if_pos hq, List.getElem?_drop]
    · have := clearAll_in (checkL l) (5 * k + q) ((cleared_h hk hq).2 hc) l hin
      show (clearAll l (checkL l))[5 * k + q]? = _
      unfold rawE at *
      rw [this, if_neg hc, List.getElem?_replicate, if_pos hq]
  · rw [if_neg hq]
    split
    · rw [List.getElem?_take, if_neg hq]
    · rw [List.getElem?_replicate, if_neg hq]
theorem mend_rawR {l : Bytes} (hl : 288 ≤ l.length) (i : Nat) (hi : i < 8) : rawR (mendL l) i = if kindR (leadsE l.length (rawE l)) (rawR l) i = 0 ∨ kindR (leadsE l.length (rawE l)) (rawR l) i = 6 then rawR l i else List.replicate 11 0 := by
  have hin : ∀ f ∈ checkL l, FltIn l.length f := fun _ hf => flt_in hl hf
  apply List.ext_getElem?
  intro q
  have hL : (rawR (mendL l) i)[q]? = if q < 11 then (clearAll l (checkL l))[200 + 11 * i + q]? else none := by
    unfold rawR mendL; rw [List.getElem?_take, List.getElem?_drop]
  have hR : (rawR l i)[q]? = if q < 11 then l[200 + 11 * i + q]? else none := by
    unfold rawR; rw [List.getElem?_take, List.getElem?_drop]
  rw [hL]
  by_cases hq : q < 11
  · rw [if_pos hq]
    by_cases hc : kindR (leadsE l.length (rawE l)) (rawR l) i = 0 ∨ kindR (leadsE l.length (rawE l)) (rawR l) i = 6
    · rw [clearAll_out (checkL l) (200 + 11 * i + q) (fun h => (cleared_r hi hq).1 h hc) l hin, if_pos hc, hR, if_pos hq]
    · rw [clearAll_in (checkL l) (200 + 11 * i + q) ((cleared_r hi hq).2 hc) l hin, if_neg hc, List.getElem?_replicate, if_pos hq]
  · rw [if_neg hq]
    split
    · rw [hR, if_neg hq]
    · rw [List.getElem?_replicate, if_neg hq]
theorem mend_kindH {l : Bytes} (hl : 288 ≤ l.length) (k : Nat) (hk : k < 40) : kindH (mendL l).length (rawE (mendL l)) k = if kindH l.length (rawE l) k = 6 then 6 else 0 := by
  rw [mendL_len hl]; exact kindH_after _ _ _ (fun k hk => mend_rawE hl k hk) k hk
theorem mend_leads {l : Bytes} (hl : 288 ≤ l.length) : leadsE (mendL l).length (rawE (mendL l)) = leadsE l.length (rawE l) := by
  rw [mendL_len hl]
  exact leadsE_after _ _ _ (fun k hk => by have := mend_kindH hl k hk; rwa [mendL_len hl] at this)
theorem mend_clean {l : Bytes} (hl : 288 ≤ l.length) : checkL (mendL l) = [] := by
  rw [List.eq_nil_iff_forall_not_mem]
  intro f hf
  rcases mem_checkL.1 hf with ⟨k, hk, hn, rfl⟩ | ⟨i, hi, hn, rfl⟩
  · apply hn
    rw [mend_kindH hl k hk]
    split <;> simp
  · apply hn
    rw [mend_leads hl, kindR_after _ _ _ (fun i hi => mend_rawR hl i hi) i hi]
    split <;> simp
theorem mend_id {l : Bytes} (h : checkL l = []) : mendL l = l := by unfold mendL; rw [h]; rfl
theorem mend_eq {l : Bytes} (hl : 288 ≤ l.length) : checkL l = [] ↔ mendL l = l :=
  ⟨mend_id, fun h => by have := mend_clean hl; rwa [h] at this⟩
theorem mend_rest {l : Bytes} (hl : 288 ≤ l.length) : (mendL l).drop 288 = l.drop 288 := by
  apply List.ext_getElem?
  intro p
  rw [List.getElem?_drop, List.getElem?_drop]
  refine clearAll_out _ _ ?_ l (fun _ hf => flt_in hl hf)
  rintro ⟨f, hf, h1, h2⟩
  unfold fltO at h1 h2
  unfold fltN at h2
  rcases mem_checkL.1 hf with ⟨k, hk, hn, rfl⟩ | ⟨i, hi, hn, rfl⟩
  · have := kindH_cases l.length (rawE l) k
    rw [if_neg (by simp only; omega), if_neg (by simp only; omega)] at h2
    simp only at h2; omega
  · have := kindR_cases (leadsE l.length (rawE l)) (rawR l) i
    rw [if_pos (by simp only; omega), if_pos (by simp only; omega)] at h2
    simp only at h2; omega
end Go.Proofs.YtmhlnbbnanehiaaDoor
/- image.find and image.Get: an entry read back. -/
namespace Go.Proofs.YtmhlnbbnanehiaaDoor
open Go.RowKit

theorem rawE_len (l : Bytes) (k : Nat) (hk : k < 40) (hn : 200 ≤ l.length) : (rawE l k).length = 5 := by
  unfold rawE; simp; omega
theorem rawE_rd {w : World} {A : Option Addr} {l : Bytes} (h : Rd w A l) (k : Nat) (hk : k < 40) (hn : 200 ≤ l.length) : Rd w (A.map (·.add (5 * k))) (rawE l k) := h.cut (5 * k) 5 (by omega)
/-- the handle's number -/
theorem entO_k (k : Nat) : entO ((k : Int) + 1) = 5 * k := by unfold entO; omega
/-- the entry that stands in five bytes -/
def entR (h : Int) (r : Bytes) : Value := entV h (rAt r) (rLen r) (rTag r)

end Go.Proofs.YtmhlnbbnanehiaaDoor
/- The contracts of check.stray, check.over and image.Zero. -/
namespace Go.Proofs.YtmhlnbbnanehiaaDoor
open Go.RowKit

/-- do two stretches of bytes share one? -/
def overB (a al b bl : Int) : Bool := decide (a < b + bl) && decide (b < a + al)
theorem forall_take_succ' {α : Type} {l : List α} {k : Nat} {p : α → Bool} (hk : k < l.length) (h : ∀ x ∈ l.take k, p x = false) (hp : p l[k] = false) : ∀ x ∈ l.take (k + 1), p x = false := by
  intro x hx
  rw [List.take_succ_eq_append_getElem hk, List.mem_append, List.mem_singleton] at hx
  rcases hx with hx | rfl
  · exact h x hx
  · exact hp
/-- the slice at A has the entries L: the handle, the bytes -/
def RdEs (w : World) (A : Option Addr) (L : List (Int × Bytes)) : Prop := ∀ i (h : i < L.length), ∃ g off, A = some ⟨g, off, none⟩ ∧ w.cell? ⟨g, off + i * 4, none⟩ = some (.int .i64 L[i].1) ∧ w.cell? ⟨g, off + i * 4 + 1, none⟩ = some (.int .i64 (rAt L[i].2)) ∧
  w.cell? ⟨g, off + i * 4 + 2, none⟩ = some (.int .i64 (rLen L[i].2)) ∧ w.cell? ⟨g, off + i * 4 + 3, none⟩ = some (.int .i64 (rTag L[i].2))
theorem RdEs.below {w w' : World} {A : Option Addr} {L : List (Int × Bytes)} (h : RdEs w A L) (hb : Below w.heap.size w w') : RdEs w' A L := fun i hi => by
  obtain ⟨g, off, hA, c0, c1, c2, c3⟩ := h i hi
  exact ⟨g, off, hA, (hb.cell (block_lt_of_cell c0)).trans c0, (hb.cell (block_lt_of_cell c1)).trans c1, (hb.cell (block_lt_of_cell c2)).trans c2, (hb.cell (block_lt_of_cell c3)).trans c3⟩
end Go.Proofs.YtmhlnbbnanehiaaDoor
/- The contract of check.handles. -/
namespace Go.Proofs.YtmhlnbbnanehiaaDoor
open Go.RowKit

def entsL (p : Nat → Bool) (R : Nat → Bytes) (m : Nat) : List (Int × Bytes) := ((List.range m).filter p).map fun (k : Nat) => (((k : Int) + 1), R k)
def rightL (n : Nat) (R : Nat → Bytes) (m : Nat) : List (Int × Bytes) := entsL (fun k => kindH n R k == 6) R m
def wholeL (n : Nat) (R : Nat → Bytes) (m : Nat) : List (Int × Bytes) := entsL (fun k => wholeE n (R k)) R m
theorem entsL_succ (p : Nat → Bool) (R : Nat → Bytes) (m : Nat) : entsL p R (m + 1) = entsL p R m ++ (if p m = true then [(((m : Int) + 1), R m)] else []) := by
  unfold entsL
  rw [List.range_succ, List.filter_append, List.map_append]
  congr 1
  cases h : p m <;> simp [h]
theorem entsL_len (p : Nat → Bool) (R : Nat → Bytes) (m : Nat) : (entsL p R m).length ≤ m := by
  unfold entsL
  rw [List.length_map]
  have := List.length_filter_le p (List.range m)
  rwa [List.length_range] at this
theorem wholeL_any (n : Nat) (R : Nat → Bytes) (m : Nat) (r : Bytes) : (wholeL n R m).any (fun x => overE r x.2) = (List.range m).any fun j => wholeE n (R j) && overE r (R j) := by
  unfold wholeL entsL
  rw [List.any_map, List.any_filter]
  rfl
def ecells (x : Int × Bytes) : List Value := [.int .i64 x.1, .int .i64 (rAt x.2), .int .i64 (rLen x.2), .int .i64 (rTag x.2)]
def fcells (f : Flt) : List Value := [.int .i64 f.what, .int .i64 f.which]
theorem ecells_at (L : List (Int × Bytes)) (q : Nat) (hq : q < 4) : ∀ i (h : i < L.length), (L.flatMap ecells)[i * 4 + q]? = (ecells L[i])[q]? := by
  induction L with
  | nil => intro i h; simp at h
  | cons x L ih =>
    intro i h
    rw [List.flatMap_cons]
    have hl : (ecells x).length = 4 := rfl
    cases i with
    | zero => rw [List.getElem?_append_left (by omega)]; simp
    | succ i =>
      rw [List.getElem?_append_right (by omega), hl, show (i + 1) * 4 + q - 4 = i * 4 + q from by omega, ih i (by simpa using h)]
      simp
theorem own_apart {w : World} {base e e' size size' n n' : Nat} {v v' : Value} {xs xs' : List Value} (h : w.ownsRow base e size v n xs) (h' : w.ownsRow base e' size' v' n' xs') (hne : e ≠ e') : v.ownBlock = none ∨ v.ownBlock ≠ v'.ownBlock := by
  rcases h.2 with ⟨rfl, _⟩ | ⟨g, cap, cur, rfl, _, hh, _⟩
  · exact .inl rfl
  · right
    intro he
    rcases h'.2 with ⟨rfl, _⟩ | ⟨g', cap', cur', rfl, _, hh', _⟩
    · simp [Value.ownBlock] at he
    · obtain rfl : g = g' := by simpa [Value.ownBlock] using he
      rw [hh] at hh'
      injection hh' with hh'
      injection hh' with _ ht
      exact hne ht
section
variable {w w' : World} {base : Nat} {vf vr vw vf' : Value} {F : List Flt} {R W : List (Int × Bytes)}
end
theorem rAt_le (r : Bytes) : rAt r ≤ 65535 := by
  have h := ofB_lt ((r.drop 1).take 2)
  have h2 : 2 ^ (8 * ((r.drop 1).take 2).length) ≤ 2 ^ 16 := Nat.pow_le_pow_right (by omega) (by simp; omega)
  unfold rAt; omega
theorem rLen_le (r : Bytes) : rLen r ≤ 65535 := by
  have h := ofB_lt ((r.drop 3).take 2)
  have h2 : 2 ^ (8 * ((r.drop 3).take 2).length) ≤ 2 ^ 16 := Nat.pow_le_pow_right (by omega) (by simp; omega)
  unfold rLen; omega
theorem overE_eq (r s : Bytes) : overB (rAt r) (rLen r) (rAt s) (rLen s) = overE r s := by
  unfold overB overE
  congr 1 <;> (rw [decide_eq_decide]; omega)
end Go.Proofs.YtmhlnbbnanehiaaDoor
/- The contract of check.roots: closures and slices.Contains over names. -/
namespace Go.Proofs.YtmhlnbbnanehiaaDoor
open Go.RowKit

/-- the slice at A has the texts L -/
def RdS (w : World) (A : Option Addr) (L : List Bytes) : Prop := ∀ j (h : j < L.length), ∃ b off, A = some ⟨b, off, none⟩ ∧ w.cell? ⟨b, off + j, none⟩ = some (sv L[j])
theorem own_rdS {w : World} {base e : Nat} {v : Value} {L : List Bytes} (h : w.ownsRow base e 1 v L.length (L.map fun x => sv x)) : ∃ A c, v = .slice A L.length c ∧ L.length ≤ c ∧ RdS w A L := by
  rcases h.2 with ⟨rfl, h0⟩ | ⟨g, cap, cur, rfl, _, hh, hc, hm, hz, ht⟩
  · exact ⟨none, 0, by rw [h0], by omega, fun i hi => by omega⟩
  · refine ⟨_, cap, rfl, hc, fun i hi => ⟨g, 0, rfl, ?_⟩⟩
    have := h.cells (g := g) rfl i (sv L[i]) (by simp [hi])
    rw [Addr.add_lit] at this
    exact this
theorem rawR_len (l : Bytes) (i : Nat) (hi : i < 8) (hn : 288 ≤ l.length) : (rawR l i).length = 11 := by
  unfold rawR; simp; omega
theorem rawR_rd {w : World} {A : Option Addr} {l : Bytes} (h : Rd w A l) (i : Nat) (hi : i < 8) (hn : 288 ≤ l.length) : Rd w (A.map (·.add (200 + 11 * i))) (rawR l i) := h.cut (200 + 11 * i) 11 (by omega)
theorem rootO_k (k : Nat) : rootO (k : Int) = 200 + 11 * k := by unfold rootO; omega
def namesL (leads : UInt8 → Bool) (S : Nat → Bytes) (m : Nat) : List Bytes := ((List.range m).filter fun i => kindR leads S i == 6).map fun i => nmR (S i)
theorem namesL_succ (leads : UInt8 → Bool) (S : Nat → Bytes) (m : Nat) : namesL leads S (m + 1) = namesL leads S m ++ (if kindR leads S m = 6 then [nmR (S m)] else []) := by
  unfold namesL
  rw [List.range_succ, List.filter_append, List.map_append]
  congr 1
  by_cases h : kindR leads S m = 6 <;> simp [h]
theorem namesL_len (leads : UInt8 → Bool) (S : Nat → Bytes) (m : Nat) : (namesL leads S m).length ≤ m := by
  unfold namesL
  rw [List.length_map]
  have := List.length_filter_le (fun i => kindR leads S i == 6) (List.range m)
  rwa [List.length_range] at this
theorem namesL_any (leads : UInt8 → Bool) (S : Nat → Bytes) (s : Bytes) : ∀ m, (namesL leads S m).any (fun x => s == x) = (List.range m).any fun j => okR leads (S j) && (s == nmR (S j))
  | 0 => rfl
  | m + 1 => by
    rw [namesL_succ, List.any_append, List.range_succ, List.any_append, namesL_any leads S s m]
    by_cases h : kindR leads S m = 6
    · have hok : okR leads (S m) = true := by
        unfold kindR at h; unfold okR
        split at h
        · simp at h
        · split at h
          · simp at h
          · rename_i h1 h2; simp [h1, h2]
      simp [h, hok]
    · simp only [if_neg h, List.any_nil, List.any_cons, Bool.or_false]
      cases hok : okR leads (S m) with
      | false => simp
      | true =>
        have hz : zeroE (S m) = false := by unfold okR at hok; simp at hok; exact hok.1
        have hb : badR leads (S m) = false := by unfold okR at hok; simp at hok; exact hok.2
        have h5 : ((List.range m).any fun j => okR leads (S j) && (nmR (S m) == nmR (S j))) = true := by
          unfold kindR at h
          rw [hz, hb] at h
          simp only [Bool.false_eq_true, if_false] at h
          split at h
          · assumption
          · simp at h
        by_cases he : s = nmR (S m)
        · subst he; rw [h5]; simp
        · simp [he]
section
variable {w w' : World} {base : Nat} {vf vn vf' vn' : Value} {F : List Flt} {N : List Bytes}
end
theorem string_info : (Tryd.prog.info? 9).map (fun i => (i.zero, i.size, i.bytes)) = some (some (.string ByteArray.empty), 1, 16) := by kernel_rfl
theorem RdEs.belowB {w w' : World} {A : Option Addr} {L : List (Int × Bytes)} (h : RdEs w A L) (hb : Below w.heap.size w w') : RdEs w' A L := h.below hb
end Go.Proofs.YtmhlnbbnanehiaaDoor
/- The contracts of image.Entries, Roots and Drop, and of image.Get where there is none. -/
namespace Go.Proofs.YtmhlnbbnanehiaaDoor
open Go.RowKit

/-- the entries of an image -/
def entriesL (l : Bytes) : List (Int × Bytes) := entsL (fun k => hasE (rawE l k)) (rawE l) 40
/-- a root: its name, its handle -/
def rootP (r : Bytes) : Bytes × Nat := (if gotName (r.take 8) = true then nmR r else [], (r.getD 10 0).toNat)
def rootsF (S : Nat → Bytes) (m : Nat) : List (Bytes × Nat) := ((List.range m).filter fun i => !zeroE (S i)).map fun i => rootP (S i)
def rootsL (l : Bytes) : List (Bytes × Nat) := rootsF (rawR l) 8
theorem rootsF_succ (S : Nat → Bytes) (m : Nat) : rootsF S (m + 1) = rootsF S m ++ (if zeroE (S m) = true then [] else [rootP (S m)]) := by
  unfold rootsF
  rw [List.range_succ, List.filter_append, List.map_append]
  congr 1
  cases h : zeroE (S m) <;> simp [h]
theorem rootsF_len (S : Nat → Bytes) (m : Nat) : (rootsF S m).length ≤ m := by
  unfold rootsF
  rw [List.length_map]
  have := List.length_filter_le (fun i => !zeroE (S i)) (List.range m)
  rwa [List.length_range] at this
def rcells (x : Bytes × Nat) : List Value := [sv x.1, .int .i64 x.2]
end Go.Proofs.YtmhlnbbnanehiaaDoor
/- The contracts of the reference's Get, Put, Name, NameBytes and ReadName. -/
namespace Go.Proofs.YtmhlnbbnanehiaaDoor
open Go.RowKit

def getF (l : Bytes) (at_ size : Int) : Nat := if getE l.length at_ size = 0 then getN l at_ size else 0
def putF (l : Bytes) (at_ x size : Int) : Bytes := if putE l.length at_ x size = 0 then putB l at_ x size else []

theorem splice_put (l : Bytes) (o x k : Nat) (h : o + k < l.length) : (splice l o (numB x k)).set (o + k) (UInt8.ofNat (x / 2 ^ (8 * k) % 256)) = splice l o (numB x (k + 1)) := by
  have h1 := numB_length x k
  have h2 := numB_length x (k + 1)
  apply List.ext_getElem?
  intro p
  rw [List.getElem?_set, splice_len _ _ _ (by omega), splice_rd _ _ _ _ (by omega), splice_rd _ _ _ _ (by omega), h1, h2]
  by_cases a : o + k = p
  · subst a
    rw [if_pos rfl, if_pos (by omega), if_pos (by omega), Nat.add_sub_cancel_left, numB_get _ _ _ (by omega)]
  · rw [if_neg a]
    by_cases b : o ≤ p ∧ p < o + k
    · rw [if_pos b, if_pos (show o ≤ p ∧ p < o + (k + 1) from by omega), numB_get _ _ _ (by omega), numB_get _ _ _ (by omega)]
    · rw [if_neg b, if_neg (show ¬ (o ≤ p ∧ p < o + (k + 1)) from by omega)]
end Go.Proofs.YtmhlnbbnanehiaaDoor
/- The contract of the reference's Put. -/
namespace Go.Proofs.YtmhlnbbnanehiaaDoor
open Go.RowKit

/-- an answer: bytes, and a number or an error -/
def RowAns (w w' : World) (e : Ending) (l : Bytes) (x : Value) : Prop := ∃ A' c', e = .returned (.tuple #[.slice A' l.length c', x]) ∧ Rd w' A' l ∧ Below w.heap.size w w'
end Go.Proofs.YtmhlnbbnanehiaaDoor
/- The contract of the reference's Make. -/
namespace Go.Proofs.YtmhlnbbnanehiaaDoor
open Go.RowKit

theorem Row.keepB {B : Nat} {w w' : World} (hb : Below B w w') {g p : Nat} (hg : B ≤ g) (v : Value) : Below B w (w'.setCell ⟨g, p, none⟩ v) := hb.setCell (p := ⟨g, p, none⟩) hg v
/-- the sector as it is after k bytes of the stamp -/
def makeK (l1 : Bytes) (st k : Nat) : Bytes := splice (splice l1 0 (numB st k)) 28 (numB st k)
theorem makeK_len (l1 : Bytes) (st k : Nat) (h : l1.length = 32) (hk : k ≤ 4) : (makeK l1 st k).length = 32 := by
  unfold makeK
  have h1 : (splice l1 0 (numB st k)).length = 32 := by rw [splice_len _ _ _ (by rw [numB_length]; omega), h]
  rw [splice_len _ _ _ (by rw [numB_length]; omega), h1]
theorem makeK_get (l1 : Bytes) (st k p : Nat) (h : l1.length = 32) (hk : k ≤ 4) : (makeK l1 st k)[p]? = if p < k then some (UInt8.ofNat (st / 2 ^ (8 * p) % 256)) else if 28 ≤ p ∧ p < 28 + k then some (UInt8.ofNat (st / 2 ^ (8 * (p - 28)) % 256)) else l1[p]? := by
  unfold makeK
  have hn := numB_length st k
  have h1 : (splice l1 0 (numB st k)).length = 32 := by rw [splice_len _ _ _ (by omega), h]
  rw [splice_rd _ _ _ _ (by omega), splice_rd _ _ _ _ (by omega), hn]
  by_cases a : p < k
  · rw [if_neg (by omega), if_pos (by omega), if_pos a, Nat.sub_zero, numB_get k st p a]
  · rw [if_neg a]
    by_cases b : 28 ≤ p ∧ p < 28 + k
    · rw [if_pos b, if_pos b, numB_get k st (p - 28) (by omega)]
    · rw [if_neg b, if_neg b, if_neg (by omega)]
theorem makeK_step (l1 : Bytes) (st k : Nat) (h : l1.length = 32) (hk : k < 4) : ((makeK l1 st k).set k (UInt8.ofNat (st / 2 ^ (8 * k) % 256))).set (28 + k) (UInt8.ofNat (st / 2 ^ (8 * k) % 256)) = makeK l1 st (k + 1) := by
  have hl := makeK_len l1 st k h (by omega)
  apply List.ext_getElem?
  intro p
  rw [makeK_get l1 st (k + 1) p h (by omega), List.getElem?_set, List.getElem?_set, List.length_set, hl, makeK_get l1 st k p h (by omega)]
  by_cases a : 28 + k = p
  · subst a
    rw [if_pos rfl, if_pos (by omega), if_neg (by omega), if_pos (by omega), Nat.add_sub_cancel_left]
  · rw [if_neg a]
    by_cases b : k = p
    · subst b
      rw [if_pos rfl, if_pos (by omega), if_pos (by omega)]
    · rw [if_neg b]
      by_cases c : p < k
      · rw [if_pos c, if_pos (show p < k + 1 from by omega)]
      · rw [if_neg c, if_neg (show ¬ p < k + 1 from by omega)]
        by_cases d : 28 ≤ p ∧ p < 28 + k
        · rw [if_pos d, if_pos (show 28 ≤ p ∧ p < 28 + (k + 1) from by omega)]
        · rw [if_neg d, if_neg (show ¬ (28 ≤ p ∧ p < 28 + (k + 1)) from by omega)]
theorem splice_take_succ (z b : Bytes) (o k : Nat) (hk : k < b.length) (hz : o + b.length ≤ z.length) : (splice z o (b.take k)).set (o + k) b[k] = splice z o (b.take (k + 1)) := by
  have h1 : (b.take k).length = k := by simp; omega
  have h2 : (b.take (k + 1)).length = k + 1 := by simp; omega
  apply List.ext_getElem?
  intro p
  rw [List.getElem?_set, splice_len _ _ _ (by omega), splice_rd _ _ _ _ (by omega), splice_rd _ _ _ _ (by omega), h1, h2]
  by_cases a : o + k = p
  · subst a
    rw [if_pos rfl, if_pos (by omega), if_pos (by omega), Nat.add_sub_cancel_left, List.getElem?_take, if_pos (by omega), List.getElem?_eq_getElem hk]
  · rw [if_neg a]
    by_cases c : o ≤ p ∧ p < o + k
    · rw [if_pos c, if_pos (by omega), List.getElem?_take, List.getElem?_take, if_pos (by omega), if_pos (by omega)]
    · rw [if_neg c, if_neg (by omega)]
theorem makeK_done (st : Nat) (b : Bytes) (h : b.length ≤ 24) : makeK (splice (List.replicate 32 0) 4 b) st 4 = makeB st b := by
  rw [← makeB_steps st b h]
  unfold makeK
  have hn := numB_length st 4
  have hz : (List.replicate 32 (0 : UInt8)).length = 32 := by simp
  congr 1
  apply List.ext_getElem?
  intro p
  have h1 : (splice (List.replicate 32 (0 : UInt8)) 4 b).length = 32 := by rw [splice_len _ _ _ (by omega), hz]
  have h2 : (splice (List.replicate 32 (0 : UInt8)) 0 (numB st 4)).length = 32 := by rw [splice_len _ _ _ (by omega), hz]
  rw [splice_rd _ _ _ _ (by omega), splice_rd _ _ _ _ (by omega), splice_rd _ _ _ _ (by omega), splice_rd _ _ _ _ (by omega), hn]
  by_cases a : 0 ≤ p ∧ p < 0 + 4
  · rw [if_pos a, if_neg (by omega), if_pos a]
  · rw [if_neg a]
    by_cases c : 4 ≤ p ∧ p < 4 + b.length
    · rw [if_pos c, if_pos c]
    · rw [if_neg c, if_neg c, if_neg a]

theorem refMake_e1 (st : Int) (A : Option Addr) (n c : Nat) (w : World) (h : st < 1 ∨ 4294967295 < st) :
    Calls Tryd.prog 76 #[.int .i64 st, .slice A n c] w fun e w' => e = .returned (.tuple #[.slice none 0 0, .int .i64 1]) ∧ w = w' := by
  by_cases h1 : st < 1
  · clear h
    go_enter Tryd.func76, Tryd.ntmps76
    go_wp2
    go_ret2
    exact ⟨rfl, rfl⟩
  · have h2 : 4294967295 < st := by omega
    clear h
    go_enter Tryd.func76, Tryd.ntmps76
    go_wp2
    go_ret2
    exact ⟨rfl, rfl⟩
theorem refMake_e4 (st : Int) (A : Option Addr) (n c : Nat) (w : World) (h1 : 1 ≤ st) (h2 : st ≤ 4294967295) (hn : 24 < n) :
    Calls Tryd.prog 76 #[.int .i64 st, .slice A n c] w fun e w' => e = .returned (.tuple #[.slice none 0 0, .int .i64 4]) ∧ w = w' := by
  go_enter Tryd.func76, Tryd.ntmps76
  go_wp2
  go_ret2
  exact ⟨rfl, rfl⟩
set_option maxRecDepth 100000 in
theorem refMake_ok (st : Nat) (A : Option Addr) (n c : Nat) (b : Bytes) (w : World) (hbn : b.length = n) (h1 : 1 ≤ st) (h2 : st ≤ 4294967295) (hn : n ≤ 24) (hr : Rd w A b) :
    Calls Tryd.prog 76 #[.int .i64 st, .slice A n c] w fun e w' => ∃ g, e = .returned (.tuple #[.slice (some ⟨g, 0, none⟩) 32 32, .int .i64 0]) ∧ w.heap.size ≤ g ∧ Row w' 5 g 32 (makeB st b) ∧ Below w.heap.size w w' := by
  have hmk := mk_bytes 32 32 rfl (by omega) w
  have hz := row_zeros w 32 (by simp [maxLen])
  have hB1 : Below w.heap.size w (w.alloc (.cells (zeroRow 32) 5)) := (Below.refl _ _).alloc (Nat.le_refl _) _
  have hzl : (List.replicate 32 (0 : UInt8)).length = 32 := by simp
  have HZ := Hidden.mk hzl
  obtain ⟨z0, hz0⟩ : ∃ z0, z0 = List.replicate 32 (0 : UInt8) := ⟨_, rfl⟩
  rw [← hz0] at hz hzl HZ
  have HZZ := Hidden.mk hz0
  clear hz0
  subst hbn
  go_enter Tryd.func76, Tryd.ntmps76
  go_wp2_with fail
  generalize w.alloc (.cells (zeroRow 32) 5) = w1 at *
  go_loopw [7] (fun i wr => ∃ k : Nat, k ≤ b.length ∧ i = .int .i64 k ∧ Below w.heap.size w wr ∧ Row wr 5 w.heap.size 32 (splice z0 4 (b.take k))) (fun i _ => b.length - (intOf i).toNat)
  case atStart => exact ⟨0, Nat.zero_le _, rfl, hB1, by simpa [splice] using hz⟩
  case round =>
    obtain ⟨k, hk, rfl, hbel, hrow⟩ := hrel
    by_cases hlt : k < b.length
    · obtain ⟨q, off, rfl, hc⟩ := (hr.below hbel) k hlt
      have hsl : (splice z0 4 (b.take k)).length = 32 := by rw [splice_len _ _ _ (by simp; have := HZ.out; omega), HZ.out]
      have hcell := hrow.cell (4 + k) (by omega)
      have hfr := hrow.frozen (4 + k)
      have hst := hrow.store (4 + k) (by omega) b[k]
      rw [splice_take_succ z0 b 4 k hlt (by have := HZ.out; omega)] at hst
      have hbn := Row.keepB hbel (g := w.heap.size) (p := 4 + k) (Nat.le_refl _) (bv b[k])
      have k0 : (0 : Int) ≤ k := by omega
      have k1 : (k : Int) < b.length := by omega
      have s1 : IntKind.i64.wrap (4 + (k : Int)) = 4 + (k : Int) := IntWalk.i64_in _ (by omega)
      generalize (splice z0 4 (b.take k))[4 + k] = u at hcell
      clear hrow hsl
      go_wp2_with fail
      go_roundw
      case rel => exact ⟨k + 1, by omega, by go_num, hbn, hst⟩
      case measure => simp [intOf]; omega
    · obtain rfl : k = b.length := by omega
      rw [List.take_length] at hrow
      have hl1 : (splice z0 4 b).length = 32 := by rw [splice_len _ _ _ (by have := HZ.out; omega), HZ.out]
      have HD : Hidden (makeK (splice z0 4 b) st 4 = makeB st b) := ⟨by rw [HZZ.out]; exact makeK_done st b hn⟩
      generalize splice z0 4 b = l1 at *
      go_wp2_with fail
      go_loopw [8, 9] (fun nv iv w2 => ∃ k : Nat, k ≤ 4 ∧ iv = .int .i64 k ∧ nv = .int .i64 ((st / 2 ^ (8 * k) : Nat) : Int) ∧ Below w.heap.size w w2 ∧ Row w2 5 w.heap.size 32 (makeK l1 st k)) (fun _ iv _ => 4 - (intOf iv).toNat)
      case atStart => exact ⟨0, Nat.zero_le _, rfl, by simp, hbel, by simpa [makeK, numB, splice] using hrow⟩
      case round =>
        obtain ⟨k, hk, rfl, rfl, hbel2, hrow2⟩ := hrel
        by_cases hlt2 : k < 4
        · have hml := makeK_len l1 st k hl1 hk
          have hd := div_step st k
          have hms := makeK_step l1 st k hl1 hlt2
          have HD2 := Hidden.mk hd
          have hcell1 := hrow2.cell k (by omega)
          have hfr1 := hrow2.frozen k
          have hst1 := hrow2.store k (by omega) (UInt8.ofNat (st / 2 ^ (8 * k) % 256))
          have hbn1 := Row.keepB hbel2 (g := w.heap.size) (p := k) (Nat.le_refl _) (bv (UInt8.ofNat (st / 2 ^ (8 * k) % 256)))
          have hcell2 := hst1.cell (28 + k) (by rw [List.length_set]; omega)
          have hfr2 := hst1.frozen (28 + k)
          have hst2 := hst1.store (28 + k) (by rw [List.length_set]; omega) (UInt8.ofNat (st / 2 ^ (8 * k) % 256))
          have hbn2 := Row.keepB hbn1 (g := w.heap.size) (p := 28 + k) (Nat.le_refl _) (bv (UInt8.ofNat (st / 2 ^ (8 * k) % 256)))
          rw [hms] at hst2
          have hbv : bv (UInt8.ofNat (st / 2 ^ (8 * k) % 256)) = .int .u8 ((st / 2 ^ (8 * k) : Nat) % 256 : Int) := by simp only [bv, ofNat_mod]; rfl
          have hmle : st / 2 ^ (8 * k) ≤ 4294967295 := Nat.le_trans (Nat.div_le_self _ _) h2
          rw [hbv] at hst1 hbn1 hcell2 hfr2 hst2 hbn2
          generalize st / 2 ^ (8 * k) = m at *
          have s1 : IntKind.i64.wrap (28 + (k : Int)) = 28 + (k : Int) := IntWalk.i64_in _ (by omega)
          clear hms hd hbv
          go_wp2_with fail
          go_roundw
          case rel => exact ⟨k + 1, by omega, by go_num, int_i64 (by have := HD2.out; omega), hbn2, hst2⟩
          case measure => simp [intOf]; omega
        · obtain rfl : k = 4 := by omega
          go_wp2_with fail
          go_ret2
          exact ⟨w.heap.size, rfl, Nat.le_refl _, by rw [← HD.out]; exact hrow2, hbel2⟩
theorem refMake_any (st : Int) (A : Option Addr) (n c : Nat) (b : Bytes) (w : World) (hn : b.length = n) (hr : Rd w A b) :
    Calls Tryd.prog 76 #[.int .i64 st, .slice A n c] w fun e w' => ∃ A' c', e = .returned (.tuple #[.slice A' (makeF st b).1.length c', .int .i64 (makeF st b).2]) ∧ Rd w' A' (makeF st b).1 ∧ Below w.heap.size w w' := by
  unfold makeF
  by_cases h1 : st < 1 ∨ 4294967295 < st
  · rw [if_pos h1]
    refine (refMake_e1 st A n c w h1).mono ?_
    rintro e w' ⟨rfl, rfl⟩
    exact ⟨none, 0, rfl, Rd.nil_, Below.refl _ _⟩
  · rw [if_neg h1]
    by_cases h2 : 24 < b.length
    · rw [if_pos h2]
      refine (refMake_e4 st A n c w (by omega) (by omega) (by omega)).mono ?_
      rintro e w' ⟨rfl, rfl⟩
      exact ⟨none, 0, rfl, Rd.nil_, Below.refl _ _⟩
    · rw [if_neg h2]
      obtain ⟨s, rfl⟩ := Int.eq_ofNat_of_zero_le (show 0 ≤ st by omega)
      refine (refMake_ok s A n c b w hn (by omega) (by omega) (by omega) hr).mono ?_
      rintro e w' ⟨g, rfl, hg, hrow, hb⟩
      rw [Int.toNat_natCast]
      exact ⟨some ⟨g, 0, none⟩, 32, by rw [makeB_len _ _ (by omega)]; rfl, hrow.rd, hb⟩
end Go.Proofs.YtmhlnbbnanehiaaDoor
/- The contracts of the reference's Name, NameBytes and ReadName. -/
namespace Go.Proofs.YtmhlnbbnanehiaaDoor
open Go.RowKit

theorem isName_bad (s : Bytes) (k : Nat) (hk : k < s.length) (h : notLower s[k] = true) : isName s = false := by
  unfold isName
  rw [List.any_eq_true.2 ⟨s[k], List.getElem_mem hk, h⟩]
  simp
theorem idxOf_at (l : Bytes) (k : Nat) (hk : k ≤ l.length) (h : ∀ x ∈ l.take k, nonZero x = true) (he : k = l.length ∨ ∃ h' : k < l.length, l[k] = 0) : l.idxOf 0 = k := by
  have hn : (0 : UInt8) ∉ l.take k := fun h0 => by have := h 0 h0; simp [nonZero] at this
  rcases he with rfl | ⟨h', hz⟩
  · rw [List.take_length] at hn
    exact List.idxOf_eq_length hn
  · have := idxB_at l 0 k h' hn hz
    have hm : (0 : UInt8) ∈ l := by rw [← hz]; exact List.getElem_mem h'
    unfold idxB at this
    rw [if_pos hm] at this
    omega
end Go.Proofs.YtmhlnbbnanehiaaDoor
/- The reference on images: Image, Handle, Zero, RootAt, Entry, Wipe. -/
namespace Go.Proofs.YtmhlnbbnanehiaaDoor
open Go.RowKit

theorem zeroE_at (l : Bytes) (j : Nat) (hj : j < l.length) (h : nonZero l[j] = true) : zeroE l = false := by
  unfold zeroE
  rw [Bool.not_eq_false', List.any_eq_true]
  exact ⟨l[j], List.getElem_mem hj, h⟩
theorem zeroE_none (l : Bytes) (h : ∀ x ∈ l, nonZero x = false) : zeroE l = true := by
  unfold zeroE
  rw [Bool.not_eq_true', List.any_eq_false]
  intro x hx; rw [h x hx]; simp
theorem hd_get (r : Bytes) (h : 0 < r.length) : r[0] = rHd r := by
  cases r with
  | nil => simp at h
  | cons x y => rfl
theorem fourAt_new (w : World) (f : Obj) (a b c d : Int) (t : TypeId) : FourAt ((w.alloc f).alloc (.cells #[.int .i64 a, .int .i64 b, .int .i64 c, .int .i64 d] t)) (w.heap.size + 1) a b c d := by
  have h := heap_alloc_new (w.alloc f) (.cells #[.int .i64 a, .int .i64 b, .int .i64 c, .int .i64 d] t)
  rw [show (w.alloc f).heap.size = w.heap.size + 1 by simp] at h
  unfold FourAt
  simp only [World.cell?]
  rw [h]
  exact ⟨rfl, rfl, rfl, rfl⟩
end Go.Proofs.YtmhlnbbnanehiaaDoor
/- The reference on images: copied, Wipe. -/
namespace Go.Proofs.YtmhlnbbnanehiaaDoor
open Go.RowKit

set_option maxRecDepth 100000 in
theorem refCopied_ok (p off n c : Nat) (l : Bytes) (w : World) (hn : l.length = n) (h1 : 1 ≤ n) (hl : n ≤ 140737488351232) (hr : Rd w (some ⟨p, off, none⟩) l) :
    Calls Tryd.prog 71 #[.slice (some ⟨p, off, none⟩) n c] w fun e w' => ∃ g cap, e = .returned (.slice (some ⟨g, 0, none⟩) n cap) ∧ w.heap.size ≤ g ∧ n ≤ cap ∧ Row w' 5 g cap l ∧ Below w.heap.size w w' := by
  obtain ⟨i0, hi0, hz0, hz1, hz2⟩ := info_parts byte_info
  go_enter Tryd.func71, Tryd.ntmps71
  go_wp2_with (at_builtin; refine wpList_append_own _ rfl (.tmp 4) (.tmp 5) _ rfl w.heap.size 5 i0 _ 1 1 Tryd.underlying22 hi0 hz0 hz1 hz2 rfl (by decide) (.slice none 0 0) 0 [] rfl (World.ownsRow_nil _ _ _ _) ⟨p, off, none⟩ n c (l.map bv) rfl (by simp; omega) hr.cells one_bv (by simp only [maxLen]; omega) (by omega) (Nat.le_refl _) ?_; intro v1 w1 hown1 hg1 hnn1)
  have hb1 : Below w.heap.size w w1 := (Below.refl _ _).grown hg1 (Nat.le_refl _) (fun k hk => by simp [Value.ownBlock] at hk)
  have hO : Own w1 w.heap.size 5 v1 l := by unfold Own; simpa [hn] using hown1
  have hne : v1 ≠ .slice none 0 0 := fun h => by
    subst h
    rcases hO.2 with ⟨_, h0⟩ | ⟨g, cap, cur, h, _⟩
    · omega
    · cases h
  obtain ⟨g, cap, hv, hbg, hrow⟩ := Row.of_own hO hne
  rw [hn] at hv
  subst hv
  have hcap := hrow.le.1
  clear hO hne hown1 hg1 hnn1
  go_ret
  exact ⟨g, cap, rfl, hbg, by omega, hrow, hb1⟩
end Go.Proofs.YtmhlnbbnanehiaaDoor
/- The reference's device in memory: what lies where; step, Fail. -/
namespace Go.Proofs.YtmhlnbbnanehiaaDoor
open Go.RowKit Go.Maps Go.ChangeMaps

/-- a slice of one's own in which one cell is set -/
theorem own_set {w : World} {base : Nat} {e : TypeId} {size g n cap : Nat} {xs : List Value} (h : w.ownsRow base e size (.slice (some ⟨g, 0, none⟩) n cap) n xs) (q : Nat) (u : Value) :
    (w.setCell ⟨g, q, none⟩ u).ownsRow base e size (.slice (some ⟨g, 0, none⟩) n cap) n (xs.set q u) := by
  rcases h.2 with ⟨he, _⟩ | ⟨g', cap', cur, he, hb, hh, hc, hm, hz, ht⟩
  · cases he
  · injection he with he1 he2 he3
    injection he1 with he1
    injection he1 with he1
    subst he1 he3
    refine ⟨by rw [List.length_set]; exact h.1, .inr ⟨g, cap, _, rfl, hb, heap_setK hh u, hc, hm, by simpa using hz, ?_⟩⟩
    rw [Array.toList_setIfInBounds, List.take_set, ht]
/-- lines, as cells: of which sector, what -/
def lnC (O : List Nat) (mb mc : Nat → Nat) : List Value := O.flatMap fun i : Nat => [.int .i64 (i : Int), rowV (mb i) (mc i)]
/-- where it lies -/
structure RLay where
  gs : Nat
  cs : Nat
  vl : Value
  sb : Nat → Nat
  sc : Nat → Nat
  mb : Nat → Nat
  mc : Nat → Nat
structure RdIs (w : World) (F : Nat → Prop) (d : Nat) (D : Dv) (Y : RLay) : Prop where
  hd : w.heap[d]? = some (.cells #[.slice (some ⟨Y.gs, 0, none⟩) D.S.length Y.cs, Y.vl, .int .i64 D.left, .bool D.down] 59 (0, 0))
  sec : ∃ cur, w.heap[Y.gs]? = some (.cells cur 22 (0, 0)) ∧ cur.size = Y.cs ∧ ∀ i, i < D.S.length → cur[i]? = some (rowV (Y.sb i) (Y.sc i))
  cap : D.S.length ≤ Y.cs
  row : ∀ i (h : i < D.S.length), Row w 5 (Y.sb i) (Y.sc i) D.S[i] ∧ D.S[i].length = 32
  lin : w.ownsRow 0 61 2 Y.vl D.O.length (lnC D.O Y.mb Y.mc)
  mrow : ∀ i, i ∈ D.O → Row w 5 (Y.mb i) (Y.mc i) (D.M i) ∧ (D.M i).length = 32 ∧ i < D.S.length
  nd : D.O.Nodup
  n0 : 1 ≤ D.S.length
  n1 : D.S.length ≤ 300
  l0 : -1 ≤ D.left
  l1 : D.left ≤ 9223372036854775807
  fd : F d
  fs : F Y.gs
  fo : ∀ q, Y.vl.ownBlock = some q → F q
  fr : ∀ i, i < D.S.length → F (Y.sb i)
  fb : ∀ i, i ∈ D.O → F (Y.mb i)
  flt : ∀ k, F k → k < w.heap.size
section
variable {w w' : World} {F F' : Nat → Prop} {d : Nat} {D : Dv} {Y : RLay}
theorem RdIs.same (h : RdIs w F d D Y) (hb : ∀ k, F k → w'.heap[k]? = w.heap[k]?) (hF : ∀ k, F k → F' k) (hl : ∀ k, F' k → k < w'.heap.size) : RdIs w' F' d D Y where
  hd := (hb _ h.fd).trans h.hd
  sec := by obtain ⟨cur, h0, h1⟩ := h.sec; exact ⟨cur, (hb _ h.fs).trans h0, h1⟩
  cap := h.cap
  row := fun i hi => ⟨(h.row i hi).1.block (hb _ (h.fr i hi)), (h.row i hi).2⟩
  lin := ownsRow_block h.lin fun q hq => hb q (h.fo q hq)
  mrow := fun i hi => ⟨(h.mrow i hi).1.block (hb _ (h.fb i hi)), (h.mrow i hi).2⟩
  nd := h.nd
  n0 := h.n0
  n1 := h.n1
  l0 := h.l0
  l1 := h.l1
  fd := hF _ h.fd
  fs := hF _ h.fs
  fo := fun q hq => hF q (h.fo q hq)
  fr := fun i hi => hF _ (h.fr i hi)
  fb := fun i hi => hF _ (h.fb i hi)
  flt := hl
theorem RdIs.below (h : RdIs w F d D Y) (hb : Below w.heap.size w w') : RdIs w' F d D Y :=
  h.same (fun k hk => hb.block k (h.flt k hk)) (fun _ hk => hk) (fun k hk => Nat.lt_of_lt_of_le (h.flt k hk) hb.size)
theorem RdIs.keep {G : Nat → Prop} (h : RdIs w F d D Y) (hk : Keep G w w') (hG : ∀ k, F k → ¬ G k) : RdIs w' F d D Y :=
  h.same (fun k hf => hk.block k (h.flt k hf) (hG k hf)) (fun _ hk => hk) (fun k hf => Nat.lt_of_lt_of_le (h.flt k hf) hk.size)
/-- its own block turned: other lines, other steps left, up or down -/
theorem RdIs.head (h : RdIs w F d D Y) (l' : Int) (b' : Bool)
    (hh : w'.heap[d]? = some (.cells #[.slice (some ⟨Y.gs, 0, none⟩) D.S.length Y.cs, Y.vl, .int .i64 l', .bool b'] 59 (0, 0)))
    (hb : ∀ k, F k → k ≠ d → w'.heap[k]? = w.heap[k]?) (hs : w.heap.size ≤ w'.heap.size) (h0 : -1 ≤ l') (h1 : l' ≤ 9223372036854775807) : RdIs w' F d { D with left := l', down := b' } Y where
  hd := hh
  sec := by
    obtain ⟨cur, h0, h1⟩ := h.sec
    exact ⟨cur, (hb _ h.fs (DevIs.ne_cells h.hd h0 (by decide)).symm).trans h0, h1⟩
  cap := h.cap
  row := fun i hi => ⟨(h.row i hi).1.block (hb _ (h.fr i hi) (DevIs.ne_row h.hd (h.row i hi).1 (by decide)).symm), (h.row i hi).2⟩
  lin := ownsRow_block h.lin fun q hq => hb q (h.fo q hq) (fun e => DevIs.ne_own h.hd h.lin (by decide) (by rw [hq, e]))
  mrow := fun i hi => ⟨(h.mrow i hi).1.block (hb _ (h.fb i hi) (DevIs.ne_row h.hd (h.mrow i hi).1 (by decide)).symm), (h.mrow i hi).2⟩
  nd := h.nd
  n0 := h.n0
  n1 := h.n1
  l0 := h0
  l1 := h1
  fd := h.fd
  fs := h.fs
  fo := h.fo
  fr := h.fr
  fb := h.fb
  flt := fun k hk => Nat.lt_of_lt_of_le (h.flt k hk) hs
theorem RdIs.ord_le (h : RdIs w F d D Y) : D.O.length ≤ 300 :=
  Nat.le_trans (nodup_le D.S.length D.O h.nd (fun x hx => (h.mrow x hx).2.2)) h.n1
theorem RdIs.set23 (h : RdIs w F d D Y) (l' : Int) (h0 : -1 ≤ l') (h1 : l' ≤ 9223372036854775807) (b : Bool) :
    RdIs ((w.setCell ⟨d, 3, none⟩ (.bool b)).setCell ⟨d, 2, none⟩ (.int .i64 l')) F d { D with left := l', down := b } Y ∧ Keep F w ((w.setCell ⟨d, 3, none⟩ (.bool b)).setCell ⟨d, 2, none⟩ (.int .i64 l')) ∧
      ((w.setCell ⟨d, 3, none⟩ (.bool b)).setCell ⟨d, 2, none⟩ (.int .i64 l')).heap.size = w.heap.size := by
  refine ⟨h.head l' b (heap_set5 (heap_set5 h.hd _) _) (fun k _ hk => ?_) (by simp) h0 h1, ((Keep.refl F w).setCell (.inl h.fd) _).setCell (.inl h.fd) _, by simp⟩
  exact (Below.heap_setCell _ _ _ k hk).trans (Below.heap_setCell _ _ _ k hk)
theorem RdIs.set2 (h : RdIs w F d D Y) (l' : Int) (h0 : -1 ≤ l') (h1 : l' ≤ 9223372036854775807) :
    RdIs (w.setCell ⟨d, 2, none⟩ (.int .i64 l')) F d { D with left := l' } Y ∧ Keep F w (w.setCell ⟨d, 2, none⟩ (.int .i64 l')) ∧ (w.setCell ⟨d, 2, none⟩ (.int .i64 l')).heap.size = w.heap.size :=
  ⟨h.head l' D.down (heap_set5 h.hd _) (fun k _ hk => Below.heap_setCell _ _ _ k hk) (by simp) h0 h1, (Keep.refl F w).setCell (.inl h.fd) _, by simp⟩
theorem fourF {w : World} {p : Nat} {a b c d : Value} {t : TypeId} (h : w.heap[p]? = some (.cells #[a, b, c, d] t (0, 0))) :
    (w.cell? ⟨p, 0, none⟩ = some a ∧ w.cell? ⟨p, 1, none⟩ = some b ∧ w.cell? ⟨p, 2, none⟩ = some c ∧ w.cell? ⟨p, 3, none⟩ = some d) ∧ ∀ k, w.frozen? ⟨p, k, none⟩ = false :=
  ⟨⟨by rw [cell_of_row w p 0 _ _ _ h]; rfl, by rw [cell_of_row w p 1 _ _ _ h]; rfl, by rw [cell_of_row w p 2 _ _ _ h]; rfl, by rw [cell_of_row w p 3 _ _ _ h]; rfl⟩, fun k => frozen_of_row w p k _ _ h⟩
theorem rstep_any (h : RdIs w F d D Y) (hdn : D.down = false) :
    Calls Tryd.prog 72 #[.pointer (some ⟨d, 0, none⟩)] w fun e w' => e = .returned (.bool (!(D.left == 0))) ∧ RdIs w' F d (stepD D) Y ∧ Keep F w w' ∧ w'.heap.size = w.heap.size := by
  obtain ⟨⟨c0, c1, c2, c3⟩, ff⟩ := fourF h.hd
  have f2 := ff 2
  have f3 := ff 3
  have l0 := h.l0
  have l1 := h.l1
  rw [hdn] at c3
  have s1 : IntKind.i64.wrap (D.left - 1) = D.left - 1 := IntWalk.i64_in _ (by omega)
  have HH := Hidden.mk h
  have HDN := Hidden.mk hdn
  clear h ff hdn
  by_cases q0 : D.left = 0
  · have t0 : (D.left == 0) = true := by simp [q0]
    have t1 : decide (0 ≤ D.left) = true := by simp [q0]
    have hm := Hidden.mk (HH.out.set23 (max (-1) (D.left - 1)) (by omega) (by omega) (D.left == 0))
    rw [show max (-1) (D.left - 1) = D.left - 1 from by omega, t0] at hm
    have HS : Hidden (stepD D = { D with left := D.left - 1, down := true }) := ⟨by unfold stepD; rw [show max (-1) (D.left - 1) = D.left - 1 from by omega, t0]⟩
    rw [HS.out]
    clear q0 HH HDN HS
    generalize D.left = L at *
    go_enter Tryd.func72, Tryd.ntmps72
    go_wp2_with fail
    go_ret
    exact ⟨by rw [t0]; rfl, hm.out⟩
  · have t0 : (D.left == 0) = false := by simpa using q0
    by_cases q1 : 0 ≤ D.left
    · have t1 : decide (0 ≤ D.left) = true := by simpa using q1
      have hm := Hidden.mk (HH.out.set2 (D.left - 1) (by omega) (by omega))
      have HS : Hidden (stepD D = { D with left := D.left - 1 }) := ⟨by unfold stepD; rw [show max (-1) (D.left - 1) = D.left - 1 from by omega, t0, ← HDN.out]⟩
      rw [HS.out]
      clear q0 q1 HH HDN HS
      generalize D.left = L at *
      go_enter Tryd.func72, Tryd.ntmps72
      go_wp2_with fail
      go_ret
      exact ⟨by rw [t0]; rfl, hm.out⟩
    · have t1 : decide (0 ≤ D.left) = false := by simpa using q1
      have HS : Hidden (stepD D = D) := ⟨by unfold stepD; rw [show max (-1) (D.left - 1) = D.left from by omega, t0, ← HDN.out]⟩
      rw [HS.out]
      clear q0 q1 HDN HS
      generalize hL : D.left = L at *
      clear hL
      go_enter Tryd.func72, Tryd.ntmps72
      go_wp2_with fail
      go_ret
      exact ⟨by rw [t0]; rfl, HH.out, Keep.refl _ _, rfl⟩
theorem rfail_any (h : RdIs w F d D Y) (n : Int) (hn : n ≤ 9223372036854775807) :
    Calls Tryd.prog 28 #[.pointer (some ⟨d, 0, none⟩), .int .i64 n] w fun e w' => e = .returned (.tuple #[]) ∧ RdIs w' F d { D with left := max (-1) n } Y ∧ Keep F w w' ∧ w'.heap.size = w.heap.size := by
  obtain ⟨⟨c0, c1, c2, c3⟩, ff⟩ := fourF h.hd
  have f2 := ff 2
  have hm := Hidden.mk (h.set2 (max (-1) n) (by omega) (by omega))
  clear h ff
  by_cases q0 : n < 0
  · have t0 : decide (n < 0) = true := by simpa using q0
    rw [show max (-1) n = -1 from by omega] at *
    clear q0
    go_enter Tryd.func28, Tryd.ntmps28
    go_wp2_with fail
    go_end0
    exact ⟨rfl, hm.out⟩
  · have t0 : decide (n < 0) = false := by simpa using q0
    rw [show max (-1) n = n from by omega] at *
    clear q0
    go_enter Tryd.func28, Tryd.ntmps28
    go_wp2_with fail
    go_end0
    exact ⟨rfl, hm.out⟩
end
end Go.Proofs.YtmhlnbbnanehiaaDoor
/- Slices of the call's own, element by element. -/
namespace Go.Proofs.YtmhlnbbnanehiaaDoor
open Go.RowKit

theorem flat_at {X : Type} (f : X → List Value) (C : Nat) (hC : ∀ x, (f x).length = C) : ∀ (L : List X) (i : Nat) (h : i < L.length) (q : Nat), q < C → (L.flatMap f)[i * C + q]? = (f L[i])[q]?
  | [], i, h, _, _ => absurd h (by simp)
  | x :: r, 0, _, q, hq => by
    rw [List.flatMap_cons, Nat.zero_mul, Nat.zero_add, List.getElem?_append_left (by rw [hC]; exact hq)]; rfl
  | x :: r, i + 1, h, q, hq => by
    have hx := hC x
    rw [List.flatMap_cons, List.getElem?_append_right (by rw [hx, Nat.succ_mul]; omega), hx, show (i + 1) * C + q - C = i * C + q by rw [Nat.succ_mul]; omega]
    exact flat_at f C hC r i (by simpa using h) q hq
section
variable {X : Type} {f : X → List Value} {C : Nat} {w : World} {base : Nat} {e : TypeId} {v : Value} {A : Option Addr} {n c : Nat} {L : List X}
theorem own_at (hC : ∀ x, (f x).length = C) (h : w.ownsRow base e C (.slice A n c) n (L.flatMap f)) (k : Nat) (hk : k < L.length) (h0 : 0 < n) :
    ∃ g off, A = some ⟨g, off, none⟩ ∧ base ≤ g ∧ g < w.heap.size ∧ ∀ q u, (f L[k])[q]? = some u → w.cell? ⟨g, off + k * C + q, none⟩ = some u := by
  rcases h.2 with ⟨he, hn0⟩ | ⟨g, cap, cur, he, hb, hh, _⟩
  · omega
  · injection he with he
    subst he
    refine ⟨g, 0, rfl, hb, (Array.getElem?_eq_some_iff.1 hh).1, fun q u hq => ?_⟩
    have hqC : q < C := by rw [← hC L[k]]; exact (List.getElem?_eq_some_iff.1 hq).1
    have := h.cells (g := g) rfl (k * C + q) u (by rw [flat_at f C hC L k hk q hqC]; exact hq)
    rw [Addr.add_lit] at this
    rw [Nat.add_assoc]
    exact this
theorem own_split (h : w.ownsRow base e C v n (L.flatMap f)) : ∃ A c, v = .slice A n c ∧ n ≤ c ∧ c ≤ maxLen := by
  rcases h.2 with ⟨rfl, rfl⟩ | ⟨g, cap, cur, rfl, _, hh, hc, hm, _⟩
  · exact ⟨none, 0, rfl, Nat.le_refl _, by simp [maxLen]⟩
  · exact ⟨_, cap, rfl, hc, hm⟩
theorem own_rdX3 (hC : ∀ x, (f x).length = C) (hn : L.length = n) (h : w.ownsRow base e C (.slice A n c) n (L.flatMap f)) : RdX f C w A L := fun i hi => by
  obtain ⟨g, off, hA, _, _, hc⟩ := own_at hC h i hi (by omega)
  exact ⟨g, off, hA, hc⟩
end
structure Bel (w0 w : World) : Prop where
  out : Below w0.heap.size w0 w
theorem Bel.below {w0 w w' : World} (h : Bel w0 w) (hb : Below w.heap.size w w') : Bel w0 w' := ⟨h.out.trans (hb.mono h.out.size)⟩
structure RowW (w : World) (e g cap : Nat) (l : Bytes) : Prop where
  row : Row w e g cap l
theorem RowW.below {w w' : World} {e g cap : Nat} {l : Bytes} (h : RowW w e g cap l) (hb : Below w.heap.size w w') : RowW w' e g cap l := ⟨h.row.below hb h.row.lt⟩
structure OwnR (w : World) (base e size : Nat) (v : Value) (n : Nat) (xs : List Value) : Prop where
  own : w.ownsRow base e size v n xs
theorem OwnR.below {w w' : World} {base e size : Nat} {v : Value} {n : Nat} {xs : List Value} (h : OwnR w base e size v n xs) (hb : Below w.heap.size w w') : OwnR w' base e size v n xs := ⟨own_below h.own hb⟩
end Go.Proofs.YtmhlnbbnanehiaaDoor
/- The reference's device: Read. -/
namespace Go.Proofs.YtmhlnbbnanehiaaDoor
open Go.RowKit Go.Maps Go.ChangeMaps

section
variable {w w' : World} {F F' : Nat → Prop} {d : Nat} {D : Dv} {Y : RLay}
def lnF (mb mc : Nat → Nat) (i : Nat) : List Value := [.int .i64 (i : Int), rowV (mb i) (mc i)]
theorem RdIs.lines (h : RdIs w F d D Y) : ∃ A c, Y.vl = .slice A D.O.length c ∧ D.O.length ≤ c ∧ ∀ (k o : Nat), D.O[k]? = some o → ∃ g, A = some ⟨g, 0, none⟩ ∧ F g ∧ w.cell? ⟨g, k * 2, none⟩ = some (.int .i64 (o : Int)) ∧ w.cell? ⟨g, k * 2 + 1, none⟩ = some (rowV (Y.mb o) (Y.mc o)) := by
  have hl : w.ownsRow 0 61 2 Y.vl D.O.length (D.O.flatMap (lnF Y.mb Y.mc)) := h.lin
  have hfo := h.fo
  rcases hl.2 with ⟨hA, h0⟩ | ⟨g, cap, cur, hA, -, hh, hc, -⟩
  · refine ⟨none, 0, by rw [hA, h0], by omega, fun k o hk => ?_⟩
    have := (List.getElem?_eq_some_iff.1 hk).1
    omega
  · refine ⟨_, cap, hA, hc, fun k o hk => ?_⟩
    obtain ⟨hkl, rfl⟩ := List.getElem?_eq_some_iff.1 hk
    rw [hA] at hl hfo
    refine ⟨g, rfl, hfo g rfl, ?_, ?_⟩
    · have := hl.cells (g := g) rfl (k * 2 + 0) (.int .i64 (D.O[k] : Int)) (by rw [flat_at (lnF Y.mb Y.mc) 2 (fun _ => rfl) D.O k hkl 0 (by omega)]; rfl)
      rwa [Addr.add_lit, Nat.add_zero, Nat.zero_add] at this
    · have := hl.cells (g := g) rfl (k * 2 + 1) (rowV (Y.mb D.O[k]) (Y.mc D.O[k])) (by rw [flat_at (lnF Y.mb Y.mc) 2 (fun _ => rfl) D.O k hkl 1 (by omega)]; rfl)
      rwa [Addr.add_lit, Nat.zero_add] at this
/-- what the reference's Read says -/
def RrAns (w : World) (F : Nat → Prop) (l : Bytes) (k : Nat) (e : Ending) (w' : World) : Prop :=
  ∃ A c, e = .returned (.tuple #[.slice A l.length c, .int .i64 (k : Int)]) ∧ l.length ≤ c ∧ Rd w' A l ∧ (∀ ad, A = some ad → F ad.block) ∧ Below w.heap.size w w'
set_option maxRecDepth 100000 in
theorem rread_any (h : RdIs w F d D Y) (i : Int) :
    Calls Tryd.prog 31 #[.pointer (some ⟨d, 0, none⟩), .int .i64 i] w (RrAns w F (rdL D i) (rdE D i)) := by
  obtain ⟨⟨c0, c1, c2, c3⟩, ff⟩ := fourF h.hd
  have n1 := h.n1
  unfold rdL
  by_cases h1 : i < 0 ∨ (D.S.length : Int) ≤ i
  · have e : rdE D i = 1 := by unfold rdE; rw [if_pos h1]
    rw [e, if_neg (by decide)]
    clear h ff e
    by_cases h2 : i < 0
    · have t1 : decide (i < 0) = true := by simpa using h2
      clear h1 h2
      go_enter Tryd.func31, Tryd.ntmps31
      go_wp2_with fail
      go_ret2
      exact ⟨none, 0, rfl, Nat.le_refl _, Rd.nil_, (fun ad e => by cases e), Below.refl _ _⟩
    · have t1 : decide (i < 0) = false := by simpa using h2
      have t2 : decide ((D.S.length : Int) ≤ i) = true := by simp; omega
      clear h1 h2
      go_enter Tryd.func31, Tryd.ntmps31
      go_wp2_with fail
      go_ret2
      exact ⟨none, 0, rfl, Nat.le_refl _, Rd.nil_, (fun ad e => by cases e), Below.refl _ _⟩
  · obtain ⟨i, rfl⟩ : ∃ k : Nat, i = k := ⟨i.toNat, by omega⟩
    have hi : i < D.S.length := by omega
    have t2 : decide ((D.S.length : Int) ≤ (i : Int)) = false := by simp; omega
    have t3 : decide (D.S.length ≤ i) = false := by simp; omega
    cases hd : D.down with
    | true =>
      have e : rdE D (i : Int) = 9 := by unfold rdE; rw [if_neg h1, if_pos hd]
      rw [e, if_neg (by decide)]
      rw [hd] at c3
      clear h ff e h1 hd hi
      go_enter Tryd.func31, Tryd.ntmps31
      go_wp2_with fail
      go_ret2
      exact ⟨none, 0, rfl, Nat.le_refl _, Rd.nil_, (fun ad e => by cases e), Below.refl _ _⟩
    | false =>
      have e : rdE D (i : Int) = 0 := by unfold rdE; rw [if_neg h1, if_neg (by rw [hd]; decide)]
      rw [e, if_pos rfl, Int.toNat_natCast]
      rw [hd] at c3
      obtain ⟨A, c, hA, hc, hln⟩ := h.lines
      rw [hA] at c1
      obtain ⟨cur, hcur, hcs, hcu⟩ := h.sec
      have hsr := h.row i hi
      have hsc := hcu i hi
      have HSEC : Hidden (w.cell? ⟨Y.gs, i, none⟩ = some (rowV (Y.sb i) (Y.sc i)) ∧ F (Y.sb i) ∧ Row w 5 (Y.sb i) (Y.sc i) D.S[i] ∧ D.S[i].length = 32) := ⟨⟨by rw [cell_of_row w Y.gs i cur _ _ hcur]; exact hsc, h.fr i hi, hsr⟩⟩
      have HM : Hidden (∀ o, o ∈ D.O → Row w 5 (Y.mb o) (Y.mc o) (D.M o) ∧ (D.M o).length = 32 ∧ F (Y.mb o)) := ⟨fun o ho => ⟨(h.mrow _ ho).1, (h.mrow _ ho).2.1, h.fb _ ho⟩⟩
      have HLN := Hidden.mk hln
      have HRD : Hidden (readD D i = if i ∈ D.O then D.M i else D.S[i]) := ⟨by unfold readD; rw [List.getD_eq_getElem?_getD, List.getElem?_eq_getElem hi]; rfl⟩
      have HO := Hidden.mk h.ord_le
      have C1 := c1
      generalize readD D i = R at *
      generalize D.O = O at *
      obtain ⟨m, hOl⟩ : ∃ m, O.length = m := ⟨_, rfl⟩
      rw [hOl] at c1 hc HO
      have HOL := Hidden.mk hOl
      have HC := Hidden.mk (And.intro c0 (And.intro c1 c3))
      have hm3 := HO.out
      clear h ff e h1 hd hcur hcs hcu hsr hsc hln hA hOl C1
      go_enter Tryd.func31, Tryd.ntmps31
      go_wp2_with fail
      go_loopg [6] m (fun r kv wr => ∃ k : Nat, k ≤ m ∧ r = m - k ∧ kv = .int .i64 (k : Int) ∧ Hidden ((∀ j, j < k → O[j]? ≠ some i) ∧ Below w.heap.size w wr))
      case atStart => exact ⟨0, by omega, rfl, rfl, ⟨fun j hj => by omega, Below.refl _ _⟩⟩
      case round =>
        obtain ⟨k, hk, rfl, rfl, hs⟩ := hrel
        have HS := Hidden.mk hs.out
        clear hs
        have hb := HS.out.2
        have z0 := (hb.cell (p := ⟨d, 0, none⟩) (block_lt_of_cell c0)).trans c0
        have z1 := (hb.cell (p := ⟨d, 1, none⟩) (block_lt_of_cell c1)).trans c1
        clear hb
        by_cases hlt : k < m
        · have k0 : (0 : Int) ≤ k := by omega
          have k1 : (k : Int) < m := by omega
          have s1 : IntKind.i64.wrap ((k : Int) + 1) = (k : Int) + 1 := IntWalk.i64_in _ (by omega)
          obtain ⟨o, ho⟩ : ∃ o, O[k]? = some o := ⟨O[k]'(by rw [HOL.out]; exact hlt), List.getElem?_eq_getElem _⟩
          obtain ⟨g, rfl, hFg, y0, y1⟩ := HLN.out k o ho
          have x0 := (HS.out.2.cell (p := ⟨g, k * 2, none⟩) (block_lt_of_cell y0)).trans y0
          have x1 := (HS.out.2.cell (p := ⟨g, k * 2 + 1, none⟩) (block_lt_of_cell y1)).trans y1
          unfold rowV at x1
          clear y0 y1 c0 c1
          by_cases hoi : o = i
          · have HRW := HM.out i (by rw [← hoi]; exact List.mem_of_getElem? ho)
            have hR : R = D.M i := by rw [HRD.out, if_pos (by rw [← hoi]; exact List.mem_of_getElem? ho)]
            subst hoi
            have q1 : ((o : Int) == (o : Int)) = true := by simp
            rw [← hR] at HRW
            have HRW := Hidden.mk HRW
            clear hR ho
            go_wp2_with fail
            go_ret2
            obtain ⟨a1, a2, a3⟩ := HRW.out
            exact ⟨some ⟨Y.mb o, 0, none⟩, Y.mc o, by rw [a2]; rfl, a1.le.1, (a1.below HS.out.2 a1.lt).rd, fun ad e => by obtain rfl := Option.some.inj e; exact a3, HS.out.2⟩
          · have q1 : ((o : Int) == (i : Int)) = false := by simp; omega
            have HN : Hidden ((∀ j, j < k + 1 → O[j]? ≠ some i) ∧ Below w.heap.size w wr) := ⟨fun j hj => by
              by_cases hjk : j = k
              · rw [hjk, ho]; intro e; exact hoi (Option.some.inj e)
              · exact HS.out.1 j (by omega), HS.out.2⟩
            clear hoi ho
            go_wp2_with fail
            go_roundg (m - (k + 1))
            case measure => omega
            case rel => exact ⟨k + 1, by omega, rfl, by go_num, HN⟩
        · obtain rfl : k = m := by omega
          have t4 : decide ((k : Int) < k) = false := by simp
          have hR : R = D.S[i] := by
            rw [HRD.out, if_neg (fun h => ?_)]
            obtain ⟨j, hj, e⟩ := List.getElem_of_mem h
            exact HS.out.1 j (by rw [← HOL.out]; exact hj) (by rw [List.getElem?_eq_getElem hj, e])
          obtain ⟨a0, a1, a2, a3⟩ := HSEC.out
          rw [← hR] at a2 a3
          have x0 := (HS.out.2.cell (p := ⟨Y.gs, i, none⟩) (block_lt_of_cell a0)).trans a0
          unfold rowV at x0
          have HX := Hidden.mk (And.intro a1 (And.intro a2 a3))
          have i0 : (0 : Int) ≤ i := by omega
          have i1 : (i : Int) < D.S.length := by omega
          clear a0 a1 a2 a3 hR c0 c1 HSEC HM
          go_wp2_with fail
          go_ret2
          obtain ⟨a1, a2, a3⟩ := HX.out
          exact ⟨some ⟨Y.sb i, 0, none⟩, Y.sc i, by rw [a3]; rfl, a2.le.1, (a2.below HS.out.2 a2.lt).rd, fun ad e => by obtain rfl := Option.some.inj e; exact a1, HS.out.2⟩
end
end Go.Proofs.YtmhlnbbnanehiaaDoor
/- The reference's device: Write. -/
namespace Go.Proofs.YtmhlnbbnanehiaaDoor
open Go.RowKit Go.Maps Go.ChangeMaps

theorem line_info : (Tryd.prog.info? 61).map (fun i => (i.zero, i.size, i.bytes)) = some (some (.agg #[.int .i64 0, .slice none 0 0]), 2, 32) := by kernel_rfl
/-- the body of the line of o is another one -/
def setAt1 (f : Nat → Nat) (o x : Nat) : Nat → Nat := fun j => if j = o then x else f j
theorem lnC_not {O : List Nat} {mb mc : Nat → Nat} {o g c : Nat} (h : o ∉ O) : lnC O (setAt1 mb o g) (setAt1 mc o c) = lnC O mb mc := by
  unfold lnC
  rw [List.flatMap_def, List.flatMap_def]
  congr 1
  refine List.map_congr_left fun i hi => ?_
  have : i ≠ o := fun e => h (e ▸ hi)
  unfold setAt1
  rw [if_neg this, if_neg this]
theorem lnC_set {g c : Nat} {mb mc : Nat → Nat} : ∀ (O : List Nat) (k o : Nat), O.Nodup → O[k]? = some o → (lnC O mb mc).set (k * 2 + 1) (rowV g c) = lnC O (setAt1 mb o g) (setAt1 mc o c)
  | [], k, o, _, h => by simp at h
  | a :: r, 0, o, hn, h => by
    obtain rfl : a = o := by simpa using h
    have h2 := lnC_not (mb := mb) (mc := mc) (g := g) (c := c) (List.nodup_cons.1 hn).1
    show [.int .i64 (a : Int), rowV g c] ++ lnC r mb mc = [.int .i64 (a : Int), rowV (setAt1 mb a g a) (setAt1 mc a c a)] ++ lnC r (setAt1 mb a g) (setAt1 mc a c)
    rw [h2]
    simp [setAt1]
  | a :: r, k + 1, o, hn, h => by
    have h' : r[k]? = some o := by simpa using h
    have hao : a ≠ o := fun e => (List.nodup_cons.1 hn).1 (e ▸ List.mem_of_getElem? h')
    have ih := lnC_set (g := g) (c := c) (mb := mb) (mc := mc) r k o (List.nodup_cons.1 hn).2 h'
    show ([.int .i64 (a : Int), rowV (mb a) (mc a)] ++ lnC r mb mc).set ((k + 1) * 2 + 1) (rowV g c) = [.int .i64 (a : Int), rowV (setAt1 mb o g a) (setAt1 mc o c a)] ++ lnC r (setAt1 mb o g) (setAt1 mc o c)
    rw [← ih, show (k + 1) * 2 + 1 = 2 + (k * 2 + 1) by omega, List.set_append_right _ _ (by simp)]
    simp [setAt1, hao]
def wrM (D : Dv) (o : Nat) (b : Bytes) : Dv := { D with M := fun j => if j = o then b else D.M j }
section
variable {w w' : World} {F F' : Nat → Prop} {d : Nat} {D : Dv} {Y : RLay}
/-- M at what is not pending does not matter -/
theorem RdIs.offM (h : RdIs w F d D Y) {o : Nat} {b : Bytes} (ho : o ∉ D.O) : RdIs w F d (wrM D o b) Y :=
  { hd := h.hd, sec := h.sec, cap := h.cap, row := h.row, lin := h.lin, mrow := (fun i hi => by
      have : i ≠ o := fun e => ho (e ▸ hi)
      show Row w 5 (Y.mb i) (Y.mc i) (if i = o then b else D.M i) ∧ (if i = o then b else D.M i).length = 32 ∧ _
      rw [if_neg this]
      exact h.mrow i hi), nd := h.nd, n0 := h.n0, n1 := h.n1, l0 := h.l0, l1 := h.l1, fd := h.fd, fs := h.fs, fo := h.fo, fr := h.fr, fb := h.fb, flt := h.flt }
theorem RdIs.setLine (h : RdIs w F d D Y) {k o gl c g cap : Nat} {b : Bytes} (hk : D.O[k]? = some o) (hgl : Y.vl = .slice (some ⟨gl, 0, none⟩) D.O.length c) (hr : Row w 5 g cap b) (hb : b.length = 32) :
    RdIs (w.setCell ⟨gl, k * 2 + 1, none⟩ (rowV g cap)) (fun q => F q ∨ q = g) d (wrM D o b) { Y with mb := setAt1 Y.mb o g, mc := setAt1 Y.mc o cap } := by
  have hl := h.lin
  rw [hgl] at hl
  obtain ⟨hgt, hgc⟩ : (∃ cur, w.heap[gl]? = some (.cells cur 61 (0, 0))) ∧ True := by
    rcases hl.2 with ⟨e, _⟩ | ⟨g', cap', cur, e, _, hh, _⟩
    · cases e
    · injection e with e1
      injection e1 with e1
      injection e1 with e1
      subst e1
      exact ⟨⟨cur, hh⟩, trivial⟩
  obtain ⟨curl, hcl⟩ := hgt
  have hoth : ∀ q, q ≠ gl → (w.setCell ⟨gl, k * 2 + 1, none⟩ (rowV g cap)).heap[q]? = w.heap[q]? := fun q hq => Below.heap_setCell _ _ _ _ hq
  have hro : ∀ {q c' : Nat} {l : Bytes}, Row w 5 q c' l → Row (w.setCell ⟨gl, k * 2 + 1, none⟩ (rowV g cap)) 5 q c' l := fun {q c' l} hr => hr.block (hoth q (DevIs.ne_row hcl hr (by decide)).symm)
  have hF : F gl := h.fo gl (by rw [hgl]; rfl)
  refine { hd := (hoth d (DevIs.ne_cells h.hd hcl (by decide))).trans h.hd, sec := ?_, cap := h.cap, row := fun i hi => ⟨hro (h.row i hi).1, (h.row i hi).2⟩, lin := ?_, mrow := fun i hi => ?_, nd := h.nd, n0 := h.n0, n1 := h.n1, l0 := h.l0, l1 := h.l1, fd := .inl h.fd, fs := .inl h.fs, fo := fun q hq => .inl (h.fo q hq), fr := fun i hi => .inl (h.fr i hi), fb := fun i hi => ?_, flt := fun q hq => ?_ }
  · obtain ⟨cur, h0, h1⟩ := h.sec
    exact ⟨cur, (hoth _ (DevIs.ne_cells h0 hcl (by decide))).trans h0, h1⟩
  · have := own_set hl (k * 2 + 1) (rowV g cap)
    show World.ownsRow _ _ _ _ Y.vl _ (lnC D.O (setAt1 Y.mb o g) (setAt1 Y.mc o cap))
    rw [← lnC_set D.O k o h.nd hk, hgl]
    exact this
  · show Row _ 5 (setAt1 Y.mb o g i) (setAt1 Y.mc o cap i) (if i = o then b else D.M i) ∧ (if i = o then b else D.M i).length = 32 ∧ i < D.S.length
    unfold setAt1
    by_cases hio : i = o
    · rw [if_pos hio, if_pos hio, if_pos hio]
      exact ⟨hro hr, hb, (h.mrow i hi).2.2⟩
    · rw [if_neg hio, if_neg hio, if_neg hio]
      obtain ⟨a1, a2, a3⟩ := h.mrow i hi
      exact ⟨hro a1, a2, a3⟩
  · show F (setAt1 Y.mb o g i) ∨ setAt1 Y.mb o g i = g
    unfold setAt1
    by_cases hio : i = o
    · rw [if_pos hio]; exact .inr rfl
    · rw [if_neg hio]; exact .inl (h.fb i hi)
  · have e : (w.setCell ⟨gl, k * 2 + 1, none⟩ (rowV g cap)).heap.size = w.heap.size := by simp
    rw [e]
    rcases hq with hq | rfl
    · exact h.flt q hq
    · exact hr.lt
end
end Go.Proofs.YtmhlnbbnanehiaaDoor
/- The reference's device: Write, whole. -/
namespace Go.Proofs.YtmhlnbbnanehiaaDoor
open Go.RowKit Go.Maps Go.ChangeMaps

section
variable {w w' : World} {F F' : Nat → Prop} {d : Nat} {D : Dv} {Y : RLay}
/-- a line more -/
theorem RdIs.added {w8 : World} (h : RdIs w F d D Y) {i g cap : Nat} {b : Bytes} {v8 : Value} (hio : i ∉ D.O) (hi : i < D.S.length) (hr : Row w8 5 g cap b) (hb : b.length = 32) (hgn : w.heap.size ≤ g)
    (hown8 : w8.ownsRow 0 61 2 v8 (D.O.length + 1) (lnC D.O Y.mb Y.mc ++ [.int .i64 (i : Int), rowV g cap])) (hg : w.grownBy w8 Y.vl.ownBlock) (hv8 : ∀ q, v8.ownBlock = some q → Y.vl.ownBlock = some q ∨ w.heap.size ≤ q) :
    RdIs (w8.setCell ⟨d, 1, none⟩ v8) (growF F w w8) d (putD D i b) { Y with vl := v8, mb := setAt1 Y.mb i g, mc := setAt1 Y.mc i cap } ∧ Keep F w (w8.setCell ⟨d, 1, none⟩ v8) := by
  have hvd := DevIs.ne_own h.hd h.lin (by decide)
  have hdl := h.flt d h.fd
  have hd8 := (hg.block d hdl (fun e => hvd e.symm)).trans h.hd
  have hold : ∀ q, F q → q ≠ d → Y.vl.ownBlock ≠ some q → (w8.setCell ⟨d, 1, none⟩ v8).heap[q]? = w.heap[q]? := fun q hq hqd hqv =>
    (Below.heap_setCell _ _ _ _ hqd).trans (hg.block q (h.flt q hq) (fun e => hqv e.symm))
  have hro : ∀ {q c' : Nat} {l : Bytes}, F q → Row w 5 q c' l → Row (w8.setCell ⟨d, 1, none⟩ v8) 5 q c' l := fun {q c' l} hf hr => by
    obtain ⟨cur, hcur, -⟩ := id hr
    exact hr.block (hold q hf (DevIs.ne_row h.hd hr (by decide)).symm (DevIs.ne_own hcur h.lin (by decide)))
  have hO : (putD D i b).O = D.O ++ [i] := by unfold putD; rw [if_neg hio]
  have hbig : w.heap.size ≤ w8.heap.size := hg.size
  have hin : ∀ q, F q → growF F w w8 q := fun q hq => ⟨.inl hq, Nat.lt_of_lt_of_le (h.flt q hq) hbig⟩
  refine ⟨{ hd := ?_, sec := ?_, cap := h.cap, row := fun k hk => ⟨hro (h.fr k hk) (h.row k hk).1, (h.row k hk).2⟩, lin := ?_, mrow := fun k hk => ?_, nd := ?_, n0 := h.n0, n1 := h.n1, l0 := h.l0, l1 := h.l1, fd := hin _ h.fd, fs := hin _ h.fs, fo := fun q hq => ?_, fr := fun k hk => hin _ (h.fr k hk), fb := fun k hk => ?_, flt := fun q hq => ?_ }, ?_⟩
  · rw [heap_set5 hd8 v8]; rfl
  · obtain ⟨cur, h0, h1⟩ := h.sec
    exact ⟨cur, (hold _ h.fs (DevIs.ne_cells h.hd h0 (by decide)).symm (DevIs.ne_own h0 h.lin (by decide))).trans h0, h1⟩
  · rw [hO, List.length_append]
    have e : lnC (D.O ++ [i]) (setAt1 Y.mb i g) (setAt1 Y.mc i cap) = lnC D.O Y.mb Y.mc ++ [.int .i64 (i : Int), rowV g cap] := by
      have h1 := lnC_not (mb := Y.mb) (mc := Y.mc) (g := g) (c := cap) hio
      show (D.O ++ [i]).flatMap _ = _
      rw [List.flatMap_append]
      show lnC D.O (setAt1 Y.mb i g) (setAt1 Y.mc i cap) ++ _ = _
      rw [h1]
      simp [setAt1]
    show World.ownsRow _ _ _ _ v8 _ (lnC (D.O ++ [i]) (setAt1 Y.mb i g) (setAt1 Y.mc i cap))
    rw [e]
    refine ownsRow_block hown8 fun q hq => Below.heap_setCell _ _ _ _ (show q ≠ d from fun e => ?_)
    rcases hv8 q hq with h' | h'
    · exact hvd (e ▸ h')
    · omega
  · rw [hO, List.mem_append, List.mem_singleton] at hk
    show Row _ 5 (setAt1 Y.mb i g k) (setAt1 Y.mc i cap k) (if k = i then b else D.M k) ∧ (if k = i then b else D.M k).length = 32 ∧ k < D.S.length
    unfold setAt1
    by_cases hki : k = i
    · rw [if_pos hki, if_pos hki, if_pos hki]
      exact ⟨hr.block (Below.heap_setCell _ _ _ _ (show g ≠ d by omega)), hb, by omega⟩
    · rw [if_neg hki, if_neg hki, if_neg hki]
      obtain ⟨a1, a2, a3⟩ := h.mrow k (hk.elim id (fun e => absurd e hki))
      exact ⟨hro (h.fb k (hk.elim id (fun e => absurd e hki))) a1, a2, a3⟩
  · rw [hO]
    exact List.nodup_append.2 ⟨h.nd, by simp, fun x hx y hy e => by
      rw [List.mem_singleton] at hy
      exact hio (hy ▸ e ▸ hx)⟩
  · refine ⟨(hv8 q hq).imp (fun h' => h.fo q h') id, (hown8.lt q hq).2⟩
  · rw [hO, List.mem_append, List.mem_singleton] at hk
    show growF F w w8 (setAt1 Y.mb i g k)
    unfold setAt1
    by_cases hki : k = i
    · rw [if_pos hki]; exact ⟨.inr hgn, hr.lt⟩
    · rw [if_neg hki]; exact hin _ (h.fb k (hk.elim id (fun e => absurd e hki)))
  · have e : (w8.setCell ⟨d, 1, none⟩ v8).heap.size = w8.heap.size := by simp
    rw [e]; exact hq.2
  · exact (show Keep F w w8 from ⟨hg.os, hg.tape, hg.output, hg.size, fun q hq hn => hg.block q hq (fun e => hn (h.fo q e.symm))⟩).setCell (.inl h.fd) _
end
/-- so many lines are looked at -/
structure RwSt (w wr : World) (F : Nat → Prop) (d : Nat) (D : Dv) (i : Nat) (b : Bytes) (k : Nat) (F' : Nat → Prop) (D' : Dv) (Y' : RLay) : Prop where
  dev : RdIs wr F' d D' Y'
  kp : Keep F w wr
  sub : ∀ q, F' q → F q ∨ w.heap.size ≤ q
  yes : i ∈ D.O.take k → D' = wrM D i b
  no : i ∉ D.O.take k → D' = D
theorem RwSt.same {w wr : World} {F : Nat → Prop} {d : Nat} {D : Dv} {i : Nat} {b : Bytes} {k : Nat} {F' : Nat → Prop} {D' : Dv} {Y' : RLay} (h : RwSt w wr F d D i b k F' D' Y') : D'.O = D.O ∧ D'.S = D.S ∧ D'.left = D.left ∧ D'.down = D.down := by
  by_cases hk : i ∈ D.O.take k
  · rw [h.yes hk]; exact ⟨rfl, rfl, rfl, rfl⟩
  · rw [h.no hk]; exact ⟨rfl, rfl, rfl, rfl⟩
section
variable {w : World} {F : Nat → Prop} {d : Nat} {D : Dv} {Y : RLay}
/-- what a call says that changes the device -/
def RwAns (w : World) (F : Nat → Prop) (d : Nat) (r : Dv × Nat) (e : Ending) (w' : World) : Prop :=
  e = .returned (.int .i64 (r.2 : Int)) ∧ ∃ F' Y', RdIs w' F' d r.1 Y' ∧ Keep F w w' ∧ ∀ k, F' k → F k ∨ w.heap.size ≤ k
theorem RwAns.mk {w w' : World} {F F' : Nat → Prop} {d k : Nat} {D' : Dv} {Y' : RLay} {e : Ending} {r : Dv × Nat} (hr : r = (D', k)) (he : e = .returned (.int .i64 (k : Int))) (h : RdIs w' F' d D' Y' ∧ Keep F w w' ∧ ∀ k, F' k → F k ∨ w.heap.size ≤ k) : RwAns w F d r e w' := by
  subst hr
  exact ⟨he, F', Y', h⟩
set_option maxRecDepth 100000 in
theorem rwrite_ok (h : RdIs w F d D Y) (i : Nat) (A : Option Addr) (c : Nat) (b : Bytes) (hi : i < D.S.length) (hdn : D.down = false) (hb : b.length = 32) (hrd : Rd w A b) (hAF : ∀ ad, A = some ad → ¬ F ad.block) :
    Calls Tryd.prog 24 #[.pointer (some ⟨d, 0, none⟩), .int .i64 (i : Int), .slice A 32 c] w (RwAns w F d (wrD D (i : Int) b)) := by
  rw [wrD_ok hi hb hdn]
  have HR9 : Hidden (D.left = 0 → (stepD (putD D i b), if D.left = 0 then 9 else 0) = (stepD (putD D i b), 9)) := ⟨fun h => by rw [if_pos h]⟩
  have HR0 : Hidden (D.left ≠ 0 → (stepD (putD D i b), if D.left = 0 then 9 else 0) = (stepD (putD D i b), 0)) := ⟨fun h => by rw [if_neg h]⟩
  generalize (stepD (putD D i b), if D.left = 0 then 9 else 0) = r9 at *
  obtain ⟨⟨c0, c1, c2, c3⟩, ff⟩ := fourF h.hd
  have n1 := h.n1
  rw [hdn] at c3
  have t2 : decide ((D.S.length : Int) ≤ (i : Int)) = false := by simp; omega
  have t3 : decide (D.S.length ≤ i) = false := by simp; omega
  obtain ⟨p, off, hA, hpl⟩ := hrd.lt (by omega)
  subst hA
  obtain ⟨m, hm⟩ : ∃ m, D.O.length = m := ⟨_, rfl⟩
  have HM := Hidden.mk hm
  have hm3 := h.ord_le
  rw [hm] at hm3
  have HST : Hidden (RwSt w w F d D i b 0 F D Y) := ⟨⟨h, Keep.refl _ _, fun _ hq => .inl hq, fun hh => by simp at hh, fun _ => rfl⟩⟩
  have HRD := Hidden.mk (And.intro hrd hAF)
  have HND := Hidden.mk h.nd
  have HDN := Hidden.mk hdn
  obtain ⟨A1, cl, hvl, hcl, -⟩ := h.lines
  rw [hvl] at c1
  rw [hm] at c1 hcl
  clear h ff hm hdn hvl hAF hrd
  go_enter Tryd.func24, Tryd.ntmps24
  go_wp2_with fail
  clear c0 c1 c2 c3 hcl t2 t3
  go_loopg [7, 8] m (fun r fv kv wr => ∃ (k : Nat) (F' : Nat → Prop) (D' : Dv) (Y' : RLay), k ≤ m ∧ r = m - k ∧ fv = .bool (decide (i ∈ D.O.take k)) ∧ kv = .int .i64 (k : Int) ∧ Hidden (RwSt w wr F d D i b k F' D' Y'))
  case atStart => exact ⟨0, F, D, Y, by omega, rfl, by simp, rfl, HST⟩
  case round =>
    obtain ⟨k, F', D', Y', hk, rfl, rfl, rfl, hs⟩ := hrel
    have HS := Hidden.mk hs.out
    clear hs HST
    obtain ⟨⟨c0, c1, c2, c3⟩, ff⟩ := fourF HS.out.dev.hd
    obtain ⟨e1, e2, e3, e4⟩ := HS.out.same
    obtain ⟨A2, cl, hvl, hcl, hln⟩ := HS.out.dev.lines
    rw [e1, HM.out] at hvl hcl
    rw [e1] at hln
    have HVL := Hidden.mk hvl
    rw [hvl] at c1
    have HE := Hidden.mk (And.intro e1 (And.intro e2 (And.intro e3 e4)))
    clear c0 c2 c3 e1 e2 e3 e4 hvl
    by_cases hlt : k < m
    · have k0 : (0 : Int) ≤ k := by omega
      have k1 : (k : Int) < m := by omega
      have s1 : IntKind.i64.wrap ((k : Int) + 1) = (k : Int) + 1 := IntWalk.i64_in _ (by omega)
      obtain ⟨o, ho⟩ : ∃ o, D.O[k]? = some o := ⟨D.O[k]'(by rw [HM.out]; exact hlt), List.getElem?_eq_getElem _⟩
      obtain ⟨gl, rfl, hFg, y0, y1⟩ := hln k o ho
      have hkl : k < D.O.length := by rw [HM.out]; exact hlt
      have htk : D.O.take (k + 1) = D.O.take k ++ [o] := by
        rw [List.take_succ_eq_append_getElem hkl]
        rw [List.getElem?_eq_getElem hkl] at ho
        rw [Option.some.inj ho]
      by_cases hoi : o = i
      · subst hoi
        have q1 : ((o : Int) == (o : Int)) = true := by simp
        have hnot : o ∉ D.O.take k := fun hin => by
          obtain ⟨j, hj, e⟩ := List.getElem_of_mem hin
          have hjk : j < k := by simp at hj; omega
          rw [List.getElem_take] at e
          rw [List.getElem?_eq_getElem hkl] at ho
          exact (List.pairwise_iff_getElem.1 HND.out) j k (by omega) hkl hjk (by rw [e]; exact (Option.some.inj ho).symm)
        obtain rfl := HS.out.no hnot
        have HHO := Hidden.mk ho
        have HD1 : Hidden (decide (o ∈ D'.O.take (k + 1)) = true) := ⟨decide_eq_true (by rw [htk]; simp)⟩
        unfold rowV at y1
        have hgl : ∃ cur, wr.heap[gl]? = some (.cells cur 61 (0, 0)) := by
          have hl := HS.out.dev.lin
          rw [HVL.out] at hl
          rcases hl.2 with ⟨e, _⟩ | ⟨g', cap', cur, e, _, hh, _⟩
          · cases e
          · injection e with e1
            injection e1 with e1
            injection e1 with e1
            subst e1
            exact ⟨cur, hh⟩
        have HGL := Hidden.mk hgl
        have KC1 := Hidden.mk c1
        have HY1 := Hidden.mk (And.intro y1 hFg)
        have hrdr : Rd wr.drew (some ⟨p, off, none⟩) b := (HS.out.kp.rd HRD.out.1 HRD.out.2).drewN 1
        have HCP := Hidden.mk (refCopied_ok p off 32 c b wr.drew hb (by omega) (by omega) hrdr)
        have hdg : d ≠ gl := by obtain ⟨cur, h0⟩ := hgl; exact DevIs.ne_cells HS.out.dev.hd h0 (by decide)
        clear ho hnot htk hkl hln y1 hgl hrdr
        go_wp2_with fail
        go_region_held3 (fun W => W.cell? ⟨d, 1, none⟩ = some (.slice (some ⟨gl, 0, none⟩) m cl)) (first | exact KC1.out | exact (hb9.cell (p := ⟨d, 1, none⟩) (block_lt_of_cell KC1.out)).trans KC1.out | exact hc10)
          (first
            | (go_at_call 71; refine HCP.out.mono ?_; rintro e w9 ⟨g9, cap9, rfl, hg9, hcp9, hrow9, hb9⟩; have x9 := (hb9.cell (p := ⟨gl, k * 2 + 1, none⟩) (block_lt_of_cell HY1.out.1)).trans HY1.out.1; have f9 : w9.frozen? ⟨gl, k * 2 + 1, none⟩ = false := (by obtain ⟨cur, h0⟩ := HGL.out; exact frozen_of_row w9 gl _ cur _ ((hb9.block gl (Array.getElem?_eq_some_iff.1 h0).1).trans h0)); have hc10 : (w9.setCell ⟨gl, k * 2 + 1, none⟩ (.slice (some ⟨g9, 0, none⟩) 32 cap9)).cell? ⟨d, 1, none⟩ = some (.slice (some ⟨gl, 0, none⟩) m cl) := ((World.cell?_of_block (w := w9) (a := ⟨d, 1, none⟩) (Below.heap_setCell w9 ⟨gl, k * 2 + 1, none⟩ _ d hdg)).trans ((hb9.cell (p := ⟨d, 1, none⟩) (block_lt_of_cell KC1.out)).trans KC1.out)))
            | go_simp)
        have hb9' : Below wr.heap.size wr w9 := ((Below.refl _ wr).drew).trans hb9
        have hN : RwSt w (w9.setCell ⟨gl, k * 2 + 1, none⟩ (rowV g9 cap9)) F d D' o b (k + 1) (fun q => F' q ∨ q = g9) (wrM D' o b) _ := ⟨(HS.out.dev.below hb9').setLine HHO.out (by rw [HVL.out, HM.out]) hrow9 hb, (HS.out.kp.trans (Keep.of_below (F := F) hb9') (fun _ h => .inl h)).setCell (p := ⟨gl, k * 2 + 1, none⟩) (HS.out.sub gl HY1.out.2) _, fun q hq => by
          rcases hq with hq | rfl
          · exact HS.out.sub q hq
          · have := HS.out.kp.size; have : wr.drew.heap.size = wr.heap.size := rfl; omega, fun _ => rfl, fun hn => absurd (of_decide_eq_true HD1.out) hn⟩
        have HN := Hidden.mk hN
        clear hN hb9' hb9 hrow9 hg9 hcp9 x9 f9 HCP HS hc10
        go_wp2_with fail
        go_roundg (m - (k + 1))
        case measure => omega
        case rel => exact ⟨k + 1, _, _, _, by omega, rfl, by rw [HD1.out], by go_num, HN⟩
      · have q1 : ((o : Int) == (i : Int)) = false := by simp; omega
        have HDE : Hidden (decide (i ∈ D.O.take k) = decide (i ∈ D.O.take (k + 1))) := ⟨decide_eq_decide.2 (by rw [htk, List.mem_append, List.mem_singleton]; exact ⟨.inl, fun h => h.elim id (fun e => absurd e.symm hoi)⟩)⟩
        have HN : Hidden (RwSt w wr F d D i b (k + 1) F' D' Y') := ⟨⟨HS.out.dev, HS.out.kp, HS.out.sub, fun hin => HS.out.yes (by rw [htk, List.mem_append, List.mem_singleton] at hin; exact hin.elim id (fun e => absurd e.symm hoi)), fun hin => HS.out.no (fun h => hin (by rw [htk]; exact List.mem_append.2 (.inl h)))⟩⟩
        generalize decide (i ∈ D.O.take k) = fo at *
        clear hoi ho htk hkl hln y1 HS
        go_wp2_with fail
        go_roundg (m - (k + 1))
        case measure => omega
        case rel => exact ⟨k + 1, F', D', Y', by omega, rfl, by rw [HDE.out], by go_num, HN⟩
    · obtain rfl : k = m := by omega
      have t4 : decide ((k : Int) < k) = false := by simp
      have htk : D.O.take k = D.O := List.take_of_length_le (by rw [HM.out]; exact Nat.le_refl _)
      have HTK := Hidden.mk htk
      rw [htk]
      clear hln htk
      by_cases hin : i ∈ D.O
      · have hD' := HS.out.yes (by rw [HTK.out]; exact hin)
        have HP : Hidden (putD D i b = D') := ⟨by rw [hD']; unfold putD wrM; rw [if_pos hin]⟩
        have HSP := Hidden.mk (rstep_any HS.out.dev (by rw [HE.out.2.2.2, HDN.out]))
        have HLF := Hidden.mk HE.out.2.2.1
        rw [decide_eq_true hin]
        have HK := Hidden.mk (And.intro HS.out.kp HS.out.sub)
        clear hD' hin HS HE
        go_wp2_with fail
        refine HSP.out.mono ?_
        rintro e w9 ⟨rfl, hd9, hk9, hs9⟩
        have HF : Hidden (RdIs w9 F' d (stepD D') Y' ∧ Keep F w w9 ∧ ∀ q, F' q → F q ∨ w.heap.size ≤ q) := ⟨hd9, HK.out.1.trans hk9 (fun q hq => HK.out.2 q hq), HK.out.2⟩
        rw [HP.out] at HR9 HR0
        clear hd9 hk9 hs9 HSP
        by_cases hl0 : D'.left = 0
        · have q0 : (D'.left == 0) = true := by simpa using hl0
          have HR := Hidden.mk (HR9.out (HLF.out ▸ hl0))
          rw [q0]
          clear hl0 q0
          go_wp2_with fail
          go_ret
          exact RwAns.mk HR.out rfl HF.out
        · have q0 : (D'.left == 0) = false := by simpa using hl0
          have HR := Hidden.mk (HR0.out (fun h => hl0 (HLF.out.trans h)))
          rw [q0]
          clear hl0 q0
          go_wp2_with fail
          go_ret
          exact RwAns.mk HR.out rfl HF.out
      · have hD' := HS.out.no (by rw [HTK.out]; exact hin)
        subst hD'
        rw [decide_eq_false hin]
        obtain ⟨i2, hi2, hx0, hx1, hx2⟩ := info_parts line_info
        have hrdr : Rd wr.drew (some ⟨p, off, none⟩) b := (HS.out.kp.rd HRD.out.1 HRD.out.2).drewN 1
        have HCP := Hidden.mk (fun (W : World) (hW : Below wr.drew.heap.size wr.drew W) => refCopied_ok p off 32 c b W hb (by omega) (by omega) (hrdr.below hW))
        have HL := Hidden.mk HS.out.dev.lin
        rw [HVL.out, HM.out] at HL
        have HDH := Hidden.mk HS.out.dev.hd
        rw [HVL.out] at HDH
        have HIN := Hidden.mk hin
        have hfd : wr.frozen? ⟨d, 1, none⟩ = false := frozen_of_row wr d 1 _ _ HDH.out
        clear hin hrdr HE
        obtain ⟨xs, hxs⟩ : ∃ xs, lnC D'.O Y'.mb Y'.mc = xs := ⟨_, rfl⟩
        rw [hxs] at HL
        have HXS := Hidden.mk hxs
        clear hxs
        go_upto_region 15 with (fail)
        go_region_law (first
          | (refine step_append_lies _ (by rfl) _ _ _ (by rfl) 0 61 i2 _ 2 32 Tryd.underlying57 hi2 hx0 hx1 hx2 rfl (by omega) (.slice A2 k cl) k xs (by rfl) (own_below HL.out (((Below.refl _ wr).drew.trans hb9).alloc (Nat.le_trans (Nat.le_refl _) hb9.size) _)) ⟨w9.heap.size, 0, none⟩ 1 1 [.int .i64 (i : Int), .slice (some ⟨g9, 0, none⟩) 32 cap9] (by rfl) (by rfl) (World.news_of_block (cs := #[.int .i64 (i : Int), .slice (some ⟨g9, 0, none⟩) 32 cap9]) (t := 61) (fr := (0, 0)) (heap_alloc_new w9 _)) (by simp [Value.oneCell']) (by omega) (by simp only [maxLen]; omega) (by omega) (Nat.zero_le _) (w9.heap.size + 1) (by simp) ?_; intro g7 cap7 w7 hown7 hg7 hat7 hlt7; have hgG := grown_trans' (a := wr) (show Below wr.heap.size wr _ from ((Below.refl _ wr).drew.trans hb9).alloc hb9.size (.cells #[.int .i64 (i : Int), .slice (some ⟨g9, 0, none⟩) 32 cap9] 61)) hg7; have hh7 := (hgG.block d (Array.getElem?_eq_some_iff.1 HDH.out).1 (fun e => DevIs.ne_own HDH.out HL.out (by decide) e.symm)).trans HDH.out; obtain ⟨⟨e0, e1, e2, e3⟩, fe⟩ := fourF hh7; have fe1 := fe 1)
          | (go_simp; go_at_call 71; refine (HCP.out _ (by exact Below.refl _ _)).mono ?_; rintro e w9 ⟨g9, cap9, rfl, hg9, hcp9, hrow9, hb9⟩; have hc9 := (hb9.cell (p := ⟨d, 1, none⟩) (block_lt_of_cell c1)).trans c1; have hc9a := (((Below.refl w9.heap.size w9).alloc (Nat.le_refl _) (.cells #[.int .i64 (i : Int), .slice (some ⟨g9, 0, none⟩) 32 cap9] 61)).cell (p := ⟨d, 1, none⟩) (block_lt_of_cell hc9)).trans hc9))
        all_goals
          have hal : Below w9.heap.size w9 (w9.alloc (.cells #[.int .i64 (i : Int), .slice (some ⟨g9, 0, none⟩) 32 cap9] 61)) := (Below.refl _ _).alloc (Nat.le_refl _) _
          have hs9 : wr.heap.size ≤ w9.heap.size := hb9.size
          have hg9' : wr.heap.size ≤ g9 := hg9
          have hne9 : (Value.slice A2 k cl).ownBlock ≠ some g9 := fun e => by have := (HL.out.lt _ e).2; omega
          have hr7 : Row w7 5 g9 cap9 b := by
            obtain ⟨cur, h0, h1⟩ := hrow9.below hal hrow9.lt
            exact ⟨cur, (hg7.block g9 (Array.getElem?_eq_some_iff.1 h0).1 (fun e => hne9 e.symm)).trans h0, h1⟩
          have hadd := HS.out.dev.added (w8 := w7) (v8 := .slice (some ⟨g7, 0, none⟩) (k + 1) cap7) HIN.out hi hr7 hb hg9' (by rw [HXS.out, HM.out]; exact hown7) (by rw [HVL.out]; exact hgG) (fun q hq => by
            rw [HVL.out]
            obtain rfl : g7 = q := by simpa [Value.ownBlock] using hq
            rcases hat7 with h' | h'
            · exact .inl h'
            · exact .inr (by omega))
          have HA := Hidden.mk hadd
          have HK := Hidden.mk (And.intro HS.out.kp HS.out.sub)
          clear hadd hr7 hne9 hal hown7 hg7 hat7 hlt7 hgG hh7 e0 e1 e2 e3 fe fe1 hrow9 hb9 hc9 hc9a hg9 hg9' HCP HS HL HDH
          have HSP := Hidden.mk (rstep_any HA.out.1 HDN.out)
          go_wp2_with fail
          refine HSP.out.mono ?_
          rintro e w8 ⟨rfl, hd8, hk8, hs8⟩
          have HF := Hidden.mk (And.intro hd8 (And.intro ((HK.out.1.trans HA.out.2 (fun q hq => HK.out.2 q hq)).trans hk8 (fun q hq => by
            rcases hq.1 with h | h
            · exact HK.out.2 q h
            · exact .inr (Nat.le_trans HK.out.1.size h))) (show ∀ q, growF F' wr w7 q → F q ∨ w.heap.size ≤ q from fun q hq => by
            rcases hq.1 with h | h
            · exact HK.out.2 q h
            · exact .inr (Nat.le_trans HK.out.1.size h))))
          clear hd8 hk8 hs8 HSP HA
          by_cases hl0 : D'.left = 0
          · have q0 : ((putD D' i b).left == 0) = true := by show (D'.left == 0) = true; simpa using hl0
            have HR := Hidden.mk (HR9.out hl0)
            rw [q0]
            clear hl0 q0
            go_wp2_with fail
            go_ret
            exact RwAns.mk HR.out rfl HF.out
          · have q0 : ((putD D' i b).left == 0) = false := by show (D'.left == 0) = false; simpa using hl0
            have HR := Hidden.mk (HR0.out hl0)
            rw [q0]
            clear hl0 q0
            go_wp2_with fail
            go_ret
            exact RwAns.mk HR.out rfl HF.out
end
end Go.Proofs.YtmhlnbbnanehiaaDoor
/- The reference's device: Flush. -/
namespace Go.Proofs.YtmhlnbbnanehiaaDoor
open Go.RowKit Go.Maps Go.ChangeMaps

section
variable {w w' : World} {F F' : Nat → Prop} {d : Nat} {D : Dv} {Y : RLay}
/-- a sector is another row -/
theorem RdIs.setS (h : RdIs w F d D Y) {o g c : Nat} {b : Bytes} (ho : o < D.S.length) (hr : Row w 5 g c b) (hb : b.length = 32) (hF : ∀ q, F q → F' q) (hg : F' g) (hl : ∀ q, F' q → q < w.heap.size) :
    RdIs (w.setCell ⟨Y.gs, o, none⟩ (rowV g c)) F' d { D with S := D.S.set o b } { Y with sb := setAt1 Y.sb o g, sc := setAt1 Y.sc o c } := by
  obtain ⟨cur, hcur, hcs, hcu⟩ := h.sec
  have hoth : ∀ q, q ≠ Y.gs → (w.setCell ⟨Y.gs, o, none⟩ (rowV g c)).heap[q]? = w.heap[q]? := fun q hq => Below.heap_setCell _ _ _ _ hq
  have hro : ∀ {q c' : Nat} {l : Bytes}, Row w 5 q c' l → Row (w.setCell ⟨Y.gs, o, none⟩ (rowV g c)) 5 q c' l := fun {q c' l} hr => hr.block (hoth q (DevIs.ne_row hcur hr (by decide)).symm)
  have hlen : (D.S.set o b).length = D.S.length := by simp
  refine { hd := ?_, sec := ?_, cap := by rw [hlen]; exact h.cap, row := fun i hi => ?_, lin := ?_, mrow := fun i hi => ?_, nd := h.nd, n0 := by rw [hlen]; exact h.n0, n1 := by rw [hlen]; exact h.n1, l0 := h.l0, l1 := h.l1, fd := hF _ h.fd, fs := hF _ h.fs, fo := fun q hq => hF _ (h.fo q hq), fr := fun i hi => ?_, fb := fun i hi => hF _ (h.fb i hi), flt := fun q hq => by simpa using hl q hq }
  · rw [hlen]; exact (hoth d (DevIs.ne_cells h.hd hcur (by decide))).trans h.hd
  · refine ⟨_, heap_setK hcur (rowV g c), by simpa using hcs, fun i hi => ?_⟩
    rw [hlen] at hi
    rw [Array.getElem?_setIfInBounds]
    show _ = some (rowV (setAt1 Y.sb o g i) (setAt1 Y.sc o c i))
    unfold setAt1
    by_cases hio : o = i
    · subst hio
      have : o < cur.size := by rw [hcs]; exact Nat.lt_of_lt_of_le ho h.cap
      simp [this]
    · rw [if_neg hio, if_neg (fun e => hio e.symm), if_neg (fun e => hio e.symm)]
      exact hcu i hi
  · rw [hlen] at hi
    show Row _ 5 (setAt1 Y.sb o g i) (setAt1 Y.sc o c i) ((D.S.set o b)[i]'_) ∧ _
    unfold setAt1
    by_cases hio : o = i
    · subst hio
      rw [if_pos rfl, if_pos rfl, List.getElem_set_self]
      exact ⟨hro hr, hb⟩
    · rw [if_neg (fun e => hio e.symm), if_neg (fun e => hio e.symm), List.getElem_set_ne hio]
      exact ⟨hro (h.row i hi).1, (h.row i hi).2⟩
  · exact ownsRow_block h.lin fun q hq => hoth q (fun e => DevIs.ne_own hcur h.lin (by decide) (by rw [hq, e]))
  · rw [hlen]
    exact ⟨hro (h.mrow i hi).1, (h.mrow i hi).2⟩
  · rw [hlen] at hi
    show F' (setAt1 Y.sb o g i)
    unfold setAt1
    by_cases hio : i = o
    · rw [if_pos hio]; exact hg
    · rw [if_neg hio]; exact hF _ (h.fr i hi)
theorem RdIs.noLines (h : RdIs w F d D Y) : RdIs (w.setCell ⟨d, 1, none⟩ (.slice none 0 0)) F d { D with O := [] } { Y with vl := .slice none 0 0 } := by
  have hoth : ∀ q, q ≠ d → (w.setCell ⟨d, 1, none⟩ (.slice none 0 0)).heap[q]? = w.heap[q]? := fun q hq => Below.heap_setCell _ _ _ _ hq
  refine { hd := ?_, sec := ?_, cap := h.cap, row := fun i hi => ⟨(h.row i hi).1.block (hoth _ (DevIs.ne_row h.hd (h.row i hi).1 (by decide)).symm), (h.row i hi).2⟩, lin := World.ownsRow_nil _ _ _ _, mrow := (fun i hi => by cases hi), nd := List.nodup_nil, n0 := h.n0, n1 := h.n1, l0 := h.l0, l1 := h.l1, fd := h.fd, fs := h.fs, fo := (fun q hq => by simp [Value.ownBlock] at hq), fr := h.fr, fb := (fun i hi => by cases hi), flt := fun q hq => by simpa using h.flt q hq }
  · rw [heap_set5 h.hd]; rfl
  · obtain ⟨cur, h0, h1⟩ := h.sec
    exact ⟨cur, (hoth _ (DevIs.ne_cells h.hd h0 (by decide)).symm).trans h0, h1⟩
end
/-- so many sectors are flushed -/
def flS (D : Dv) : Nat → List Bytes
  | 0 => D.S
  | k + 1 => (flS D k).set (D.O.getD k 0) (D.M (D.O.getD k 0))
theorem flS_len (D : Dv) : ∀ k, (flS D k).length = D.S.length
  | 0 => rfl
  | k + 1 => by simp [flS, flS_len D k]
theorem flS_at (D : Dv) (i : Nat) (hi : i < D.S.length) : ∀ k, k ≤ D.O.length → (flS D k)[i]? = if i ∈ D.O.take k then some (D.M i) else D.S[i]?
  | 0, _ => by simp [flS]
  | k + 1, hk => by
    have hkl : k < D.O.length := by omega
    have ih := flS_at D i hi k (by omega)
    have hg : D.O.getD k 0 = D.O[k] := by rw [List.getD_eq_getElem?_getD, List.getElem?_eq_getElem hkl]; rfl
    rw [flS, hg, List.getElem?_set, flS_len, List.take_succ_eq_append_getElem hkl]
    by_cases hoi : D.O[k] = i
    · rw [if_pos hoi, if_pos (by rw [hoi]; exact hi), if_pos (List.mem_append.2 (.inr (by simp [hoi]))), hoi]
    · rw [if_neg hoi, ih]
      by_cases hin : i ∈ D.O.take k
      · rw [if_pos hin, if_pos (List.mem_append.2 (.inl hin))]
      · rw [if_neg hin, if_neg (fun h => (List.mem_append.1 h).elim hin (fun h => hoi (List.mem_singleton.1 h).symm))]
theorem flS_all (D : Dv) : flushD D = { { D with S := flS D D.O.length } with O := [] } := by
  unfold flushD
  have : (List.range D.S.length).map (readD D) = flS D D.O.length := by
    apply List.ext_getElem?
    intro i
    by_cases hi : i < D.S.length
    · rw [flS_at D i hi D.O.length (Nat.le_refl _), List.take_length, List.getElem?_map, List.getElem?_range hi]
      show some (readD D i) = _
      unfold readD
      by_cases ho : i ∈ D.O
      · rw [if_pos ho, if_pos ho]
      · rw [if_neg ho, if_neg ho, List.getD_eq_getElem?_getD, List.getElem?_eq_getElem hi]; rfl
    · rw [List.getElem?_eq_none (by simp; omega), List.getElem?_eq_none (by rw [flS_len]; omega)]
  rw [this]
section
variable {w : World} {F : Nat → Prop} {d : Nat} {D : Dv} {Y : RLay}
structure FlSt (w wr : World) (F : Nat → Prop) (d : Nat) (D : Dv) (k : Nat) (Y' : RLay) : Prop where
  dev : RdIs wr F d { D with S := flS D k } Y'
  kp : Keep F w wr
set_option maxRecDepth 100000 in
theorem rflush_any (h : RdIs w F d D Y) :
    Calls Tryd.prog 26 #[.pointer (some ⟨d, 0, none⟩)] w (RwAns w F d (flD D)) := by
  obtain ⟨⟨c0, c1, c2, c3⟩, ff⟩ := fourF h.hd
  cases hdn : D.down with
  | true =>
    have e : flD D = (D, 9) := by unfold flD; rw [if_pos hdn]
    rw [e]
    rw [hdn] at c3
    have HH := Hidden.mk h
    clear h ff e hdn
    go_enter Tryd.func26, Tryd.ntmps26
    go_wp2_with fail
    go_ret
    exact RwAns.mk rfl rfl ⟨HH.out, Keep.refl _ _, fun _ hq => .inl hq⟩
  | false =>
    rw [hdn] at c3
    have HS := Hidden.mk (rstep_any h hdn)
    by_cases hl : D.left = 0
    · have e : flD D = (stepD D, 9) := by unfold flD; rw [if_neg (by rw [hdn]; decide), if_pos hl]
      rw [e]
      have q0 : (D.left == 0) = true := by simpa using hl
      rw [q0] at HS
      clear h ff e hdn hl q0
      go_enter Tryd.func26, Tryd.ntmps26
      go_wp2_with fail
      refine HS.out.mono ?_
      rintro e w1 ⟨rfl, hd1, hk1, hs1⟩
      have HF := Hidden.mk (And.intro hd1 hk1)
      clear hd1 hk1 hs1 HS
      go_wp2_with fail
      go_ret
      exact RwAns.mk rfl rfl ⟨HF.out.1, HF.out.2, fun _ hq => .inl hq⟩
    · have e : flD D = (flushD (stepD D), 0) := by unfold flD; rw [if_neg (by rw [hdn]; decide), if_neg hl]
      rw [e]
      have q0 : (D.left == 0) = false := by simpa using hl
      rw [q0] at HS
      clear h ff e hdn hl q0
      have HFS := Hidden.mk (flS_all (stepD D))
      rw [HFS.out]
      generalize stepD D = D1 at *
      clear HFS
      go_enter Tryd.func26, Tryd.ntmps26
      go_wp2_with fail
      refine HS.out.mono ?_
      rintro e w1 ⟨rfl, hd1, hk1, hs1⟩
      have HST : Hidden (FlSt w w1 F d D1 0 Y) := ⟨⟨hd1, hk1⟩⟩
      obtain ⟨m, hm⟩ : ∃ m, D1.O.length = m := ⟨_, rfl⟩
      have hm3 := hd1.ord_le
      rw [hm] at hm3
      rw [hm]
      have HM := Hidden.mk hm
      have HO := Hidden.mk (show ∀ o ∈ D1.O, o < D1.S.length from fun o ho => (hd1.mrow o ho).2.2)
      have hn1 := hd1.n1
      clear hd1 hk1 hs1 HS hm c0 c1 c2 c3
      go_wp2_with fail
      go_loopg [4] m (fun r kv wr => ∃ (k : Nat) (Y' : RLay), k ≤ m ∧ r = m - k ∧ kv = .int .i64 (k : Int) ∧ Hidden (FlSt w wr F d D1 k Y'))
      case atStart => exact ⟨0, Y, by omega, rfl, rfl, HST⟩
      case round =>
        obtain ⟨k, Y', hk, rfl, rfl, hs⟩ := hrel
        have HX := Hidden.mk hs.out
        clear hs HST
        obtain ⟨⟨c0, c1, c2, c3⟩, ff⟩ := fourF HX.out.dev.hd
        obtain ⟨A2, cl, hvl, hcl, hln⟩ := HX.out.dev.lines
        obtain ⟨cur, hcur, hcs, hcu⟩ := HX.out.dev.sec
        rw [show ({ D1 with S := flS D1 k } : Dv).O = D1.O from rfl] at hvl hcl hln
        rw [HM.out] at hvl hcl
        rw [hvl] at c1
        rw [show ({ D1 with S := flS D1 k } : Dv).S = flS D1 k from rfl] at c0 hcu
        rw [flS_len] at c0 hcu
        clear c2 c3 hvl
        by_cases hlt : k < m
        · have k0 : (0 : Int) ≤ k := by omega
          have k1 : (k : Int) < m := by omega
          have s1 : IntKind.i64.wrap ((k : Int) + 1) = (k : Int) + 1 := IntWalk.i64_in _ (by omega)
          obtain ⟨o, ho⟩ : ∃ o, D1.O[k]? = some o := ⟨D1.O[k]'(by rw [HM.out]; exact hlt), List.getElem?_eq_getElem _⟩
          obtain ⟨gl, rfl, hFg, y0, y1⟩ := hln k o ho
          have hol := HO.out o (List.mem_of_getElem? ho)
          have o0 : (0 : Int) ≤ o := by omega
          have o1 : (o : Int) < D1.S.length := by omega
          have z0 : wr.drew.cell? ⟨Y'.gs, o, none⟩ = some (rowV (Y'.sb o) (Y'.sc o)) := by rw [show wr.drew.cell? ⟨Y'.gs, o, none⟩ = wr.cell? ⟨Y'.gs, o, none⟩ from rfl, cell_of_row wr Y'.gs o cur _ _ hcur]; exact hcu o hol
          have z1 : wr.drew.frozen? ⟨Y'.gs, o, none⟩ = false := frozen_of_row wr Y'.gs o cur _ hcur
          have hmr := HX.out.dev.mrow o (List.mem_of_getElem? ho)
          have hset := (HX.out.dev.below ((Below.refl _ wr).drew)).setS (F' := F) (o := o) (by show o < (flS D1 k).length; rw [flS_len]; exact hol) hmr.1 hmr.2.1 (fun _ h => h) (HX.out.dev.fb o (List.mem_of_getElem? ho)) HX.out.dev.flt
          have hgo : D1.O.getD k 0 = o := by rw [List.getD_eq_getElem?_getD, ho]; rfl
          have hnx : ({ ({ D1 with S := flS D1 k } : Dv) with S := (flS D1 k).set o (D1.M o) } : Dv) = { D1 with S := flS D1 (k + 1) } := by rw [flS, hgo]
          rw [hnx] at hset
          have HN : Hidden (∃ Y'', FlSt w (wr.drew.setCell ⟨Y'.gs, o, none⟩ (rowV (Y'.mb o) (Y'.mc o))) F d D1 (k + 1) Y'') := ⟨⟨_, ⟨hset, (HX.out.kp.drewN 1).setCell (.inl HX.out.dev.fs) _⟩⟩⟩
          unfold rowV at y1 z0 HN
          clear hln hcl hcur hcs hcu ff ho hol hmr hset hgo hnx HX
          go_upto_region 9 with (fail)
          go_still_tail 21, (by kernel_rfl)
          change wpList _ _ _ _ _ wr.drew
          clear c0 c1 y0 y1
          generalize wr.drew = wd at *
          go_wp2_with fail
          go_roundg (m - (k + 1))
          case measure => omega
          case rel =>
            obtain ⟨Y'', h⟩ := HN.out
            exact ⟨k + 1, Y'', by omega, rfl, by go_num, ⟨h⟩⟩
        · obtain rfl : k = m := by omega
          have t4 : decide ((k : Int) < k) = false := by simp
          have f1 := ff 1
          have hno := HX.out.dev.noLines
          have HF := Hidden.mk (And.intro hno (HX.out.kp.setCell (p := ⟨d, 1, none⟩) (.inl HX.out.dev.fd) (.slice none 0 0)))
          clear hln hcl hcur hcs hcu ff hno HX
          go_wp2_with fail
          go_ret
          exact RwAns.mk (by rw [HM.out]) rfl ⟨HF.out.1, HF.out.2, fun _ hq => .inl hq⟩
end
end Go.Proofs.YtmhlnbbnanehiaaDoor
/- The reference's device: NewDevice. -/
namespace Go.Proofs.YtmhlnbbnanehiaaDoor
open Go.RowKit Go.Maps Go.ChangeMaps

structure RnSt (w wr : World) (d k : Nat) (v : Value) (sb : Nat → Nat) : Prop where
  hd : wr.heap[d]? = some (.cells #[v, .slice none 0 0, .int .i64 (-1), .bool false] 59 (0, 0))
  own : wr.ownsRow w.heap.size 22 1 v k ((List.range k).map fun i => rowV (sb i) 32)
  row : ∀ i, i < k → w.heap.size ≤ sb i ∧ Row wr 5 (sb i) 32 (List.replicate 32 0)
  bel : Below w.heap.size w wr
  gd : w.heap.size ≤ d
theorem RnSt.dev {w wr : World} {d n : Nat} {v : Value} {sb : Nat → Nat} (h : RnSt w wr d n v sb) (h1 : 1 ≤ n) (h3 : n ≤ 300) :
    ∃ F Y, RdIs wr F d (newD n) Y ∧ ∀ k, F k → w.heap.size ≤ k := by
  obtain ⟨g, cap, cur, hv, hg, hgh, hnc, hcm, hcs, hct⟩ : ∃ g cap cur, v = .slice (some ⟨g, 0, none⟩) n cap ∧ w.heap.size ≤ g ∧ wr.heap[g]? = some (.cells cur 22 (0, 0)) ∧ n ≤ cap ∧ cap ≤ maxLen ∧ cur.size = cap * 1 ∧ cur.toList.take (n * 1) = (List.range n).map fun i => rowV (sb i) 32 := by
    rcases h.own.2 with ⟨_, h0⟩ | h'
    · omega
    · exact h'
  subst hv
  have hlen : (newD n).S.length = n := by simp [newD]
  refine ⟨fun k => w.heap.size ≤ k ∧ k < wr.heap.size, ⟨g, cap, .slice none 0 0, sb, fun _ => 32, fun _ => 0, fun _ => 0⟩, ?_, fun k hk => hk.1⟩
  refine { hd := by rw [hlen]; exact h.hd, sec := ⟨cur, hgh, by simpa using hcs, fun i hi => ?_⟩, cap := by rw [hlen]; exact hnc, row := fun i hi => ?_, lin := World.ownsRow_nil _ _ _ _, mrow := fun i hi => by simp [newD] at hi, nd := List.nodup_nil, n0 := by rw [hlen]; exact h1, n1 := by rw [hlen]; exact h3, l0 := by simp [newD], l1 := by simp [newD], fd := ⟨h.gd, (Array.getElem?_eq_some_iff.1 h.hd).1⟩, fs := ⟨hg, (Array.getElem?_eq_some_iff.1 hgh).1⟩, fo := fun q hq => by simp [Value.ownBlock] at hq, fr := fun i hi => ?_, fb := fun i hi => by simp [newD] at hi, flt := fun q hq => hq.2 }
  · rw [hlen] at hi
    have : (cur.toList.take (n * 1))[i]? = some (rowV (sb i) 32) := by rw [hct]; simp [hi]
    rw [List.getElem?_take, if_pos (by omega)] at this
    simpa using this
  · rw [hlen] at hi
    have : (newD n).S[i] = List.replicate 32 0 := by simp [newD]
    rw [this]
    exact ⟨(h.row i hi).2, by simp⟩
  · rw [hlen] at hi
    exact ⟨(h.row i hi).1, (h.row i hi).2.lt⟩
theorem RnSt.next {w wr w6 w7 : World} {d k g7 cap7 : Nat} {v : Value} {sb : Nat → Nat} (h : RnSt w wr d k v sb) (hrz : Row w6 5 wr.heap.size 32 (List.replicate 32 0)) (hg6 : w6.drew.grownBy w7 v.ownBlock)
    (hown7 : w7.ownsRow w.heap.size 22 1 (.slice (some ⟨g7, 0, none⟩) (k + 1) cap7) (k + 1) (((List.range k).map fun i => rowV (sb i) 32) ++ [.slice (some ⟨wr.heap.size, 0, none⟩) 32 32])) (hgG : wr.grownBy w7 v.ownBlock) (hat : v.ownBlock = some g7 ∨ g7 = wr.heap.size + 2) :
    RnSt w (w7.setCell ⟨d, 0, none⟩ (.slice (some ⟨g7, 0, none⟩) (k + 1) cap7)) d (k + 1) (.slice (some ⟨g7, 0, none⟩) (k + 1) cap7) (fun i => if i = k then wr.heap.size else sb i) := by
  have hdl := (Array.getElem?_eq_some_iff.1 h.hd).1
  have hno := DevIs.ne_own h.hd h.own (by decide)
  have hh7 := (hgG.block d hdl (fun e => hno e.symm)).trans h.hd
  have hgd : g7 ≠ d := by
    rcases hat with h' | h'
    · exact fun e => hno (e ▸ h')
    · omega
  have hb : ∀ q, q < wr.heap.size → q ≠ d → v.ownBlock ≠ some q → (w7.setCell ⟨d, 0, none⟩ (.slice (some ⟨g7, 0, none⟩) (k + 1) cap7)).heap[q]? = wr.heap[q]? := fun q hq hqd hqv =>
    (Below.heap_setCell _ _ _ q hqd).trans (hgG.block q hq (fun e => hqv e.symm))
  have hrow : ∀ {q : Nat} {l : Bytes}, Row wr 5 q 32 l → Row (w7.setCell ⟨d, 0, none⟩ (.slice (some ⟨g7, 0, none⟩) (k + 1) cap7)) 5 q 32 l := fun {q l} hr => by
    obtain ⟨cur, h0, _⟩ := id hr
    exact hr.block (hb q hr.lt (DevIs.ne_row h.hd hr (by decide)).symm (DevIs.ne_own h0 h.own (by decide)))
  refine ⟨heap_set5 hh7 _, ?_, fun i hi => ?_, ?_, h.gd⟩
  · have := ownsRow_block (w' := w7.setCell ⟨d, 0, none⟩ (.slice (some ⟨g7, 0, none⟩) (k + 1) cap7)) hown7 (fun q hq => Below.heap_setCell _ _ _ _ (by
      have : g7 = q := by simpa [Value.ownBlock] using hq
      rw [← this]; exact hgd))
    have hl : (List.range (k + 1)).map (fun i => rowV (if i = k then wr.heap.size else sb i) 32) = ((List.range k).map fun i => rowV (sb i) 32) ++ [.slice (some ⟨wr.heap.size, 0, none⟩) 32 32] := by
      rw [List.range_succ, List.map_append]
      congr 1
      · apply List.map_congr_left
        intro i hi
        have : i ≠ k := by have := List.mem_range.1 hi; omega
        rw [if_neg this]
      · simp [rowV]
    rw [hl]
    exact this
  · by_cases hik : i = k
    · simp only [hik, if_true]
      refine ⟨h.bel.size, hrz.block ((Below.heap_setCell _ _ _ _ (show wr.heap.size ≠ d by omega)).trans (hg6.block _ hrz.lt (fun e => ?_)))⟩
      have := (h.own.lt _ e.symm).2
      omega
    · simp only [if_neg hik]
      exact ⟨(h.row i (by omega)).1, hrow (h.row i (by omega)).2⟩
  · exact (h.bel.grown hgG h.bel.size (fun q hq => (h.own.lt q hq).1)).setCell (p := ⟨d, 0, none⟩) h.gd _
set_option maxRecDepth 100000 in
theorem rnew_ok (n : Nat) (w : World) (h1 : 1 ≤ n) (h3 : n ≤ 300) :
    Calls Tryd.prog 22 #[.int .i64 (n : Int)] w fun e w' => ∃ d F Y, e = .returned (.pointer (some ⟨d, 0, none⟩)) ∧ RdIs w' F d (newD n) Y ∧ (∀ k, F k → w.heap.size ≤ k) ∧ Below w.heap.size w w' := by
  obtain ⟨i2, hi2, hx0, hx1, hx2⟩ := info_parts list_info
  have hB0 := (Below.refl w.heap.size w).alloc (Nat.le_refl _) (.cells #[.slice none 0 0, .slice none 0 0, .int .i64 (-1), .bool false] 59)
  have hst0 : RnSt w (w.alloc (.cells #[.slice none 0 0, .slice none 0 0, .int .i64 (-1), .bool false] 59)) w.heap.size 0 (.slice none 0 0) (fun _ => 0) :=
    ⟨heap_alloc_new w _, World.ownsRow_nil _ _ _ _, fun i hi => by omega, hB0, Nat.le_refl _⟩
  have H0 := Hidden.mk hst0
  clear hst0 hB0
  go_enter Tryd.func22, Tryd.ntmps22
  go_wp2_with fail
  generalize hdd : w.heap.size = d at *
  generalize w.alloc (.cells #[.slice none 0 0, .slice none 0 0, .int .i64 (-1), .bool false] 59) = w2 at *
  have HDD := Hidden.mk hdd
  clear hdd
  go_loopg [4] n (fun m i wr => ∃ (k : Nat) (v : Value) (sb : Nat → Nat), k ≤ n ∧ m = n - k ∧ i = .int .i64 (k : Int) ∧ RnSt w wr d k v sb)
  case atStart => exact ⟨0, _, _, by omega, rfl, rfl, H0.out⟩
  case round =>
    obtain ⟨k, v, sb, hk, rfl, rfl, hst⟩ := hrel
    by_cases hlt : k < n
    · obtain ⟨⟨c0, c1, c2, c3⟩, ff⟩ := fourF hst.hd
      have f0 := ff 0
      have hdl := (Array.getElem?_eq_some_iff.1 hst.hd).1
      have hmk := fun W => mk_bytes 32 32 rfl (by omega) W
      have HS := Hidden.mk hst
      have HOWN := Hidden.mk hst.own
      have s1 : IntKind.i64.wrap ((k : Int) + 1) = (k : Int) + 1 := IntWalk.i64_in _ (by omega)
      clear hst ff H0
      go_wp2_with fail
      have hal : Below wr.heap.size wr ((wr.alloc (.cells (zeroRow 32) 5)).alloc (.cells #[.slice (some ⟨wr.heap.size, 0, none⟩) 32 32] 22)) := ((Below.refl _ _).alloc (Nat.le_refl _) _).alloc (by simp) _
      have hnb : ((wr.alloc (.cells (zeroRow 32) 5)).alloc (.cells #[.slice (some ⟨wr.heap.size, 0, none⟩) 32 32] 22)).drew.heap[wr.heap.size + 1]? = some (.cells #[.slice (some ⟨wr.heap.size, 0, none⟩) 32 32] 22) := by
        have := heap_alloc_new (wr.alloc (.cells (zeroRow 32) 5)) (.cells #[.slice (some ⟨wr.heap.size, 0, none⟩) 32 32] 22)
        rwa [World.size_alloc] at this
      have hrz : Row ((wr.alloc (.cells (zeroRow 32) 5)).alloc (.cells #[.slice (some ⟨wr.heap.size, 0, none⟩) 32 32] 22)) 5 wr.heap.size 32 (List.replicate 32 0) := (row_zeros wr 32 (by simp [maxLen])).block (Below.heap_alloc _ _ _ (by simp))
      have HAL := Hidden.mk hal
      have HNB := Hidden.mk hnb
      have HRZ := Hidden.mk hrz
      clear hal hnb hrz
      go_region_law (refine step_append_lies _ (by rfl) _ _ _ (by rfl) w.heap.size 22 i2 _ 1 24 Tryd.underlying43 hi2 hx0 hx1 hx2 rfl (by omega) v k _ (by rfl) (own_below HOWN.out HAL.out.drew) ⟨wr.heap.size + 1, 0, none⟩ 1 1 [.slice (some ⟨wr.heap.size, 0, none⟩) 32 32] (by rfl) (by rfl) (World.news_of_block (cs := #[.slice (some ⟨wr.heap.size, 0, none⟩) 32 32]) (t := 22) (fr := (0, 0)) HNB.out) (by simp [Value.oneCell']) (by omega) (by simp only [maxLen]; omega) (by omega) (by have := HS.out.bel.size; simp; omega) (wr.heap.size + 2) (by simp) ?_; intro g7 cap7 w7 hown7 hg7 hat7 hlt7; have hgG := grown_trans' HAL.out.drew hg7; have hh7 := (hgG.block d hdl (fun e => DevIs.ne_own HS.out.hd HOWN.out (by decide) e.symm)).trans HS.out.hd; obtain ⟨⟨e0, e1, e2, e3⟩, fe⟩ := fourF hh7; have fe0 := fe 0)
      all_goals
        have HNX := Hidden.mk (HS.out.next HRZ.out hg7 hown7 hgG hat7)
        clear hown7 hg7 hat7 hlt7 hgG hh7 e0 e1 e2 e3 fe fe0
        go_wp2_with fail
        go_roundg (n - (k + 1))
        case measure => omega
        case rel => exact ⟨k + 1, _, _, by omega, rfl, by go_num, HNX.out⟩
    · obtain rfl : k = n := by omega
      have t4 : decide ((k : Int) < k) = false := by simp
      obtain ⟨F, Y, hdev, hF⟩ := hst.dev h1 h3
      have HB := Hidden.mk hst.bel
      have H := Hidden.mk (And.intro hdev hF)
      clear hst hdev hF H0
      go_wp2_with fail
      go_ret
      exact ⟨d, F, Y, rfl, H.out.1, H.out.2, HB.out⟩
end Go.Proofs.YtmhlnbbnanehiaaDoor
