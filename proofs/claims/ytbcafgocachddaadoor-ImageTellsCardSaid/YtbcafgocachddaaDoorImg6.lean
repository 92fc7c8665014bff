/- The contract of image.Drop; what puts leave of an image, in plain words. -/
import Derived.Test.YtbcafgocachddaaDoorImg5
namespace Go.Proofs.YtbcafgocachddaaDoor
open Go.RowKit

set_option maxRecDepth 100000 in
theorem idrop_ok (A : Option Addr) (n c : Nat) (l : Bytes) (k : Nat) (w : World) (hn : l.length = n) (hr : rightB n = true) (hnc : n ≤ c) (hrd : Rd w A l) (hk : k < 40) (hE : hasE (rawE l k) = true) :
    Calls Tryd.prog 26 #[.slice A n c, .int .i64 ((k : Int) + 1)] w fun e w' => ∃ g cap, e = .returned (.tuple #[.slice (some ⟨g, 0, none⟩) n cap, .nilIface]) ∧ w.heap.size ≤ g ∧ Row w' 5 g cap (splice l (5 * k) (List.replicate 5 0)) ∧ Below w.heap.size w w' := by
  have hnb := rightB_true.1 hr
  have HG := Hidden.mk ((iget_ok A n c l k w hn hr hnc hrd hk).mono fun _ _ h => (⟨h.1 hE, h.2.2⟩ : _ ∧ _))
  unfold entR entV at HG
  generalize (rAt (rawE l k) : Int) = a1 at *
  generalize (rLen (rawE l k) : Int) = a2 at *
  generalize rTag (rawE l k) = a3 at *
  clear hE
  obtain ⟨p, off, rfl, hpl⟩ := hrd.lt (by omega)
  go_enter Tryd.func26, Tryd.ntmps26
  go_wp2_with fail
  refine HG.out.mono ?_
  rintro e w1 ⟨rfl, hb1⟩
  have hB2 : Below w.heap.size w (w1.alloc (.cells #[.int .i64 ((k : Int) + 1), .int .i64 a1, .int .i64 a2, .int .i64 a3] 26)) := hb1.alloc hb1.size _
  clear hb1
  go_wp2_with fail
  generalize w1.alloc (.cells #[.int .i64 ((k : Int) + 1), .int .i64 a1, .int .i64 a2, .int .i64 a3] 26) = w2 at *
  refine (clone_some _ n c l _ hn (by omega) (hrd.below hB2)).mono ?_
  rintro e w3 ⟨g, cap, rfl, hg, hrow, hb3⟩
  have hB3 := hB2.trans (hb3.mono hB2.size)
  have hgw : w.heap.size ≤ g := Nat.le_trans hB2.size hg
  have hlc := hrow.le.1
  clear hg hb3 hB2
  go_wp2_with fail
  refine (raw_any (some ⟨g, 0, none⟩) n cap ((k : Int) + 1) _ (by omega) (by omega) (by omega) (by omega)).mono ?_
  rintro e w4 ⟨rfl, rfl⟩
  rw [entO_k]
  simp only [Option.map_some, Addr.add_lit, Nat.zero_add]
  obtain ⟨cur, hcur, _, _, hcs, _⟩ := id hrow
  have hclear := fun c' ty => run_clear_row w3 g (5 * k) 5 c' cur _ hcur (by omega) (by omega) ty
  have hrow5 := hrow.set_ (5 * k) (List.replicate 5 0) (by simp; omega) cur hcur
  have hB5 : Below w.heap.size w (w3.setRow g (setB cur (5 * k) ((List.replicate 5 (0 : UInt8)).map bv))) := below_setRow hB3 hgw _
  have H5 := Hidden.mk (And.intro hrow5 hB5)
  clear hrow hrow5 hB5 hB3 hcur hcs hlc
  generalize w3.setRow g (setB cur (5 * k) ((List.replicate 5 (0 : UInt8)).map bv)) = w5 at *
  go_wp2_with (simp only [hclear])
  go_ret2
  exact ⟨g, cap, rfl, hgw, H5.out.1, H5.out.2⟩
theorem splice_get_ (l x : Bytes) (o p : Nat) (h : o + x.length ≤ l.length) : (splice l o x)[p]? = if o ≤ p ∧ p < o + x.length then x[p - o]? else l[p]? := splice_at l x o p h
theorem rawE_splice (l x : Bytes) (k j : Nat) (hx : x.length = 5) (hk : k < 40) (_hj : j < 40) (hl : 200 ≤ l.length) : rawE (splice l (5 * k) x) j = if j = k then x else rawE l j := by
  apply List.ext_getElem?
  intro q
  unfold rawE
  rw [List.getElem?_take, List.getElem?_drop, splice_at _ _ _ _ (by omega)]
  by_cases hq : q < 5
  · rw [if_pos hq]
    by_cases hjk : j = k
    · subst hjk
      rw [if_pos (by omega), if_pos rfl]
      congr 1; omega
    · rw [if_neg (by omega), if_neg hjk, List.getElem?_take, if_pos hq, List.getElem?_drop]
  · rw [if_neg hq]
    by_cases hjk : j = k
    · rw [if_pos hjk, List.getElem?_eq_none (by omega)]
    · rw [if_neg hjk, List.getElem?_take, if_neg hq]
theorem rawR_splice (l x : Bytes) (i j : Nat) (hx : x.length = 11) (hi : i < 8) (_hj : j < 8) (hl : 288 ≤ l.length) : rawR (splice l (200 + 11 * i) x) j = if j = i then x else rawR l j := by
  apply List.ext_getElem?
  intro q
  unfold rawR
  rw [List.getElem?_take, List.getElem?_drop, splice_at _ _ _ _ (by omega)]
  by_cases hq : q < 11
  · rw [if_pos hq]
    by_cases hji : j = i
    · subst hji
      rw [if_pos (by omega), if_pos rfl]
      congr 1; omega
    · rw [if_neg (by omega), if_neg hji, List.getElem?_take, if_pos hq, List.getElem?_drop]
  · rw [if_neg hq]
    by_cases hji : j = i
    · rw [if_pos hji, List.getElem?_eq_none (by omega)]
    · rw [if_neg hji, List.getElem?_take, if_neg hq]
theorem rawR_head (l x : Bytes) (o j : Nat) (hx : o + x.length ≤ 200) (hl : 200 ≤ l.length) : rawR (splice l o x) j = rawR l j := by
  apply List.ext_getElem?
  intro q
  unfold rawR
  rw [List.getElem?_take, List.getElem?_drop, List.getElem?_take, List.getElem?_drop]
  by_cases hq : q < 11
  · rw [if_pos hq, if_pos hq, splice_at _ _ _ _ (by omega), if_neg (by omega)]
  · rw [if_neg hq, if_neg hq]
theorem ofB_two (n : Nat) (h : n < 65536) : ofB (numB n 2) = n := by
  have h1 := ofNat_mod n
  have h2 := ofNat_mod (n / 256)
  simp only [numB, ofB, h1, h2]
  omega
theorem entB_rd (a b t : Nat) (ha : a < 65536) (hb : b < 65536) (ht : t ≤ 15) : hasE (entB a b t) = true ∧ rAt (entB a b t) = a ∧ rLen (entB a b t) = b ∧ rTag (entB a b t) = t := by
  have hd : (UInt8.ofNat (t + 1)).toNat = t + 1 := by rw [UInt8.toNat_ofNat', Nat.mod_eq_of_lt (by omega)]
  have h2 : (numB a 2).length = 2 := numB_length a 2
  have h3 : (numB b 2).length = 2 := numB_length b 2
  refine ⟨?_, ?_, ?_, ?_⟩
  · unfold hasE rHd entB
    simp only [List.headD_cons]
    rw [bne_iff_ne]
    intro e
    rw [e] at hd
    simp at hd
  · unfold rAt entB
    rw [List.drop_one, List.tail_cons, List.take_append_of_le_length (by omega), List.take_of_length_le (by omega), ofB_two a ha]
  · unfold rLen entB
    rw [List.drop_succ_cons, List.drop_append, List.drop_of_length_le (by omega), h2, List.nil_append, List.drop_zero, List.take_of_length_le (by omega), ofB_two b hb]
  · unfold rTag rHd entB
    simp only [List.headD_cons]
    omega
/-- an image in which the roots from i on are none -/
def NoRoots (l : Bytes) (i : Nat) : Prop := ∀ j, i ≤ j → j < 8 → rawR l j = List.replicate 11 0
theorem rootsF_zeros (S : Nat → Bytes) (i : Nat) (h : ∀ j, i ≤ j → j < 8 → S j = List.replicate 11 0) : ∀ m, i ≤ m → m ≤ 8 → rootsF S m = rootsF S i
  | 0, h0, _ => by rw [show i = 0 by omega]
  | m + 1, h0, h8 => by
    by_cases hm : i = m + 1
    · rw [hm]
    · rw [rootsF_succ, h m (by omega) (by omega), zeros_zero, rootsF_zeros S i h m (by omega) (by omega)]
      simp
theorem rootsF_congr (S S' : Nat → Bytes) : ∀ m, (∀ j, j < m → S j = S' j) → rootsF S m = rootsF S' m
  | 0, _ => rfl
  | m + 1, h => by rw [rootsF_succ, rootsF_succ, h m (by omega), rootsF_congr S S' m (fun j hj => h j (by omega))]
theorem roots_put (l X : Bytes) (i : Nat) (hX : X.length = 11) (hi : i < 8) (hl : 288 ≤ l.length) (hz : NoRoots l i) :
    rootsL (splice l (200 + 11 * i) X) = rootsL l ++ (if zeroE X = true then [] else [rootP X]) ∧ NoRoots (splice l (200 + 11 * i) X) (i + 1) := by
  have hS : ∀ j, j < 8 → rawR (splice l (200 + 11 * i) X) j = if j = i then X else rawR l j := fun j hj => rawR_splice l X i j hX hi hj hl
  refine ⟨?_, fun j h1 h2 => by rw [hS j h2, if_neg (by omega)]; exact hz j (by omega) h2⟩
  unfold rootsL
  rw [rootsF_zeros (rawR l) i hz 8 (by omega) (by omega), rootsF_zeros (rawR (splice l (200 + 11 * i) X)) (i + 1) (fun j h1 h2 => by rw [hS j h2, if_neg (by omega)]; exact hz j (by omega) h2) 8 (by omega) (by omega),
    rootsF_succ, hS i hi, if_pos rfl, rootsF_congr (rawR (splice l (200 + 11 * i) X)) (rawR l) i (fun j hj => by rw [hS j (by omega), if_neg (by omega)])]
end Go.Proofs.YtbcafgocachddaaDoor
