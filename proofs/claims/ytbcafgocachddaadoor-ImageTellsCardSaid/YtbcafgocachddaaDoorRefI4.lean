/- The reference on images: PutEntry. -/
import Derived.Test.YtbcafgocachddaaDoorRefI3
namespace Go.Proofs.YtbcafgocachddaaDoor
open Go.RowKit

theorem refPut_fit (A : Option Addr) (n c : Nat) (l : Bytes) (a x s : Nat) (w : World) (hn : l.length = n) (hl : n ≤ 140737488351232) (hr : Rd w A l) (h1 : 1 ≤ s) (h4 : s ≤ 4) (hx : (x : Int) ≤ mostN (s : Int)) (ha : a + s ≤ n) :
    Calls Tryd.prog 83 #[.slice A n c, .int .i64 (a : Int), .int .i64 (x : Int), .int .i64 (s : Int)] w fun e w' => ∃ A' c', e = .returned (.tuple #[.slice A' n c', .int .i64 0]) ∧ Rd w' A' (splice l a (numB x s)) ∧ Below w.heap.size w w' := by
  have hE : putE n (a : Int) (x : Int) (s : Int) = 0 := by
    unfold putE; rw [if_pos ⟨by omega, by omega, by omega, hx⟩, if_neg (by omega)]
  have hF : putF l (a : Int) (x : Int) (s : Int) = splice l a (numB x s) := by
    unfold putF; rw [hn, if_pos hE]; rfl
  have hL : (splice l a (numB x s)).length = n := by rw [splice_len _ _ _ (by rw [numB_length]; omega)]; exact hn
  refine (refPut_any A n c l a x s w hn hl hr).mono ?_
  rintro e w' ⟨A', c', rfl, hrd, hb⟩
  rw [hF, hE, hL]
  rw [hF] at hrd
  exact ⟨A', c', rfl, hrd, hb⟩
theorem entV_cells (h a b t : Int) : (entV h a b t) = .agg #[.int .i64 h, .int .i64 a, .int .i64 b, .int .i64 t] := rfl
theorem fourAt_one (w : World) (a b c d : Int) (t : TypeId) : FourAt (w.alloc (.cells #[.int .i64 a, .int .i64 b, .int .i64 c, .int .i64 d] t)) w.heap.size a b c d := by
  have h := heap_alloc_new w (.cells #[.int .i64 a, .int .i64 b, .int .i64 c, .int .i64 d] t)
  unfold FourAt
  simp only [World.cell?]
  rw [h]
  exact ⟨rfl, rfl, rfl, rfl⟩
theorem FourAt.below {w w' : World} {p : Nat} {a b c d : Int} (h : FourAt w p a b c d) (hb : Below w.heap.size w w') : FourAt w' p a b c d := by
  have hlt := block_lt_of_cell h.1
  exact ⟨(hb.cell (p := ⟨p, 0, none⟩) hlt).trans h.1, (hb.cell (p := ⟨p, 1, none⟩) hlt).trans h.2.1, (hb.cell (p := ⟨p, 2, none⟩) hlt).trans h.2.2.1, (hb.cell (p := ⟨p, 3, none⟩) hlt).trans h.2.2.2⟩
/-- the fault of an entry that is put -/
def entE (n : Nat) (h a len tag : Int) : Nat := if handleB h = false ∨ tagB tag = false ∨ lenB len = false then 1 else if withinB n a len = false then 3 else 0
def entF (l : Bytes) (h a len tag : Int) : Bytes := if entE l.length h a len tag = 0 then putEnt l h a len tag else []
theorem refPutEntry_e1 (A : Option Addr) (n c : Nat) (h a len tag : Int) (w : World) (hbad : handleB h = false ∨ tagB tag = false ∨ lenB len = false) :
    Calls Tryd.prog 18 #[.slice A n c, entV h a len tag] w fun e w' => e = .returned (.tuple #[.slice none 0 0, .int .i64 1]) ∧ Below w.heap.size w w' := by
  have hB : Below w.heap.size w (w.alloc (.cells #[.int .i64 h, .int .i64 a, .int .i64 len, .int .i64 tag] 26)) := (Below.refl _ _).alloc (Nat.le_refl _) _
  unfold entV
  go_enter Tryd.func18, Tryd.ntmps18
  go_wp2_with fail
  refine (ref_handle_any h _).mono ?_
  rintro e w1 ⟨rfl, rfl⟩
  cases hh : handleB h with
  | false =>
    clear hbad hh
    go_wp2_with fail
    go_ret2
    exact ⟨rfl, hB⟩
  | true =>
    rw [hh] at hbad
    have hb2 : tag < 0 ∨ 15 < tag ∨ len < 1 ∨ 1000 < len := by
      rcases hbad with h1 | h1 | h1
      · cases h1
      · have := tagB_false.1 h1; omega
      · have := lenB_false.1 h1; omega
    clear hbad hh
    by_cases t1 : tag < 0
    · clear hb2
      go_wp2_with fail
      go_ret2
      exact ⟨rfl, hB⟩
    · by_cases t2 : 15 < tag
      · clear hb2
        go_wp2_with fail
        go_ret2
        exact ⟨rfl, hB⟩
      · by_cases t3 : len < 1
        · clear hb2
          go_wp2_with fail
          go_ret2
          exact ⟨rfl, hB⟩
        · have t4 : 1000 < len := by omega
          clear hb2
          go_wp2_with fail
          go_ret2
          exact ⟨rfl, hB⟩
theorem refPutEntry_e3 (A : Option Addr) (n c : Nat) (h a len tag : Int) (w : World) (hn : n ≤ 6400) (hh : handleB h = true) (ht : tagB tag = true) (hl : lenB len = true) (hw : withinB n a len = false) :
    Calls Tryd.prog 18 #[.slice A n c, entV h a len tag] w fun e w' => e = .returned (.tuple #[.slice none 0 0, .int .i64 3]) ∧ Below w.heap.size w w' := by
  have hB : Below w.heap.size w (w.alloc (.cells #[.int .i64 h, .int .i64 a, .int .i64 len, .int .i64 tag] 26)) := (Below.refl _ _).alloc (Nat.le_refl _) _
  have htb := tagB_true.1 ht
  have hlb := lenB_true.1 hl
  have hbad : a < 288 ∨ (n : Int) < len ∨ (n : Int) - len < a := by
    simp only [withinB, Bool.and_eq_false_iff, decide_eq_false_iff_not] at hw; omega
  have t1 : decide (tag < 0) = false := by simp; omega
  have t2 : decide (15 < tag) = false := by simp; omega
  have t3 : decide (len < 1) = false := by simp; omega
  have t4 : decide (1000 < len) = false := by simp; omega
  unfold entV
  go_enter Tryd.func18, Tryd.ntmps18
  go_wp2_with fail
  refine (ref_handle_any h _).mono ?_
  rintro e w1 ⟨rfl, rfl⟩
  rw [hh]
  clear hw ht hl hh
  by_cases q1 : a < 288
  · clear hbad htb hlb
    go_wp2_with fail
    go_ret2
    exact ⟨rfl, hB⟩
  · by_cases q2 : (n : Int) < a
    · clear hbad htb hlb
      go_wp2_with fail
      go_ret2
      exact ⟨rfl, hB⟩
    · have s1 : IntKind.i64.wrap ((n : Int) - a) = (n : Int) - a := IntWalk.i64_in _ (by omega)
      have q3 : (n : Int) - a < len := by omega
      clear hbad htb hlb
      go_wp2_with fail
      go_ret2
      exact ⟨rfl, hB⟩
def PutAt (n : Nat) (o : Nat) (x s : Int) (l l' : Bytes) : Prop := ∀ (A : Option Addr) (c : Nat) (W : World), Rd W A l → Calls Tryd.prog 83 #[.slice A n c, .int .i64 (o : Int), .int .i64 x, .int .i64 s] W fun e w' => ∃ A' c', e = .returned (.tuple #[.slice A' n c', .int .i64 0]) ∧ Rd w' A' l' ∧ Below W.heap.size W w'
theorem putAt (n o x s : Nat) (l : Bytes) (hn : l.length = n) (hl : n ≤ 140737488351232) (h1 : 1 ≤ s) (h4 : s ≤ 4) (hx : (x : Int) ≤ mostN (s : Int)) (ha : o + s ≤ n) : PutAt n o (x : Int) (s : Int) l (splice l o (numB x s)) :=
  fun A c W hW => refPut_fit A n c l o x s W hn hl hW h1 h4 hx ha
set_option maxRecDepth 100000 in
theorem refPutEntry_walk (A : Option Addr) (n c k o o1 o3 t tt b m : Nat) (l l1 l2 l3 : Bytes) (w : World) (hrd : Rd w A l) (hh : handleB ((k : Int) + 1) = true)
    (s0 : IntKind.i64.wrap (k : Int) = (k : Int)) (s1 : IntKind.i64.wrap (5 * (k : Int)) = (o : Int)) (s2 : IntKind.i64.wrap ((t : Int) + 1) = (tt : Int))
    (s3 : IntKind.i64.wrap ((o : Int) + 1) = (o1 : Int)) (s4 : IntKind.i64.wrap ((o : Int) + 3) = (o3 : Int)) (ht : t ≤ 15) (hm1 : 1 ≤ m) (hm : m ≤ 1000) (hb : 288 ≤ b) (hbn : b + m ≤ n) (hn : n ≤ 6400)
    (c1 : PutAt n o tt 1 l l1) (c2 : PutAt n o1 b 2 l1 l2) (c3 : PutAt n o3 m 2 l2 l3) :
    Calls Tryd.prog 18 #[.slice A n c, entV ((k : Int) + 1) b m t] w fun e w' => ∃ A' c', e = .returned (.tuple #[.slice A' n c', .int .i64 0]) ∧ Rd w' A' l3 ∧ Below w.heap.size w w' := by
  have hB : Below w.heap.size w (w.alloc (.cells #[.int .i64 ((k : Int) + 1), .int .i64 b, .int .i64 m, .int .i64 t] 26)) := (Below.refl _ _).alloc (Nat.le_refl _) _
  have hF0 := fourAt_one w ((k : Int) + 1) b m t 26
  have s5 : IntKind.i64.wrap ((n : Int) - b) = (n : Int) - b := IntWalk.i64_in _ (by omega)
  have t1 : decide ((t : Int) < 0) = false := by simp
  have t2 : decide (15 < (t : Int)) = false := by simp; omega
  have t2' : decide (15 < t) = false := by simp; omega
  have t3 : decide ((m : Int) < 1) = false := by simp; omega
  have t3' : decide (m < 1) = false := by simp; omega
  have t4 : decide (1000 < (m : Int)) = false := by simp; omega
  have t4' : decide (1000 < m) = false := by simp; omega
  have t5 : decide ((b : Int) < 288) = false := by simp; omega
  have t5' : decide (b < 288) = false := by simp; omega
  have t6 : decide ((n : Int) < b) = false := by simp; omega
  have t6' : decide (n < b) = false := by simp; omega
  have t7 : decide ((n : Int) - b < m) = false := by simp; omega
  have hr0 := hrd.below hB
  have C1 := Hidden.mk c1
  have C2 := Hidden.mk c2
  have C3 := Hidden.mk c3
  clear ht hm1 hm hb hbn hn c1 c2 c3 hrd
  unfold entV
  go_enter Tryd.func18, Tryd.ntmps18
  go_wp2_with fail
  refine (ref_handle_any _ _).mono ?_
  rintro e w1 ⟨rfl, rfl⟩
  rw [hh]
  clear hh
  go_wp2_with fail
  generalize w.alloc (.cells #[.int .i64 ((k : Int) + 1), .int .i64 (b : Int), .int .i64 (m : Int), .int .i64 (t : Int)] 26) = w0 at *
  refine (C1.out A c _ hr0).mono ?_
  rintro e w1 ⟨A1, c1, rfl, hr1, hb1⟩
  have hF1 := hF0.below hb1
  have hB1 := hB.trans (hb1.mono hB.size)
  have HF1 := Hidden.mk hF1
  obtain ⟨x0, x1, x2, x3⟩ := hF1
  clear hb1 hF0
  go_wp2_with fail
  refine (C2.out A1 c1 _ hr1).mono ?_
  rintro e w2 ⟨A2, c2, rfl, hr2, hb2⟩
  have hF2 := HF1.out.below hb2
  have hB2 := hB1.trans (hb2.mono hB1.size)
  obtain ⟨y0, y1, y2, y3⟩ := hF2
  clear hb2 x0 x1 x2 x3
  go_wp2_with fail
  refine (C3.out A2 c2 _ hr2).mono ?_
  rintro e w3 ⟨A3, c3, rfl, hr3, hb3⟩
  have hB3 := hB2.trans (hb3.mono hB2.size)
  clear hb3 y0 y1 y2 y3
  go_wp2_with fail
  go_ret2
  exact ⟨A3, c3, rfl, hr3, hB3⟩
theorem putEnt_three (l : Bytes) (k t b m : Nat) (h : 5 * k + 5 ≤ l.length) (ht : t ≤ 15) : putEnt l ((k : Int) + 1) (b : Int) (m : Int) (t : Int) = splice (splice (splice l (5 * k) (numB (t + 1) 1)) (5 * k + 1) (numB b 2)) (5 * k + 3) (numB m 2) := by
  have e1 := splice_join l (numB (t + 1) 1) (numB b 2) (5 * k) (by rw [numB_length, numB_length]; omega)
  have e2 := splice_join l (numB (t + 1) 1 ++ numB b 2) (numB m 2) (5 * k) (by rw [List.length_append, numB_length, numB_length, numB_length]; omega)
  rw [List.length_append, numB_length, numB_length] at e2
  rw [numB_length] at e1
  rw [e1, show 5 * k + 3 = 5 * k + (1 + 2) by omega, e2]
  unfold putEnt entB
  rw [entO_k]
  have hm : numB (t + 1) 1 = [UInt8.ofNat (t + 1)] := by
    show [UInt8.ofNat ((t + 1) % 256)] = _
    rw [Nat.mod_eq_of_lt (by omega)]
  rw [hm]
  rfl
theorem refPutEntry_ok (A : Option Addr) (n c : Nat) (l : Bytes) (h a len tag : Int) (w : World) (hln : l.length = n) (hr : rightB n = true) (hrd : Rd w A l) (hh : handleB h = true) (ht : tagB tag = true) (hl : lenB len = true) (hw : withinB n a len = true) :
    Calls Tryd.prog 18 #[.slice A n c, entV h a len tag] w fun e w' => ∃ A' c', e = .returned (.tuple #[.slice A' n c', .int .i64 0]) ∧ Rd w' A' (putEnt l h a len tag) ∧ Below w.heap.size w w' := by
  have htb := tagB_true.1 ht
  have hlb := lenB_true.1 hl
  have hhb := handleB_true.1 hh
  have hwb := withinB_true.1 hw
  have hnb := rightB_true.1 hr
  obtain ⟨k, rfl⟩ : ∃ k : Nat, h = (k : Int) + 1 := ⟨(h - 1).toNat, by omega⟩
  obtain ⟨t, rfl⟩ := Int.eq_ofNat_of_zero_le (show 0 ≤ tag by omega)
  obtain ⟨b, rfl⟩ := Int.eq_ofNat_of_zero_le (show 0 ≤ a by omega)
  obtain ⟨m, rfl⟩ := Int.eq_ofNat_of_zero_le (show 0 ≤ len by omega)
  rw [putEnt_three l k t b m (by omega) (by omega)]
  have hl1 : (splice l (5 * k) (numB (t + 1) 1)).length = n := by rw [splice_len _ _ _ (by rw [numB_length]; omega)]; exact hln
  have hl2 : (splice (splice l (5 * k) (numB (t + 1) 1)) (5 * k + 1) (numB b 2)).length = n := by rw [splice_len _ _ _ (by rw [numB_length, hl1]; omega)]; exact hl1
  have hm1 : mostN ((1 : Nat) : Int) = 255 := rfl
  have hm2 : mostN ((2 : Nat) : Int) = 65535 := rfl
  exact refPutEntry_walk A n c k (5 * k) (5 * k + 1) (5 * k + 3) t (t + 1) b m l _ _ _ w hrd hh (IntWalk.i64_in _ (by omega)) (by rw [IntWalk.i64_in _ (by omega)]; omega) (by rw [IntWalk.i64_in _ (by omega)]; omega) (by rw [IntWalk.i64_in _ (by omega)]; omega) (by rw [IntWalk.i64_in _ (by omega)]; omega)
    (by omega) (by omega) (by omega) (by omega) (by omega) (by omega)
    (putAt n (5 * k) (t + 1) 1 l hln (by omega) (by omega) (by omega) (by rw [hm1]; omega) (by omega))
    (putAt n (5 * k + 1) b 2 _ hl1 (by omega) (by omega) (by omega) (by rw [hm2]; omega) (by omega))
    (putAt n (5 * k + 3) m 2 _ hl2 (by omega) (by omega) (by omega) (by rw [hm2]; omega) (by omega))
theorem refPutEntry_any (A : Option Addr) (n c : Nat) (l : Bytes) (h a len tag : Int) (w : World) (hln : l.length = n) (hr : rightB n = true) (hrd : Rd w A l) :
    Calls Tryd.prog 18 #[.slice A n c, entV h a len tag] w fun e w' => RowAns w w' e (entF l h a len tag) (.int .i64 (entE n h a len tag)) := by
  unfold entF
  rw [hln]
  by_cases hbad : handleB h = false ∨ tagB tag = false ∨ lenB len = false
  · have hE : entE n h a len tag = 1 := by unfold entE; rw [if_pos hbad]
    rw [hE]
    exact (refPutEntry_e1 A n c h a len tag w hbad).mono fun e w' ⟨he, hb⟩ => ⟨none, 0, he, Rd.nil_, hb⟩
  · have h1 : handleB h = true := by cases hx : handleB h <;> simp_all
    have h2 : tagB tag = true := by cases hx : tagB tag <;> simp_all
    have h3 : lenB len = true := by cases hx : lenB len <;> simp_all
    cases hw : withinB n a len with
    | false =>
      have hE : entE n h a len tag = 3 := by unfold entE; rw [if_neg hbad, if_pos hw]
      rw [hE]
      exact (refPutEntry_e3 A n c h a len tag w (by have := rightB_true.1 hr; omega) h1 h2 h3 hw).mono fun e w' ⟨he, hb⟩ => ⟨none, 0, he, Rd.nil_, hb⟩
    | true =>
      have hE : entE n h a len tag = 0 := by unfold entE; rw [if_neg hbad, if_neg (by simp [hw])]
      have hL : (putEnt l h a len tag).length = n := by rw [putEnt_len _ _ _ _ _ (handleB_true.1 h1).1 (handleB_true.1 h1).2 (by have := rightB_true.1 hr; omega)]; exact hln
      rw [hE, if_pos rfl]
      refine (refPutEntry_ok A n c l h a len tag w hln hr hrd h1 h2 h3 hw).mono ?_
      rintro e w' ⟨A', c', rfl, hrd', hb⟩
      exact ⟨A', c', by rw [hL]; rfl, hrd', hb⟩
/-- the program's Put, told likewise -/
theorem iput_ans (A : Option Addr) (n c : Nat) (l : Bytes) (h a len tag : Int) (w : World) (hln : l.length = n) (hnc : n ≤ c) (hr : rightB n = true) (hrd : Rd w A l) :
    Calls Tryd.prog 19 #[.slice A n c, entV h a len tag] w fun e w' => RowAns w w' e (entF l h a len tag) (errV (entE n h a len tag)) := by
  unfold entF
  rw [hln]
  by_cases hbad : handleB h = false ∨ tagB tag = false ∨ lenB len = false
  · have hE : entE n h a len tag = 1 := by unfold entE; rw [if_pos hbad]
    rw [hE]
    exact (iput_e1 A n c h a len tag w hr hbad).mono fun e w' ⟨he, hb⟩ => ⟨none, 0, he, Rd.nil_, hb⟩
  · have h1 : handleB h = true := by cases hx : handleB h <;> simp_all
    have h2 : tagB tag = true := by cases hx : tagB tag <;> simp_all
    have h3 : lenB len = true := by cases hx : lenB len <;> simp_all
    cases hw : withinB n a len with
    | false =>
      have hE : entE n h a len tag = 3 := by unfold entE; rw [if_neg hbad, if_pos hw]
      rw [hE]
      exact (iput_e3w A n c h a len tag w hr h1 h2 h3 hw).mono fun e w' ⟨he, hb⟩ => ⟨none, 0, he, Rd.nil_, hb⟩
    | true =>
      have hE : entE n h a len tag = 0 := by unfold entE; rw [if_neg hbad, if_neg (by simp [hw])]
      have hL : (putEnt l h a len tag).length = n := by rw [putEnt_len _ _ _ _ _ (handleB_true.1 h1).1 (handleB_true.1 h1).2 (by have := rightB_true.1 hr; omega)]; exact hln
      rw [hE, if_pos rfl]
      refine (iput_ok A n c l h a len tag w hln hnc hrd hr h1 h2 h3 hw).mono ?_
      rintro e w' ⟨g, cap, rfl, hg, hrow, hb⟩
      exact ⟨some ⟨g, 0, none⟩, cap, by rw [hL]; rfl, hrow.rd, hb⟩
end Go.Proofs.YtbcafgocachddaaDoor
