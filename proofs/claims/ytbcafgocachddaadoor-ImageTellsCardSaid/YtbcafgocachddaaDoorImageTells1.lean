/- ImageTells: the walk. -/
import Derived.Test.YtbcafgocachddaaDoorImg8
import Derived.Test.YtbcafgocachddaaDoorSame1
import Derived.Test.YtbcafgocachddaaDoorTold3
import Derived.Deep.DeepCutAuto
import Derived.Deep.CutBlock
namespace Go.Proofs.YtbcafgocachddaaDoor
open Go.RowKit

/-- what the two boxes hold -/
def TwoAt (w : World) (p : Nat) (s : Bytes) (h : Int) : Prop := w.cell? ⟨p, 0, none⟩ = some (sv s) ∧ w.cell? ⟨p, 1, none⟩ = some (.int .i64 h)
theorem TwoAt.below {w w' : World} {p : Nat} {s : Bytes} {h : Int} (k : TwoAt w p s h) (hb : Below w.heap.size w w') : TwoAt w' p s h := by
  have hlt := block_lt_of_cell k.1
  exact ⟨(hb.cell (p := ⟨p, 0, none⟩) hlt).trans k.1, (hb.cell (p := ⟨p, 1, none⟩) hlt).trans k.2⟩
theorem twoAt_new (w : World) (f : Obj) (s : Bytes) (h : Int) (t : TypeId) : TwoAt ((w.alloc f).alloc (.cells #[sv s, .int .i64 h] t)) (w.heap.size + 1) s h := by
  have e := heap_alloc_new (w.alloc f) (.cells #[sv s, .int .i64 h] t)
  rw [show (w.alloc f).heap.size = w.heap.size + 1 by simp] at e
  unfold TwoAt
  simp only [World.cell?]
  rw [e]
  exact ⟨rfl, rfl⟩
/-- what stays, whatever is called -/
structure TellW (w W : World) (A : Option Addr) (l : Bytes) (eh ea el et : Int) (s : Bytes) (rh : Int) : Prop where
  bel : Below w.heap.size w W
  four : FourAt W w.heap.size eh ea el et
  two : TwoAt W (w.heap.size + 1) s rh
  rd : Rd W A l
  has : HasType W
theorem TellW.below {w W W' : World} {A : Option Addr} {l : Bytes} {eh ea el et : Int} {s : Bytes} {rh : Int} (h : TellW w W A l eh ea el et s rh) (hb : Below W.heap.size W W') : TellW w W' A l eh ea el et s rh :=
  ⟨h.bel.trans (hb.mono h.bel.size), h.four.below hb, h.two.below hb, h.rd.below hb, h.has.below h.has.lt hb⟩
theorem heap_setK {w : World} {d k : Nat} {cur : Array Value} {t : TypeId} (h : w.heap[d]? = some (.cells cur t (0, 0))) (v : Value) : (w.setCell ⟨d, k, none⟩ v).heap[d]? = some (.cells (cur.setIfInBounds k v) t (0, 0)) := by
  rw [setCell_eq_setRow w d k cur t _ _ h]
  exact setRow_heap w d cur _ t _ h
theorem four_set {w : World} {P : Nat} {a b c d : Value} {t : TypeId} (h : w.heap[P]? = some (.cells #[a, b, c, d] t (0, 0))) (x0 x1 x2 x3 : Int) :
    FourAt ((((w.setCell ⟨P, 0, none⟩ (.int .i64 x0)).setCell ⟨P, 1, none⟩ (.int .i64 x1)).setCell ⟨P, 2, none⟩ (.int .i64 x2)).setCell ⟨P, 3, none⟩ (.int .i64 x3)) P x0 x1 x2 x3 := by
  have e0 : (w.setCell ⟨P, 0, none⟩ (.int .i64 x0)).heap[P]? = _ := heap_setK h _
  have e1 := heap_setK (k := 1) e0 (.int .i64 x1)
  have e2 := heap_setK (k := 2) e1 (.int .i64 x2)
  have e3 := heap_setK (k := 3) e2 (.int .i64 x3)
  unfold FourAt
  simp only [World.cell?]
  rw [e3]
  exact ⟨rfl, rfl, rfl, rfl⟩
set_option maxRecDepth 100000 in
set_option maxHeartbeats 4000000 in
theorem imageTells_walk (A : Option Addr) (n c : Nat) (l : Bytes) (eh ea el et hd i : Int) (s : Bytes) (rh nn : Int) (w : World) (hg : HasType w) (hln : l.length = n) (hl : n ≤ 140737488351232) (hnc : n ≤ c) (hrd : Rd w A l) (hs : s.length ≤ 140737488351232) :
    Calls Tryd.prog 3 #[.slice A n c, entV eh ea el et, .int .i64 hd, .int .i64 i, rootV s rh, .int .i64 nn] w fun e w' => e = .returned (.bool true) ∧ Below w.heap.size w w' := by
  have hB0 : Below w.heap.size w ((w.alloc (.cells #[.int .i64 eh, .int .i64 ea, .int .i64 el, .int .i64 et] 26)).alloc (.cells #[sv s, .int .i64 rh] 28)) := ((Below.refl _ _).alloc (Nat.le_refl _) _).alloc (by simp) _
  have hF0 : FourAt ((w.alloc (.cells #[.int .i64 eh, .int .i64 ea, .int .i64 el, .int .i64 et] 26)).alloc (.cells #[sv s, .int .i64 rh] 28)) w.heap.size eh ea el et := (fourAt_one w eh ea el et 26).below ((Below.refl _ _).alloc (Nat.le_refl _) _)
  have hT0 := twoAt_new w (.cells #[.int .i64 eh, .int .i64 ea, .int .i64 el, .int .i64 et] 26) s rh 28
  have HF0 := Hidden.mk hF0
  have HT0 := Hidden.mk hT0
  have HG := Hidden.mk hg
  have HRD := Hidden.mk hrd
  clear hF0 hT0 hg hrd
  unfold entV rootV
  go_enter Tryd.func3, Tryd.ntmps3
  go_wp2_with fail
  generalize (w.alloc (.cells #[.int .i64 eh, .int .i64 ea, .int .i64 el, .int .i64 et] 26)).alloc (.cells #[sv s, .int .i64 rh] 28) = w0 at *
  refine (ref_right_any nn _).mono ?_
  rintro e w1 ⟨rfl, rfl⟩
  have hNEW := new_ans nn w0
  have HNN : Hidden (rightB nn = true → nn = (nn.toNat : Int)) := ⟨fun h => by have := rightB_true.1 h; omega⟩
  generalize rightB nn = bn at *
  have HNEW := Hidden.mk hNEW
  clear hNEW
  go_upto_if 42 with (fail)
  go_cut [14, 15] (fun b z wx => b = .int .i64 ((if bn = true then 0 else 1 : Nat) : Int) ∧ z = .int .i64 ((if bn = true then nn.toNat else 0 : Nat) : Int) ∧ w0 = wx)
  case first =>
    cases bn with
    | false =>
      go_wp2_with fail
      go_meet
      exact ⟨rfl, rfl, rfl⟩
    | true =>
      go_wp2_with fail
      go_meet
      exact ⟨rfl, congrArg (fun z => Value.int .i64 z) (HNN.out (by first | trivial | rfl)), rfl⟩
  case rest =>
    obtain ⟨rfl, rfl, rfl⟩ := hcut
    have hNEW := HNEW.out
    clear HNEW HNN
    generalize (if bn = true then 0 else 1) = B1 at *
    generalize (if bn = true then nn.toNat else 0) = Z1 at *
    have HN := Hidden.mk hNEW
    clear hNEW
    go_wp2_with fail
    refine HN.out.mono ?_
    rintro e w1 ⟨A1, c1, rfl, hb1⟩
    have hB1 := hB0.trans (hb1.mono hB0.size)
    go_wp2_with fail
    refine (err_any B1 B1 _ (HG.out.below HG.out.lt hB1)).mono ?_
    rintro e w2 ⟨rfl, hb2⟩
    rw [beq_self_eq_true]
    have hB2 := hB1.trans (hb2.mono hB1.size)
    have hb02 := hb1.trans (hb2.mono hb1.size)
    have T2 := Hidden.mk (TellW.mk (A := A) (l := l) hB2 (HF0.out.below hb02) (HT0.out.below hb02) (HRD.out.below hB2) (HG.out.below HG.out.lt hB2))
    clear hb1 hb2 hB1 hb02 hB0 hB2 HF0 HT0 HG HRD HN
    go_wp2_with fail
    refine (ref_right_any (n : Int) _).mono ?_
    rintro e w3 ⟨rfl, rfl⟩
    cases hr : rightB n with
    | false =>
      have hRf := Hidden.mk hr
      clear hr
      go_wp2_with fail
      refine (ientries_no A n c _ hRf.out).mono ?_
      rintro e w3 ⟨rfl, rfl⟩
      go_wp2_with fail
      refine (err_some 3 3 _ T2.out.has).mono ?_
      rintro e w3 ⟨rfl, hb3⟩
      have T3 := Hidden.mk (T2.out.below hb3)
      clear hb3 T2
      go_wp2_with fail
      refine (iroots_no A n c _ hRf.out).mono ?_
      rintro e w4 ⟨rfl, rfl⟩
      go_wp2_with fail
      refine (err_some 3 3 _ T3.out.has).mono ?_
      rintro e w4 ⟨rfl, hb4⟩
      have T4 := Hidden.mk (T3.out.below hb4)
      clear hb4 T3
      go_wp2_with fail
      refine (sameEnts_eq none none 0 0 [] _ (by simp) (fun j hj => by simp at hj) (fun j hj => by simp at hj)).mono ?_
      rintro e w5 ⟨rfl, hb5⟩
      have T5 := Hidden.mk (T4.out.below hb5)
      clear hb5 T4
      go_wp2_with fail
      refine (sameRoots_eq none none 0 0 [] _ (by simp) (fun j hj => by simp at hj) (fun j hj => by simp at hj)).mono ?_
      rintro e w6 ⟨rfl, hb6⟩
      have t6 := T5.out.below hb6
      have T6 := Hidden.mk t6
      obtain ⟨x0, x1, x2, x3⟩ := t6.four
      clear hb6 T5 t6
      go_wp2_with fail
      refine (iput_e3 A n c eh ea el et _ hRf.out).mono ?_
      rintro e w7 ⟨rfl, hb7⟩
      have T7 := Hidden.mk (T6.out.below hb7)
      clear hb7 T6 x0 x1 x2 x3
      go_wp2_with fail
      refine (err_some 3 3 _ T7.out.has).mono ?_
      rintro e w8 ⟨rfl, hb8⟩
      have t8 := T7.out.below hb8
      have T8 := Hidden.mk t8
      obtain ⟨x0, x1⟩ := t8.two
      have z1 := conv_text w8 none 0 0 [] rfl Rd.nil_
      clear hb8 T7 t8
      go_wp2_with fail
      refine (root_e3 A n c i s rh _ hRf.out).mono ?_
      rintro e w9 ⟨rfl, hb9⟩
      have T9 := Hidden.mk (T8.out.below hb9)
      clear hb9 T8 x0 x1 z1
      go_wp2_with fail
      refine (err_some 3 3 _ T9.out.has).mono ?_
      rintro e w10 ⟨rfl, hb10⟩
      have T10 := Hidden.mk (T9.out.below hb10)
      have z1 := conv_text w10 none 0 0 [] rfl Rd.nil_
      clear hb10 T9
      go_wp2_with fail
      refine (ref_handle_any hd _).mono ?_
      rintro e w11 ⟨rfl, rfl⟩
      clear z1
      have hal := (Below.refl w10.heap.size w10).alloc (Nat.le_refl _) (.cells #[.int .i64 0, .int .i64 0, .int .i64 0, .int .i64 0] 26)
      have T11 := Hidden.mk (T10.out.below hal)
      have F11 := Hidden.mk (fourAt_one w10 0 0 0 0 26)
      clear hal T10
      go_wp2_with fail
      generalize w10.alloc (.cells #[.int .i64 0, .int .i64 0, .int .i64 0, .int .i64 0] 26) = w11 at *
      generalize w10.heap.size = P1 at *
      have hG3 := iget_e3 A n c hd w11 hRf.out
      unfold entV at hG3
      refine hG3.mono ?_
      clear hG3
      rintro e w12 ⟨rfl, hb12⟩
      have T12 := Hidden.mk (T11.out.below hb12)
      have F12 := Hidden.mk (F11.out.below hb12)
      have hal := (Below.refl w12.heap.size w12).alloc (Nat.le_refl _) (.cells #[.int .i64 0, .int .i64 0, .int .i64 0, .int .i64 0] 26)
      have T13 := Hidden.mk (T12.out.below hal)
      have F13 := Hidden.mk (F12.out.below hal)
      have E13 := Hidden.mk (fourAt_one w12 0 0 0 0 26)
      clear hal hb12 T11 F11 T12 F12
      go_wp2_with fail
      generalize w12.alloc (.cells #[.int .i64 0, .int .i64 0, .int .i64 0, .int .i64 0] 26) = w13 at *
      generalize w12.heap.size = P2 at *
      refine (err_some 3 3 _ T13.out.has).mono ?_
      rintro e w14 ⟨rfl, hb14⟩
      have T14 := Hidden.mk (T13.out.below hb14)
      have F14 := Hidden.mk (F13.out.below hb14)
      have E14 := Hidden.mk (E13.out.below hb14)
      clear hb14 T13 F13 E13
      go_wp2_with fail
      refine (idrop_e A n c hd 3 _ (iget_e3 A n c hd _ hRf.out)).mono ?_
      rintro e w15 ⟨rfl, hb15⟩
      have T15 := Hidden.mk (T14.out.below hb15)
      have F15 := Hidden.mk (F14.out.below hb15)
      have E15 := Hidden.mk (E14.out.below hb15)
      clear hb15 T14 F14 E14
      go_wp2_with fail
      refine (err_some 3 3 _ T15.out.has).mono ?_
      rintro e w16 ⟨rfl, hb16⟩
      have HB := Hidden.mk (T15.out.below hb16).bel
      obtain ⟨x0, x1, x2, x3⟩ := F15.out.below hb16
      obtain ⟨y0, y1, y2, y3⟩ := E15.out.below hb16
      have z1 := conv_text w16 none 0 0 [] rfl Rd.nil_
      clear hb16 T15 F15 E15
      go_wp2_with fail
      go_ret
      exact ⟨rfl, HB.out⟩
    | true =>
      have hRt := Hidden.mk hr
      have hnb := rightB_true.1 hr
      obtain ⟨pb, ob, rfl, _⟩ := T2.out.rd.lt (by omega)
      clear hr
      go_wp2_with fail
      refine (refEntries_ok _ n c l _ hln hRt.out hnc T2.out.rd).mono ?_
      rintro e w3 ⟨v3, rfl, hown3, hb3⟩
      obtain ⟨A3, c3, rfl, hc3, hx3⟩ := own_rdX ecells_len hown3
      have T3 := Hidden.mk (T2.out.below hb3)
      clear hb3 hown3 T2
      go_wp2_with fail
      refine (refRoots_ok pb ob n c l _ hln hRt.out hnc T3.out.rd).mono ?_
      rintro e w4 ⟨v4, rfl, hown4, hb4⟩
      obtain ⟨A4, c4, rfl, hc4, hx4⟩ := own_rdX rcells_len hown4
      have T4 := Hidden.mk (T3.out.below hb4)
      have hx3' := hx3.below hb4
      clear hb4 hown4 T3 hx3
      go_wp2_with fail
      refine (ientries_ok _ n c l _ hln hRt.out hnc T4.out.rd).mono ?_
      rintro e w5 ⟨v5, rfl, hown5, hb5⟩
      obtain ⟨A5, c5, rfl, hc5, hx5⟩ := own_rdX ecells_len hown5
      have T5 := Hidden.mk (T4.out.below hb5)
      have hx3 := hx3'.below hb5
      have hx4' := hx4.below hb5
      clear hb5 hown5 T4 hx3' hx4
      go_wp2_with fail
      refine (err_nil 0 _).mono ?_
      rintro e w6 ⟨rfl, hb6⟩
      have T6 := Hidden.mk (T5.out.below hb6)
      have hx3' := hx3.below hb6
      have hx4 := hx4'.below hb6
      have hx5' := hx5.below hb6
      clear hb6 T5 hx3 hx4' hx5
      go_wp2_with fail
      refine (iroots_ok _ n c l _ hln hRt.out hnc T6.out.rd).mono ?_
      rintro e w7 ⟨v7, rfl, hown7, hb7⟩
      obtain ⟨A7, c7, rfl, hc7, hx7⟩ := own_rdX rcells_len hown7
      have T7 := Hidden.mk (T6.out.below hb7)
      have hx3 := hx3'.below hb7
      have hx4' := hx4.below hb7
      have hx5 := hx5'.below hb7
      clear hb7 hown7 T6 hx3' hx4 hx5'
      go_wp2_with fail
      refine (err_nil 0 _).mono ?_
      rintro e w8 ⟨rfl, hb8⟩
      have T8 := Hidden.mk (T7.out.below hb8)
      have hx3' := hx3.below hb8
      have hx4 := hx4'.below hb8
      have hx5' := hx5.below hb8
      have hx7' := hx7.below hb8
      clear hb8 T7 hx3 hx4' hx5 hx7
      have hle : (entriesL l).length ≤ 1000 := Nat.le_trans (entsL_len _ _ _) (by omega)
      have hlr : (rootsL l).length ≤ 1000 := Nat.le_trans (rootsF_len _ _) (by omega)
      go_wp2_with fail
      refine (sameEnts_eq A5 A3 c5 c3 (entriesL l) _ hle hx5' hx3').mono ?_
      rintro e w9 ⟨rfl, hb9⟩
      have T9 := Hidden.mk (T8.out.below hb9)
      have hx4' := hx4.below hb9
      have hx7 := hx7'.below hb9
      clear hb9 T8 hx3' hx5' hx4 hx7'
      go_wp2_with fail
      refine (sameRoots_eq A7 A4 c7 c4 (rootsL l) _ hlr hx7 hx4').mono ?_
      rintro e w10 ⟨rfl, hb10⟩
      have t10 := T9.out.below hb10
      have T10 := Hidden.mk t10
      obtain ⟨x0, x1, x2, x3⟩ := t10.four
      clear hb10 T9 t10 hx7 hx4' hle hlr
      have HEF : Hidden ((entF l eh ea el et).length = (entF l eh ea el et).length) := ⟨rfl⟩
      have C1 := Hidden.mk (refPutEntry_any (some ⟨pb, ob, none⟩) n c l eh ea el et _ hln hRt.out T10.out.rd)
      have C2 : Hidden (∀ W, Rd W (some ⟨pb, ob, none⟩) l → Calls Tryd.prog 19 #[.slice (some ⟨pb, ob, none⟩) n c, entV eh ea el et] W fun e w' => RowAns W w' e (entF l eh ea el et) (errV (entE n eh ea el et))) := ⟨fun W hW => iput_ans _ n c l eh ea el et W hln hnc hRt.out hW⟩
      have C3 : Hidden (∀ W, Rd W (some ⟨pb, ob, none⟩) l → Calls Tryd.prog 20 #[.slice (some ⟨pb, ob, none⟩) n c, .int .i64 i, rootV s rh] W fun e w' => RowAns W w' e (rootF l i s rh) (.int .i64 (rootE i s rh))) := ⟨fun W hW => refPutRoot_any _ n c l i s rh W hs hln hRt.out hW⟩
      have C4 : Hidden (∀ W, Rd W (some ⟨pb, ob, none⟩) l → Calls Tryd.prog 21 #[.slice (some ⟨pb, ob, none⟩) n c, .int .i64 i, rootV s rh] W fun e w' => RowAns W w' e (rootF l i s rh) (errV (rootE i s rh))) := ⟨fun W hW => iroot_ans _ n c l i s rh W hs hln hnc hRt.out hW⟩
      clear HEF
      generalize entF l eh ea el et = F1 at *
      generalize entE n eh ea el et = E1 at *
      generalize rootF l i s rh = F2 at *
      generalize rootE i s rh = E2 at *
      unfold RowAns at C1 C2 C3 C4
      unfold entV at C1 C2
      unfold rootV at C3 C4
      go_wp2_with fail
      refine C1.out.mono ?_
      rintro e w11 ⟨A11, c11, rfl, q11, hb11⟩
      have t11 := T10.out.below hb11
      have T11 := Hidden.mk t11
      obtain ⟨y0, y1, y2, y3⟩ := t11.four
      clear hb11 T10 t11 x0 x1 x2 x3 C1
      go_wp2_with fail
      refine (C2.out _ T11.out.rd).mono ?_
      rintro e w12 ⟨A12, c12, rfl, q12, hb12⟩
      have T12 := Hidden.mk (T11.out.below hb12)
      have q11' := q11.below hb12
      clear hb12 T11 y0 y1 y2 y3 C2 q11
      go_wp2_with fail
      refine (err_any E1 E1 _ T12.out.has).mono ?_
      rintro e w13 ⟨rfl, hb13⟩
      rw [beq_self_eq_true]
      have t13 := T12.out.below hb13
      have T13 := Hidden.mk t13
      obtain ⟨x0, x1⟩ := t13.two
      have z1 := conv_text w13 A11 F1.length c11 F1 rfl (q11'.below hb13)
      have z2 := conv_text w13 A12 F1.length c12 F1 rfl (q12.below hb13)
      clear hb13 T12 t13 q11' q12
      go_wp2_with fail
      refine (C3.out _ T13.out.rd).mono ?_
      rintro e w14 ⟨A14, c14, rfl, q14, hb14⟩
      have t14 := T13.out.below hb14
      have T14 := Hidden.mk t14
      obtain ⟨x0, x1⟩ := t14.two
      clear hb14 T13 t14 z1 z2 C3
      go_wp2_with fail
      refine (C4.out _ T14.out.rd).mono ?_
      rintro e w15 ⟨A15, c15, rfl, q15, hb15⟩
      have T15 := Hidden.mk (T14.out.below hb15)
      have q14' := q14.below hb15
      clear hb15 T14 C4 q14
      go_wp2_with fail
      refine (err_any E2 E2 _ T15.out.has).mono ?_
      rintro e w16 ⟨rfl, hb16⟩
      rw [beq_self_eq_true]
      have T16 := Hidden.mk (T15.out.below hb16)
      have z1 := conv_text w16 A14 F2.length c14 F2 rfl (q14'.below hb16)
      have z2 := conv_text w16 A15 F2.length c15 F2 rfl (q15.below hb16)
      clear hb16 T15 q14' q15
      go_wp2_with fail
      refine (ref_handle_any hd _).mono ?_
      rintro e w17 ⟨rfl, rfl⟩
      clear z1 z2
      cases hh : handleB hd with
      | false =>
        have HH := Hidden.mk hh
        clear hh
        have hal := (Below.refl w16.heap.size w16).alloc (Nat.le_refl _) (.cells #[.int .i64 0, .int .i64 0, .int .i64 0, .int .i64 0] 26)
        have T11 := Hidden.mk (T16.out.below hal)
        have F11 := Hidden.mk (fourAt_one w16 0 0 0 0 26)
        clear hal T16
        go_wp2_with fail
        generalize w16.alloc (.cells #[.int .i64 0, .int .i64 0, .int .i64 0, .int .i64 0] 26) = w11 at *
        generalize w16.heap.size = P1 at *
        have hG3 := iget_e1 (some ⟨pb, ob, none⟩) n c hd w11 hRt.out HH.out
        unfold entV at hG3
        refine hG3.mono ?_
        clear hG3
        rintro e w12 ⟨rfl, hb12⟩
        have T12 := Hidden.mk (T11.out.below hb12)
        have F12 := Hidden.mk (F11.out.below hb12)
        have hal := (Below.refl w12.heap.size w12).alloc (Nat.le_refl _) (.cells #[.int .i64 0, .int .i64 0, .int .i64 0, .int .i64 0] 26)
        have T13 := Hidden.mk (T12.out.below hal)
        have F13 := Hidden.mk (F12.out.below hal)
        have E13 := Hidden.mk (fourAt_one w12 0 0 0 0 26)
        clear hal hb12 T11 F11 T12 F12
        go_wp2_with fail
        generalize w12.alloc (.cells #[.int .i64 0, .int .i64 0, .int .i64 0, .int .i64 0] 26) = w13 at *
        generalize w12.heap.size = P2 at *
        refine (err_some 1 1 _ T13.out.has).mono ?_
        rintro e w14 ⟨rfl, hb14⟩
        have T14 := Hidden.mk (T13.out.below hb14)
        have F14 := Hidden.mk (F13.out.below hb14)
        have E14 := Hidden.mk (E13.out.below hb14)
        clear hb14 T13 F13 E13
        go_wp2_with fail
        refine (idrop_e _ n c hd 1 _ (iget_e1 _ n c hd _ hRt.out HH.out)).mono ?_
        rintro e w15 ⟨rfl, hb15⟩
        have T15 := Hidden.mk (T14.out.below hb15)
        have F15 := Hidden.mk (F14.out.below hb15)
        have E15 := Hidden.mk (E14.out.below hb15)
        clear hb15 T14 F14 E14
        go_wp2_with fail
        refine (err_some 1 1 _ T15.out.has).mono ?_
        rintro e w16 ⟨rfl, hb16⟩
        have HB := Hidden.mk (T15.out.below hb16).bel
        obtain ⟨x0, x1, x2, x3⟩ := F15.out.below hb16
        obtain ⟨y0, y1, y2, y3⟩ := E15.out.below hb16
        have z1 := conv_text w16 none 0 0 [] rfl Rd.nil_
        clear hb16 T15 F15 E15
        go_wp2_with fail
        go_ret
        exact ⟨rfl, HB.out⟩
      | true =>
        have hhb := handleB_true.1 hh
        obtain ⟨k, rfl⟩ : ∃ k : Nat, hd = (k : Int) + 1 := ⟨(hd - 1).toNat, by omega⟩
        have hk : k < 40 := by omega
        clear hh hhb
        have hal := (Below.refl w16.heap.size w16).alloc (Nat.le_refl _) (.cells #[.int .i64 0, .int .i64 0, .int .i64 0, .int .i64 0] 26)
        have T17 := Hidden.mk (T16.out.below hal)
        have F17 := Hidden.mk (fourAt_one w16 0 0 0 0 26)
        have HB17 := Hidden.mk hal
        have HBK := Hidden.mk (heap_alloc_new w16 (.cells #[.int .i64 0, .int .i64 0, .int .i64 0, .int .i64 0] 26))
        have HLT : Hidden (w16.heap.size < (w16.alloc (.cells #[.int .i64 0, .int .i64 0, .int .i64 0, .int .i64 0] 26)).heap.size) := ⟨by simp⟩
        clear hal
        have CE : Hidden (∀ W, Rd W (some ⟨pb, ob, none⟩) l → Calls Tryd.prog 23 #[.slice (some ⟨pb, ob, none⟩) n c, .int .i64 ((k : Int) + 1)] W fun e w' => e = .returned (.tuple #[.agg #[.int .i64 ((k : Int) + 1), .int .i64 (rAt (rawE l k)), .int .i64 (rLen (rawE l k)), .int .i64 (rTag (rawE l k))], .bool (hasE (rawE l k))]) ∧ Below W.heap.size W w') := ⟨fun W hW => refEntry_ok _ n c l k W hln (by omega) hnc hW hk⟩
        have CG : Hidden (∀ W, Rd W (some ⟨pb, ob, none⟩) l → hasE (rawE l k) = true → Calls Tryd.prog 25 #[.slice (some ⟨pb, ob, none⟩) n c, .int .i64 ((k : Int) + 1)] W fun e w' => e = .returned (.tuple #[.agg #[.int .i64 ((k : Int) + 1), .int .i64 (rAt (rawE l k)), .int .i64 (rLen (rawE l k)), .int .i64 (rTag (rawE l k))], .nilIface]) ∧ Below W.heap.size W w') := ⟨fun W hW hE => (iget_ok _ n c l k W hln hRt.out hnc hW hk).mono fun _ _ h => ⟨h.1 hE, h.2.2⟩⟩
        have HEX : Hidden (hasE (rawE l k) = hasE (rawE l k)) := ⟨rfl⟩
        go_wp2_with fail
        generalize w16.alloc (.cells #[.int .i64 0, .int .i64 0, .int .i64 0, .int .i64 0] 26) = w17 at *
        generalize hP1 : w16.heap.size = P1 at *
        have HP1 := Hidden.mk hP1
        clear hP1
        generalize (rAt (rawE l k) : Int) = b1 at *
        generalize (rLen (rawE l k) : Int) = b2 at *
        generalize rTag (rawE l k) = b3 at *
        refine (CE.out _ T17.out.rd).mono ?_
        rintro e w18 ⟨rfl, hb18⟩
        have T18 := Hidden.mk (T17.out.below hb18)
        have F18 := Hidden.mk (F17.out.below hb18)
        have hal := (Below.refl w18.heap.size w18).alloc (Nat.le_refl _) (.cells #[.int .i64 ((k : Int) + 1), .int .i64 b1, .int .i64 b2, .int .i64 b3] 26)
        have T11 := Hidden.mk (T18.out.below hal)
        have F11 := Hidden.mk (F18.out.below hal)
        have hs17 : P1 ≤ w17.heap.size := by have := HB17.out.size; have := HP1.out; omega
        have HB18 : Hidden (Below P1 w16 (w18.alloc (.cells #[.int .i64 ((k : Int) + 1), .int .i64 b1, .int .i64 b2, .int .i64 b3] 26))) := ⟨(HB17.out.trans (hb18.mono hs17)).trans (hal.mono (Nat.le_trans hs17 hb18.size))⟩
        have HBK8 := Hidden.mk ((hal.block P1 (Nat.lt_of_lt_of_le HLT.out hb18.size)).trans ((hb18.block P1 HLT.out).trans HBK.out))
        clear hb18 T17 F17 T18 F18 CE hal HB17 HBK HLT hs17
        cases hE : hasE (rawE l k) with
        | false =>
          have HEN := Hidden.mk hE
          clear hE CG HEX HB18 HP1 T16 HBK8
          go_wp2_with fail
          generalize w18.alloc (.cells #[.int .i64 ((k : Int) + 1), .int .i64 b1, .int .i64 b2, .int .i64 b3] 26) = w11 at *
          have hG3 := iget_no (some ⟨pb, ob, none⟩) n c l k w11 hln hRt.out hnc T11.out.rd hk HEN.out
          unfold entV at hG3
          refine hG3.mono ?_
          clear hG3
          rintro e w12 ⟨rfl, hb12⟩
          have T12 := Hidden.mk (T11.out.below hb12)
          have F12 := Hidden.mk (F11.out.below hb12)
          have hal := (Below.refl w12.heap.size w12).alloc (Nat.le_refl _) (.cells #[.int .i64 0, .int .i64 0, .int .i64 0, .int .i64 0] 26)
          have T13 := Hidden.mk (T12.out.below hal)
          have F13 := Hidden.mk (F12.out.below hal)
          have E13 := Hidden.mk (fourAt_one w12 0 0 0 0 26)
          clear hal hb12 T11 F11 T12 F12
          go_wp2_with fail
          generalize w12.alloc (.cells #[.int .i64 0, .int .i64 0, .int .i64 0, .int .i64 0] 26) = w13 at *
          generalize w12.heap.size = P2 at *
          refine (err_some 5 5 _ T13.out.has).mono ?_
          rintro e w14 ⟨rfl, hb14⟩
          have T14 := Hidden.mk (T13.out.below hb14)
          have F14 := Hidden.mk (F13.out.below hb14)
          have E14 := Hidden.mk (E13.out.below hb14)
          clear hb14 T13 F13 E13
          go_wp2_with fail
          refine (idrop_e _ n c ((k : Int) + 1) 5 _ (iget_no _ n c l k _ hln hRt.out hnc T14.out.rd hk HEN.out)).mono ?_
          rintro e w15 ⟨rfl, hb15⟩
          have T15 := Hidden.mk (T14.out.below hb15)
          have F15 := Hidden.mk (F14.out.below hb15)
          have E15 := Hidden.mk (E14.out.below hb15)
          clear hb15 T14 F14 E14
          go_wp2_with fail
          refine (err_some 5 5 _ T15.out.has).mono ?_
          rintro e w16 ⟨rfl, hb16⟩
          have HB := Hidden.mk (T15.out.below hb16).bel
          obtain ⟨x0, x1, x2, x3⟩ := F15.out.below hb16
          obtain ⟨y0, y1, y2, y3⟩ := E15.out.below hb16
          have z1 := conv_text w16 none 0 0 [] rfl Rd.nil_
          clear hb16 T15 F15 E15
          go_wp2_with fail
          go_ret
          exact ⟨rfl, HB.out⟩
        | true =>
          have HEN := Hidden.mk hE
          clear hE HEX
          have hF := fourAt_one w18 ((k : Int) + 1) b1 b2 b3 26
          obtain ⟨y0, y1, y2, y3⟩ := hF
          obtain ⟨u0, u1, u2, u3⟩ := F11.out
          have hfz : ∀ q, (w18.alloc (.cells #[.int .i64 ((k : Int) + 1), .int .i64 b1, .int .i64 b2, .int .i64 b3] 26)).frozen? ⟨P1, q, none⟩ = false := fun q => frozen_of_row _ P1 q _ _ HBK8.out
          have s1 : IntKind.i64.wrap (k : Int) = (k : Int) := IntWalk.i64_in _ (by omega)
          obtain ⟨o, ho⟩ : ∃ o : Nat, o = 5 * k := ⟨_, rfl⟩
          have s2 : IntKind.i64.wrap (5 * (k : Int)) = (o : Int) := by rw [IntWalk.i64_in _ (by omega)]; omega
          have HO := Hidden.mk ho
          clear ho
          go_wp2_with fail
          generalize hwA : w18.alloc (.cells #[.int .i64 ((k : Int) + 1), .int .i64 b1, .int .i64 b2, .int .i64 b3] 26) = wA at *
          have hwf : Hidden (wA.heap[P1]? = some (.cells #[.int .i64 0, .int .i64 0, .int .i64 0, .int .i64 0] 26 (0, 0))) := ⟨HBK8.out⟩
          have hB4 : Hidden (Below w16.heap.size w16 ((((wA.setCell ⟨P1, 0, none⟩ (.int .i64 ((k : Int) + 1))).setCell ⟨P1, 1, none⟩ (.int .i64 b1)).setCell ⟨P1, 2, none⟩ (.int .i64 b2)).setCell ⟨P1, 3, none⟩ (.int .i64 b3))) := ⟨by
            rw [HP1.out]
            exact (((HB18.out.setCell (p := ⟨P1, 0, none⟩) (Nat.le_refl _) _).setCell (p := ⟨P1, 1, none⟩) (Nat.le_refl _) _).setCell (p := ⟨P1, 2, none⟩) (Nat.le_refl _) _).setCell (p := ⟨P1, 3, none⟩) (Nat.le_refl _) _⟩
          have T := Hidden.mk (T16.out.below hB4.out)
          have F := Hidden.mk (four_set hwf.out ((k : Int) + 1) b1 b2 b3)
          clear hB4 hwf HBK8 HB18 T16 F11 T11 y0 y1 y2 y3 u0 u1 u2 u3 hfz hwA HP1
          generalize (((wA.setCell ⟨P1, 0, none⟩ (.int .i64 ((k : Int) + 1))).setCell ⟨P1, 1, none⟩ (.int .i64 b1)).setCell ⟨P1, 2, none⟩ (.int .i64 b2)).setCell ⟨P1, 3, none⟩ (.int .i64 b3) = w0 at *
          have HW := Hidden.mk (refWipe_ok pb ob n c l o 5 w0 hln (by omega) hl (by have := HO.out; omega) T.out.rd)
          have HS : Hidden (splice l o (List.replicate 5 0) = splice l (5 * k) (List.replicate 5 0)) := ⟨by rw [HO.out]⟩
          rw [HS.out] at HW
          clear HS
          have CD : Hidden (∀ W, Rd W (some ⟨pb, ob, none⟩) l → Calls Tryd.prog 26 #[.slice (some ⟨pb, ob, none⟩) n c, .int .i64 ((k : Int) + 1)] W fun e w' => ∃ g cap, e = .returned (.tuple #[.slice (some ⟨g, 0, none⟩) n cap, .nilIface]) ∧ W.heap.size ≤ g ∧ Row w' 5 g cap (splice l (5 * k) (List.replicate 5 0)) ∧ Below W.heap.size W w') := ⟨fun W hW => idrop_ok _ n c l k W hln hRt.out hnc hW hk HEN.out⟩
          have HLn : Hidden ((splice l (5 * k) (List.replicate 5 0)).length = n) := ⟨by rw [splice_len _ _ _ (by simp; omega)]; exact hln⟩
          generalize splice l (5 * k) (List.replicate 5 0) = L2 at *
          refine HW.out.mono ?_
          rintro e w1 ⟨g1, c1, rfl, -, -, hrow1, hb⟩
          have W1 := Hidden.mk hrow1.rd
          replace T := Hidden.mk (T.out.below hb)
          replace F := Hidden.mk (F.out.below hb)
          clear hb hrow1 HW
          go_wp2_with fail
          refine (CG.out _ T.out.rd HEN.out).mono ?_
          rintro e w_1 ⟨rfl, hb⟩
          replace T := Hidden.mk (T.out.below hb)
          replace F := Hidden.mk (F.out.below hb)
          replace W1 := Hidden.mk (W1.out.below hb)
          clear hb
          have E := Hidden.mk (fourAt_one (w_1) ((k : Int) + 1) b1 b2 b3 26)
          have hb_ := (Below.refl (w_1).heap.size (w_1)).alloc (Nat.le_refl _) (.cells #[.int .i64 ((k : Int) + 1), .int .i64 b1, .int .i64 b2, .int .i64 b3] 26)
          replace T := Hidden.mk (T.out.below hb_)
          replace F := Hidden.mk (F.out.below hb_)
          replace W1 := Hidden.mk (W1.out.below hb_)
          clear hb_
          go_wp2_with fail
          generalize (w_1).alloc (.cells #[.int .i64 ((k : Int) + 1), .int .i64 b1, .int .i64 b2, .int .i64 b3] 26) = w_2 at *
          go_wp2_with fail
          refine (err_nil 0 _).mono ?_
          rintro e w_3 ⟨rfl, hb⟩
          replace T := Hidden.mk (T.out.below hb)
          replace F := Hidden.mk (F.out.below hb)
          replace W1 := Hidden.mk (W1.out.below hb)
          replace E := Hidden.mk (E.out.below hb)
          clear hb
          go_wp2_with fail
          refine (CD.out _ T.out.rd).mono ?_
          rintro e w_4 ⟨g2, c2, rfl, -, hrow2, hb⟩
          replace T := Hidden.mk (T.out.below hb)
          replace F := Hidden.mk (F.out.below hb)
          replace W1 := Hidden.mk (W1.out.below hb)
          replace E := Hidden.mk (E.out.below hb)
          clear hb
          have W2 := Hidden.mk hrow2.rd
          clear hrow2
          go_wp2_with fail
          refine (err_nil 0 _).mono ?_
          rintro e w_5 ⟨rfl, hb⟩
          replace T := Hidden.mk (T.out.below hb)
          replace F := Hidden.mk (F.out.below hb)
          replace W1 := Hidden.mk (W1.out.below hb)
          replace E := Hidden.mk (E.out.below hb)
          replace W2 := Hidden.mk (W2.out.below hb)
          clear hb
          obtain ⟨x0, x1, x2, x3⟩ := F.out
          obtain ⟨y0, y1, y2, y3⟩ := E.out
          have z1 := conv_text (w_5) _ n c1 L2 HLn.out W1.out
          have z2 := conv_text (w_5) _ n c2 L2 HLn.out W2.out
          have HB := Hidden.mk T.out.bel
          clear T F W1 W2 E
          go_wp2_with fail
          go_ret
          exact ⟨rfl, HB.out⟩
end Go.Proofs.YtbcafgocachddaaDoor
