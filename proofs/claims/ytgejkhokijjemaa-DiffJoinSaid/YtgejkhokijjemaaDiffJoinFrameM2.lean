/- Contracts and plain laws, put together: DiffJ1, Open. -/
import Derived.Test.YtgejkhokijjemaaDiffJoinFrameM1
import Derived.Deep.DeepCutAuto
import Derived.Deep.CutBlock
import Derived.ProofKit
import Derived.OpenShut
import Derived.ShutString
import Derived.ChangeOld
import Derived.SizedLaws
import Derived.Lib.SmallJoins
/- DiffJoin: Diff of whatever lists; changes of the call's own behind one another. -/
namespace Go.Proofs.Ytgejkhokijjemaa
open Go.RowKit

theorem own_nats' {w : World} {base n : Nat} {v : Value} {O : List Nat} (h : w.ownsRow base 3 1 v n (O.map fun i : Nat => .int .i64 (i : Int))) :
    ∃ A c, v = .slice A n c ∧ ∀ k (hk : k < O.length), ∃ g off, A = some ⟨g, off, none⟩ ∧ w.cell? ⟨g, off + k, none⟩ = some (.int .i64 (O[k] : Int)) := by
  rcases h.2 with ⟨rfl, rfl⟩ | ⟨g, cap, cur, rfl, _, hh, hc, hm, hz, ht⟩
  · have hl := h.1
    simp only [List.length_map, Nat.zero_mul] at hl
    exact ⟨none, 0, rfl, fun k hk => by omega⟩
  · refine ⟨_, cap, rfl, fun k hk => ⟨g, 0, rfl, ?_⟩⟩
    have := h.cells (g := g) rfl k (.int .i64 (O[k] : Int)) (by simp [hk])
    rw [Addr.add_lit] at this
    exact this
def dE (a b : Bytes) : Nat := if a.length ≠ b.length then 3 else if 6400 < a.length then 4 else 0
def dL (a b : Bytes) : List Chg := if dE a b = 0 then diffL a b else []
theorem ownC_nil (w : World) (base : Nat) : OwnC w base (.slice none 0 0) [] := ⟨[], World.ownsRow_nil _ _ _ _, by simp⟩
theorem diff_all (A B : Option Addr) (n m c d : Nat) (a b : Bytes) (w : World) (hn : a.length = n) (hm : b.length = m) (hc : n ≤ c) (hd : m ≤ d) (ha : Rd w A a) (hb : Rd w B b) :
    Calls Try.prog 5 #[.slice A n c, .slice B m d] w fun e w' => ∃ v, e = .returned (.tuple #[v, errV (dE a b)]) ∧ OwnC w' w.heap.size v (dL a b) ∧ Below w.heap.size w w' := by
  by_cases h1 : a.length ≠ b.length
  · have e : dE a b = 3 := by unfold dE; rw [if_pos h1]
    unfold dL
    rw [e]
    refine (diff_e3 A B n m c d w (by omega)).mono ?_
    rintro e w' ⟨rfl, rfl⟩
    exact ⟨_, rfl, ownC_nil _ _, Below.refl _ _⟩
  · obtain rfl : m = n := by omega
    by_cases h2 : 6400 < a.length
    · have e : dE a b = 4 := by unfold dE; rw [if_neg h1, if_pos h2]
      unfold dL
      rw [e]
      refine (diff_e4 A B m c d w (by omega)).mono ?_
      rintro e w' ⟨rfl, rfl⟩
      exact ⟨_, rfl, ownC_nil _ _, Below.refl _ _⟩
    · have e : dE a b = 0 := by unfold dE; rw [if_neg h1, if_neg h2]
      unfold dL
      rw [e, if_pos rfl]
      refine (diff_ok A B m c d a b w hn hm (by omega) hc hd ha hb).mono ?_
      rintro e w' ⟨v, rfl, h, hb⟩
      exact ⟨v, rfl, h, hb⟩
section
variable {w w' : World} {base : Nat} {v : Value} {L : List Chg} {xs : List Value}
theorem chAt_one (h : xs.length = L.length * 3) (hat : ∀ i (h : i < L.length), ChAt w base xs i L[i]) : ∀ u ∈ xs, u.oneCell' = true := fun u hu => by
  obtain ⟨q, hq, rfl⟩ := List.mem_iff_getElem.1 hu
  obtain ⟨go, co, gn, cn, _, _, e0, e1, e2, _⟩ := hat (q / 3) (by omega)
  have hq3 : q = 3 * (q / 3) ∨ q = 3 * (q / 3) + 1 ∨ q = 3 * (q / 3) + 2 := by omega
  rcases hq3 with e | e | e
  · rw [← e, List.getElem?_eq_getElem hq] at e0
    rw [Option.some.inj e0]; rfl
  · rw [← e, List.getElem?_eq_getElem hq] at e1
    rw [Option.some.inj e1]; rfl
  · rw [← e, List.getElem?_eq_getElem hq] at e2
    rw [Option.some.inj e2]; rfl
theorem ChAt.below {i : Nat} {c : Chg} (h : ChAt w base xs i c) (hb : Below w.heap.size w w') : ChAt w' base xs i c := by
  obtain ⟨go, co, gn, cn, h1, h2, e0, e1, e2, r1, r2⟩ := h
  exact ⟨go, co, gn, cn, h1, h2, e0, e1, e2, r1.block (hb.block _ r1.lt), r2.block (hb.block _ r2.lt)⟩
theorem chAt_app {b2 : Nat} {ys : List Value} {M : List Chg} (h : xs.length = L.length * 3) (h1 : ∀ i (h : i < L.length), ChAt w base xs i L[i]) (h2 : ∀ i (h : i < M.length), ChAt w b2 ys i M[i]) (hb : base ≤ b2) :
    ∀ i (h : i < (L ++ M).length), ChAt w base (xs ++ ys) i (L ++ M)[i] := fun i hi => by
  rw [List.length_append] at hi
  by_cases hlt : i < L.length
  · obtain ⟨go, co, gn, cn, a1, a2, e0, e1, e2, r1, r2⟩ := h1 i hlt
    rw [List.getElem_append_left hlt]
    exact ⟨go, co, gn, cn, a1, a2, by rw [List.getElem?_append_left (by omega)]; exact e0, by rw [List.getElem?_append_left (by omega)]; exact e1, by rw [List.getElem?_append_left (by omega)]; exact e2, r1, r2⟩
  · obtain ⟨go, co, gn, cn, a1, a2, e0, e1, e2, r1, r2⟩ := h2 (i - L.length) (by omega)
    rw [List.getElem_append_right (by omega)]
    exact ⟨go, co, gn, cn, Nat.le_trans hb a1, Nat.le_trans hb a2, by rw [List.getElem?_append_right (by omega), show 3 * i - xs.length = 3 * (i - L.length) by omega]; exact e0, by rw [List.getElem?_append_right (by omega), show 3 * i + 1 - xs.length = 3 * (i - L.length) + 1 by omega]; exact e1, by rw [List.getElem?_append_right (by omega), show 3 * i + 2 - xs.length = 3 * (i - L.length) + 2 by omega]; exact e2, r1, r2⟩
end
/-- all changes of a list, as they lie -/
def AllAt (w : World) (base : Nat) (xs : List Value) (L : List Chg) : Prop := ∀ i (h : i < L.length), ChAt w base xs i L[i]
theorem AllAt.below {w w' : World} {base : Nat} {xs : List Value} {L : List Chg} (h : AllAt w base xs L) (hb : Below w.heap.size w w') : AllAt w' base xs L := fun i hi => (h i hi).below hb
theorem diffF_len (a b : Bytes) (f : Nat) : ∀ i, (diffF a b f i).length ≤ f := by
  induction f with
  | zero => intro i; simp [diffF]
  | succ f ih =>
    intro i
    simp only [diffF]
    split
    · rw [List.length_append]
      have := ih (i + runAt a b i + 1)
      split <;> simp <;> omega
    · simp
theorem cutP_rd {w : World} {A : Option Addr} {l : Bytes} (h : Rd w A l) (i : Nat) (hi : 32 * i < l.length) : Rd w (A.map (·.add (32 * i))) (cutP l i) := h.cut (32 * i) _ (by omega)
theorem cutP_len (l : Bytes) (i : Nat) (hi : 32 * i < l.length) : (cutP l i).length = min (32 * i + 32) l.length - 32 * i := by unfold cutP; simp; omega
set_option maxRecDepth 100000 in
set_option maxHeartbeats 2000000 in
theorem diffJoin_walk (A B C : Option Addr) (na nb nc ca cb cc : Nat) (a b c : Bytes) (w : World) (hna : a.length = na) (hnb : b.length = nb) (hnc : c.length = nc) (hca : na ≤ ca) (hcb : nb ≤ cb) (hcc : nc ≤ cc) (hra : Rd w A a) (hrb : Rd w B b) (hrc : Rd w C c) (hla : na ≤ 140737488351232) :
    Calls Try.prog 3 #[.slice A na ca, .slice B nb cb, .slice C nc cc] w fun e w' => e = .returned (.bool true) ∧ Below w.heap.size w w' := by
  have HNA := Hidden.mk hna
  have HNB := Hidden.mk hnb
  have HNC := Hidden.mk hnc
  have HRA := Hidden.mk hra
  have HRB := Hidden.mk hrb
  have HRC := Hidden.mk hrc
  have HD1 := Hidden.mk (diff_all A B na nb ca cb a b w hna hnb hca hcb hra hrb)
  clear hna hnb hnc hra hrb hrc
  go_enter Try.func3, Try.ntmps3
  go_wp2_with fail
  refine HD1.out.mono ?_
  rintro e w1 ⟨v1, rfl, ho1, hb1⟩
  have HB1 := Hidden.mk hb1
  obtain ⟨xs1, hw1, hx1⟩ := ho1
  have HX1 := Hidden.mk (And.intro hw1 (show AllAt w1 _ xs1 _ from hx1))
  have HD2 := Hidden.mk (diff_all B C nb nc cb cc b c w1 HNB.out HNC.out hcb hcc (HRB.out.below hb1) (HRC.out.below hb1))
  clear hb1 hw1 hx1 HD1
  go_wp2_with fail
  refine HD2.out.mono ?_
  rintro e w2 ⟨v2, rfl, ho2, hb2⟩
  have HB2 := Hidden.mk (HB1.out.trans (hb2.mono HB1.out.size))
  obtain ⟨xs2, hw2, hx2⟩ := ho2
  have HX1 := Hidden.mk (And.intro (own_below HX1.out.1 hb2) (HX1.out.2.below hb2))
  have HX2 := Hidden.mk (And.intro hw2 (show AllAt w2 _ xs2 _ from hx2))
  have HD3 := Hidden.mk (diff_all A C na nc ca cc a c w2 HNA.out HNC.out hca hcc (HRA.out.below HB2.out) (HRC.out.below HB2.out))
  have HS1 := Hidden.mk HB1.out.size
  clear hb2 hw2 hx2 HD2
  go_wp2_with fail
  refine HD3.out.mono ?_
  rintro e w3 ⟨v3, rfl, ho3, hb3⟩
  have HB3 := Hidden.mk (HB2.out.trans (hb3.mono HB2.out.size))
  have HX1 := Hidden.mk (And.intro (own_below HX1.out.1 hb3) (HX1.out.2.below hb3))
  have HX2 := Hidden.mk (And.intro (own_below HX2.out.1 hb3) (HX2.out.2.below hb3))
  obtain ⟨A3, c3, rfl, hc3, hm3, hrd3⟩ := ho3.rd
  obtain ⟨A1, c1, rfl, hc1, HSRC1⟩ := Src.of_own HX1.out.1
  obtain ⟨A2, c2, rfl, hc2, HSRC2⟩ := Src.of_own HX2.out.1
  have HR3 := Hidden.mk hrd3
  have HSR := Hidden.mk (And.intro HSRC1 HSRC2)
  have hc3n : (dL a c).length ≤ c3 := hc3
  clear ho3 hb3 hm3 hrd3 HD3 HSRC1 HSRC2 hc3 hc1 hc2
  have K : ∀ k : Nat, k ≠ 0 → errV k = .iface 53 (.int .i64 k) := fun k h => by unfold errV; rw [if_neg h]
  have HK := Hidden.mk K
  clear K
  have HE : Hidden (dL a b = (if dE a b = 0 then diffL a b else []) ∧ dL b c = (if dE b c = 0 then diffL b c else []) ∧ dL a c = (if dE a c = 0 then diffL a c else [])) := ⟨rfl, rfl, rfl⟩
  by_cases k1 : dE a b ≠ 0
  · rw [HK.out _ k1]
    generalize errV (dE b c) = ev2 at *
    generalize errV (dE a c) = ev3 at *
    clear k1
    go_wp2_with fail
    go_ret
    exact ⟨rfl, HB3.out⟩
  by_cases k2 : dE b c ≠ 0
  · rw [Decidable.not_not.1 k1, HK.out _ k2, show errV 0 = Value.nilIface from rfl]
    generalize errV (dE a c) = ev3 at *
    clear k1 k2
    go_wp2_with fail
    go_ret
    exact ⟨rfl, HB3.out⟩
  have z1 := Decidable.not_not.1 k1
  have z2 := Decidable.not_not.1 k2
  have hlen : a.length = b.length ∧ b.length = c.length ∧ a.length ≤ 6400 := by
    unfold dE at z1 z2
    by_cases h1 : a.length ≠ b.length
    · rw [if_pos h1] at z1; cases z1
    rw [if_neg h1] at z1
    by_cases h2 : 6400 < a.length
    · rw [if_pos h2] at z1; cases z1
    by_cases h3 : b.length ≠ c.length
    · rw [if_pos h3] at z2; cases z2
    omega
  have z3 : dE a c = 0 := by unfold dE; rw [if_neg (by omega), if_neg (by omega)]
  have HLEN := Hidden.mk hlen
  have HE := Hidden.mk (show dL a b = diffL a b ∧ dL b c = diffL b c ∧ dL a c = diffL a c from ⟨by rw [HE.out.1, if_pos z1], by rw [HE.out.2.1, if_pos z2], by rw [HE.out.2.2, if_pos z3]⟩)
  rw [z1, z2, z3, show errV 0 = Value.nilIface from rfl]
  clear k1 k2 z1 z2 z3 hlen
  have hl1 : (dL a b).length ≤ 6400 := by rw [HE.out.1]; exact Nat.le_trans (diffF_len a b _ 0) HLEN.out.2.2
  have hl2 : (dL b c).length ≤ 6400 := by rw [HE.out.2.1]; exact Nat.le_trans (diffF_len b c _ 0) (by have := HLEN.out; omega)
  have s1 : IntKind.i64.wrap (((dL a b).length : Int) + ((dL b c).length : Int)) = ((dL a b).length : Int) + ((dL b c).length : Int) := IntWalk.i64_in _ (by omega)
  by_cases hs : 200 < (dL a b).length + (dL b c).length
  · have t1 : decide (200 < ((dL a b).length : Int) + ((dL b c).length : Int)) = true := by simp; omega
    clear hs
    go_wp2_with fail
    go_ret
    exact ⟨rfl, HB3.out⟩
  have t1 : decide (200 < ((dL a b).length : Int) + ((dL b c).length : Int)) = false := by simp; omega
  by_cases hs3 : 200 < (dL a c).length
  · have t2 : decide (200 < ((dL a c).length : Int)) = true := by simp; omega
    have t3 : decide (200 < (dL a c).length) = true := by simpa using hs3
    clear hs hs3
    go_wp2_with fail
    go_ret
    exact ⟨rfl, HB3.out⟩
  have t2 : decide (200 < ((dL a c).length : Int)) = false := by simp; omega
  have t3 : decide (200 < (dL a c).length) = false := by simpa using hs3
  have hsum : (dL a b).length + (dL b c).length ≤ 200 := by omega
  have hs3' : (dL a c).length ≤ 200 := by omega
  clear hs hs3
  obtain ⟨i0, hi0, hz0, hz1, hz2⟩ := info_parts change_info
  have HONE := Hidden.mk (And.intro (chAt_one HX1.out.1.1 HX1.out.2) (chAt_one HX2.out.1.1 HX2.out.2))
  generalize hLa : dL a b = La at *
  generalize hLb : dL b c = Lb at *
  generalize hLc : dL a c = Lc at *
  have HLL := Hidden.mk (And.intro hLa (And.intro hLb hLc))
  clear hLa hLb hLc
  generalize hl1' : La.length = l1 at *
  generalize hl2' : Lb.length = l2 at *
  generalize hl3' : Lc.length = l3 at *
  have HL := Hidden.mk (And.intro hl1' (And.intro hl2' hl3'))
  clear hl1' hl2' hl3'
  go_wp2_with (first | (at_builtin; refine wpList_append_src _ rfl (.tmp 65) (.tmp 66) _ rfl (w3).heap.size 56 i0 _ 3 56 Try.underlying23 hi0 hz0 hz1 hz2 rfl (by decide) (.slice none 0 0) 0 [] rfl (World.ownsRow_nil _ _ _ _) A1 l1 c1 xs1 rfl HSR.out.1 HONE.out.1 (by simp only [maxLen]; omega) (by omega) (Nat.le_refl _) ?_; intro v8 w8 hown8 hg8 hat8; have hB8 := (Below.refl w3.heap.size w3).grown hg8 (Nat.le_refl _) (fun k hk => by simp [Value.ownBlock] at hk)) | (at_builtin; refine wpList_append_src _ rfl (.tmp 68) (.tmp 69) _ rfl (w3).heap.size 56 i0 _ 3 56 Try.underlying23 hi0 hz0 hz1 hz2 rfl (by decide) v8 l1 xs1 rfl (by simpa using hown8) A2 l2 c2 xs2 rfl (HSR.out.2.below hB8) HONE.out.2 (by simp only [maxLen]; omega) (by omega) hB8.size ?_; intro v9 w9 hown9 hg9 hat9; have hB9 := hB8.grown hg9 hB8.size (fun k hk => ((show w8.ownsRow _ _ _ v8 l1 xs1 by simpa using hown8).lt k hk).1)))
  have hown9' : w9.ownsRow w.heap.size 56 3 v9 (La ++ Lb).length (xs1 ++ xs2) := by
    rw [List.length_append, HL.out.1, HL.out.2.1]
    exact own_base' hown9 HB3.out.size
  have hat9 := chAt_app (by rw [HL.out.1]; exact HX1.out.1.1) (HX1.out.2.below hB9) (HX2.out.2.below hB9) HS1.out
  obtain ⟨A9, c9, rfl, hc9, -, hr9⟩ := OwnC.rd (show OwnC w9 w.heap.size v9 (La ++ Lb) from ⟨xs1 ++ xs2, hown9', hat9⟩)
  have hlab : (La ++ Lb).length = l1 + l2 := by rw [List.length_append, HL.out.1, HL.out.2.1]
  have HB9 := Hidden.mk (HB3.out.trans (hB9.mono HB3.out.size))
  have HB39 := Hidden.mk hB9
  have hnil : ∀ x y : Bytes, x.length = 0 → diffL x y = [] := fun x y h => List.eq_nil_of_length_eq_zero (by have := diffF_len x y x.length 0; unfold diffL; omega)
  have HAP := Hidden.mk (apply_fit A na ca a A9 (l1 + l2) c9 (La ++ Lb) w9 c HNA.out hla (HRA.out.below HB9.out) hlab hsum (by rw [← hlab]; exact hc9) hr9.rdg (fun h => by
    have h0 : a.length = 0 := by rw [h]; rfl
    have hl := HLEN.out
    rw [HE.out.1, HE.out.2.1, hnil a b h0, hnil b c (by omega)]; rfl) (by rw [HE.out.1, HE.out.2.1]; exact apply_join a b c HLEN.out.1 HLEN.out.2.1))
  rw [hlab]
  have HAN : Hidden (a = [] → Lc = []) := ⟨fun h => by rw [HE.out.2.2]; exact hnil a c (by rw [h]; rfl)⟩
  clear hown8 hg8 hat8 hB8 hown9 hg9 hat9 hB9 hown9' hc9 hr9 hlab hnil hi0 hz0 hz1 hz2 s1 t1 t2 t3
  refine HAP.out.mono ?_
  rintro e w10 ⟨A10, c10, rfl, hl10, hr10, hb10⟩
  have HB10 := Hidden.mk (HB9.out.trans (hb10.mono HB9.out.size))
  have HB310 := Hidden.mk (HB39.out.trans (hb10.mono HB39.out.size))
  have HRX := Hidden.mk hr10
  have HCL := Hidden.mk hl10
  have HAP2 := Hidden.mk (apply_fit A na ca a A3 l3 c3 Lc w10 c HNA.out hla (HRA.out.below HB10.out) HL.out.2.2 hs3' hc3n ((HR3.out.below HB310.out : RdC w10 A3 Lc).rdg) HAN.out (by rw [HE.out.2.2]; exact apply_diffL a c (by have := HLEN.out; omega)))
  clear hl10 hr10 hb10 HAP
  go_wp2_with fail
  refine HAP2.out.mono ?_
  rintro e w11 ⟨A11, c11, rfl, -, hr11, hb11⟩
  have HB11 := Hidden.mk (HB10.out.trans (hb11.mono HB10.out.size))
  have HRX := Hidden.mk (HRX.out.below hb11)
  have HRY := Hidden.mk hr11
  have HDP := Hidden.mk (dpages_ok A3 l3 c3 Lc w11 HL.out.2.2 (((HR3.out.below HB310.out).below hb11 : RdC w11 A3 Lc).rdg) (by rw [HE.out.2.2]; exact diffL_in a c (by have := HLEN.out; omega) HLEN.out.2.2) (by omega))
  clear hr11 hb11 HAP2
  go_wp2_with fail
  refine HDP.out.mono ?_
  rintro e w12 ⟨v12, S, rfl, hup, hmem, hown12, hb12⟩
  obtain ⟨A12, c12, rfl, hcell12⟩ := own_nats' hown12
  have HB12 := Hidden.mk (HB11.out.trans (hb12.mono HB11.out.size))
  have HRX := Hidden.mk (HRX.out.below hb12)
  have HRY := Hidden.mk (HRY.out.below hb12)
  have HC12 := Hidden.mk hcell12
  have HIN : Hidden (∀ i, 32 * i < na → (S.any (fun x => x == i)) = !(cutP a i == cutP c i)) := ⟨fun i hi => by
    rw [← tch_diff a c (by have := HLEN.out; omega) i (by rw [HNA.out]; exact hi)]
    rw [← HE.out.2.2]
    rw [Bool.eq_iff_iff, ← hmem i, List.any_eq_true]
    constructor
    · rintro ⟨x, hx, he⟩
      rw [← beq_iff_eq.1 he]; exact hx
    · intro h; exact ⟨i, h, by simp⟩⟩
  have HSL : Hidden (S.length ≤ 281474976710656) := ⟨by
    have := nodup_le 200 S (hup.imp fun {_ _} h => Nat.ne_of_lt h) (fun x hx => by
      have hx := (hmem x).1 hx
      rw [HE.out.2.2] at hx
      exact tchL_lt (diffL_in a c (by have := HLEN.out; omega) HLEN.out.2.2) hx)
    omega⟩
  clear hup
  have hn6 : na ≤ 6400 := by have := HLEN.out.2.2; rw [HNA.out] at this; exact this
  have hncna : nc = na := by have := HLEN.out; have := HNA.out; have := HNC.out; omega
  subst hncna
  clear hmem hown12 hcell12 hb12 HDP
  go_wp2_with fail
  go_loopg [20] 201 (fun r iv wx => ∃ i : Nat, i ≤ 200 ∧ r = 201 - i ∧ iv = .int .i64 (i : Int) ∧ Hidden (Below w12.heap.size w12 wx))
  case atStart => exact ⟨0, by omega, rfl, rfl, ⟨Below.refl _ _⟩⟩
  case round =>
    obtain ⟨i, hi, rfl, rfl, hbx⟩ := hrel
    have s2 : IntKind.i64.wrap (32 * (i : Int)) = 32 * (i : Int) := IntWalk.i64_in _ (by omega)
    have s3 : IntKind.i64.wrap ((i : Int) + 1) = (i : Int) + 1 := IntWalk.i64_in _ (by omega)
    have s4 : IntKind.i64.wrap (32 * (i : Int) + 32) = 32 * (i : Int) + 32 := IntWalk.i64_in _ (by omega)
    by_cases hlt : 32 * i < nc
    · have t1 : decide (32 * (i : Int) < nc) = true := by simp; omega
      have HBX := Hidden.mk (HB12.out.trans (hbx.out.mono HB12.out.size))
      have HB := Hidden.mk hbx.out
      have hra := HRA.out.below HBX.out
      have hrc := HRC.out.below HBX.out
      obtain ⟨pa, oa, rfl, -⟩ := hra.lt (by rw [HNA.out]; omega)
      obtain ⟨pc, oc, rfl, -⟩ := hrc.lt (by rw [HNC.out]; omega)
      have hka := cutP_rd hra i (by rw [HNA.out]; exact hlt)
      have hkc := cutP_rd hrc i (by rw [HNC.out]; exact hlt)
      have hla' := cutP_len a i (by rw [HNA.out]; exact hlt)
      have hlc' := cutP_len c i (by rw [HNC.out]; exact hlt)
      rw [HNA.out] at hla'
      rw [HNC.out] at hlc'
      rw [Option.map_some, Addr.add_lit] at hka hkc
      obtain ⟨tt, hto⟩ : ∃ tt, min (32 * i + 32) nc = tt := ⟨_, rfl⟩
      rw [hto] at hla' hlc'
      by_cases ht : nc < 32 * i + 32
      · have t2 : decide ((nc : Int) < 32 * (i : Int) + 32) = true := by simp; omega
        have hte : nc = tt := by omega
        have hsa := run_cut pa oa nc ca (32 * i) nc (by omega) (by omega) (by omega)
        have hsc := run_cut pc oc nc cc (32 * i) nc (by omega) (by omega) (by omega)
        simp only [Int.natCast_mul, Int.cast_ofNat_Int] at hsa hsc
        rw [← hte] at hla' hlc'
        have HK1 := Hidden.mk (fun W (hW : Below wr.heap.size wr W) => conv_text W (some ⟨pa, oa + 32 * i, none⟩) (nc - 32 * i) (ca - 32 * i) (cutP a i) hla' (hka.below hW))
        have HK2 := Hidden.mk (fun W (hW : Below wr.heap.size wr W) => conv_text W (some ⟨pc, oc + 32 * i, none⟩) (nc - 32 * i) (cc - 32 * i) (cutP c i) hlc' (hkc.below hW))
        have HI := Hidden.mk (HIN.out i hlt)
        clear hra hrc hka hkc hla' hlc' hbx hte
        generalize nc - 32 * i = dl at *
        clear hto
        go_wp2_with fail
        go_loopg [22, 23] S.length (fun r v22 kv wx => ∃ k : Nat, k ≤ S.length ∧ r = S.length - k ∧ v22 = .bool ((S.take k).any (fun x => x == i)) ∧ kv = .int .i64 (k : Int) ∧ wr = wx)
        case atStart => exact ⟨0, by omega, rfl, by simp, rfl, rfl⟩
        case round =>
          obtain ⟨k, hk, rfl, rfl, rfl, rfl⟩ := hrel
          by_cases hlt2 : k < S.length
          · obtain ⟨g, off, rfl, hc⟩ := HC12.out k hlt2
            have x0 := (HB.out.cell (p := ⟨g, off + k, none⟩) (block_lt_of_cell hc)).trans hc
            have k0 : (0 : Int) ≤ k := by omega
            have k1 : (k : Int) < S.length := by omega
            have hS200 : S.length ≤ 281474976710656 := HSL.out
            have s5 : IntKind.i64.wrap ((k : Int) + 1) = (k : Int) + 1 := IntWalk.i64_in _ (by omega)
            have HN : Hidden ((S.take (k + 1)).any (fun x => x == i) = ((S.take k).any (fun x => x == i) || (S[k] == i))) := ⟨by rw [List.take_succ_eq_append_getElem hlt2, List.any_append]; simp⟩
            generalize S[k] = q at *
            have HQ : Hidden (((q : Int) == (i : Int)) = (q == i)) := ⟨by
              by_cases h : q = i
              · subst h; simp
              · rw [beq_eq_false_iff_ne.2 h]; simp; omega⟩
            clear hc hS200
            cases hv : (S.take k).any (fun x => x == i) with
            | true =>
              rw [hv] at HN
              clear hv HQ
              go_wp2_with fail
              go_roundg (S.length - (k + 1))
              case measure => omega
              case rel => exact ⟨k + 1, by omega, rfl, by rw [HN.out]; rfl, by go_num, rfl⟩
            | false =>
              rw [hv] at HN
              clear hv
              cases he : (q == i) with
              | true =>
                rw [he] at HN HQ
                have y1 := HQ.out
                clear HQ
                go_wp2_with fail
                go_roundg (S.length - (k + 1))
                case measure => omega
                case rel => exact ⟨k + 1, by omega, rfl, by rw [HN.out]; rfl, by go_num, rfl⟩
              | false =>
                rw [he] at HN HQ
                have y1 := HQ.out
                clear HQ
                go_wp2_with fail
                go_roundg (S.length - (k + 1))
                case measure => omega
                case rel => exact ⟨k + 1, by omega, rfl, by rw [HN.out]; rfl, by go_num, rfl⟩
          · obtain rfl : k = S.length := by omega
            have t5 : decide ((S.length : Int) < S.length) = false := by simp
            have hti : (S.take S.length).any (fun x => x == i) = !(cutP a i == cutP c i) := by rw [List.take_of_length_le (Nat.le_refl _)]; exact HI.out
            rw [hti]
            clear hti
            have KC := Hidden.mk (And.intro (HK1.out wr (Below.refl _ _)) (HK2.out wr (Below.refl _ _)))
            have KD := Hidden.mk (And.intro (HK1.out wr.drew ((Below.refl _ _).drew)) (HK2.out wr.drew ((Below.refl _ _).drew)))
            have HBD : Hidden (Below w12.heap.size w12 wr.drew) := ⟨HB.out.drew⟩
            cases heq : (cutP a i == cutP c i) with
            | true =>
              go_upto_region 23 with (fail)
              go_region_held3 (fun W => (convert 22 9 (.slice (some ⟨pa, oa + 32 * i, none⟩) dl (ca - 32 * i))).run Try.prog W = .ok (sv (cutP a i)) W ∧ (convert 22 9 (.slice (some ⟨pc, oc + 32 * i, none⟩) dl (cc - 32 * i))).run Try.prog W = .ok (sv (cutP c i)) W) (first | exact KC.out | exact KD.out) (fail)
              all_goals
                go_wp2_with fail
                go_roundg (201 - (i + 1))
                case measure => omega
                case rel => exact ⟨i + 1, by omega, rfl, by go_num, HBD⟩
            | false =>
              go_upto_region 23 with (fail)
              go_region_held3 (fun W => (convert 22 9 (.slice (some ⟨pa, oa + 32 * i, none⟩) dl (ca - 32 * i))).run Try.prog W = .ok (sv (cutP a i)) W ∧ (convert 22 9 (.slice (some ⟨pc, oc + 32 * i, none⟩) dl (cc - 32 * i))).run Try.prog W = .ok (sv (cutP c i)) W) (first | exact KC.out | exact KD.out) (fail)
              all_goals
                go_wp2_with fail
                go_roundg (201 - (i + 1))
                case measure => omega
                case rel => exact ⟨i + 1, by omega, rfl, by go_num, HBD⟩
      · have t2 : decide ((nc : Int) < 32 * (i : Int) + 32) = false := by simp; omega
        have hte : 32 * i + 32 = tt := by omega
        have hsa := run_cut pa oa nc ca (32 * i) (32 * i + 32) (by omega) (by omega) (by omega)
        have hsc := run_cut pc oc nc cc (32 * i) (32 * i + 32) (by omega) (by omega) (by omega)
        simp only [Int.natCast_add, Int.natCast_mul, Int.cast_ofNat_Int] at hsa hsc
        rw [← hte] at hla' hlc'
        have HK1 := Hidden.mk (fun W (hW : Below wr.heap.size wr W) => conv_text W (some ⟨pa, oa + 32 * i, none⟩) (32 * i + 32 - 32 * i) (ca - 32 * i) (cutP a i) hla' (hka.below hW))
        have HK2 := Hidden.mk (fun W (hW : Below wr.heap.size wr W) => conv_text W (some ⟨pc, oc + 32 * i, none⟩) (32 * i + 32 - 32 * i) (cc - 32 * i) (cutP c i) hlc' (hkc.below hW))
        have HI := Hidden.mk (HIN.out i hlt)
        clear hra hrc hka hkc hla' hlc' hbx hte
        generalize 32 * i + 32 - 32 * i = dl at *
        clear hto
        go_wp2_with fail
        go_loopg [22, 23] S.length (fun r v22 kv wx => ∃ k : Nat, k ≤ S.length ∧ r = S.length - k ∧ v22 = .bool ((S.take k).any (fun x => x == i)) ∧ kv = .int .i64 (k : Int) ∧ wr = wx)
        case atStart => exact ⟨0, by omega, rfl, by simp, rfl, rfl⟩
        case round =>
          obtain ⟨k, hk, rfl, rfl, rfl, rfl⟩ := hrel
          by_cases hlt2 : k < S.length
          · obtain ⟨g, off, rfl, hc⟩ := HC12.out k hlt2
            have x0 := (HB.out.cell (p := ⟨g, off + k, none⟩) (block_lt_of_cell hc)).trans hc
            have k0 : (0 : Int) ≤ k := by omega
            have k1 : (k : Int) < S.length := by omega
            have hS200 : S.length ≤ 281474976710656 := HSL.out
            have s5 : IntKind.i64.wrap ((k : Int) + 1) = (k : Int) + 1 := IntWalk.i64_in _ (by omega)
            have HN : Hidden ((S.take (k + 1)).any (fun x => x == i) = ((S.take k).any (fun x => x == i) || (S[k] == i))) := ⟨by rw [List.take_succ_eq_append_getElem hlt2, List.any_append]; simp⟩
            generalize S[k] = q at *
            have HQ : Hidden (((q : Int) == (i : Int)) = (q == i)) := ⟨by
              by_cases h : q = i
              · subst h; simp
              · rw [beq_eq_false_iff_ne.2 h]; simp; omega⟩
            clear hc hS200
            cases hv : (S.take k).any (fun x => x == i) with
            | true =>
              rw [hv] at HN
              clear hv HQ
              go_wp2_with fail
              go_roundg (S.length - (k + 1))
              case measure => omega
              case rel => exact ⟨k + 1, by omega, rfl, by rw [HN.out]; rfl, by go_num, rfl⟩
            | false =>
              rw [hv] at HN
              clear hv
              cases he : (q == i) with
              | true =>
                rw [he] at HN HQ
                have y1 := HQ.out
                clear HQ
                go_wp2_with fail
                go_roundg (S.length - (k + 1))
                case measure => omega
                case rel => exact ⟨k + 1, by omega, rfl, by rw [HN.out]; rfl, by go_num, rfl⟩
              | false =>
                rw [he] at HN HQ
                have y1 := HQ.out
                clear HQ
                go_wp2_with fail
                go_roundg (S.length - (k + 1))
                case measure => omega
                case rel => exact ⟨k + 1, by omega, rfl, by rw [HN.out]; rfl, by go_num, rfl⟩
          · obtain rfl : k = S.length := by omega
            have t5 : decide ((S.length : Int) < S.length) = false := by simp
            have hti : (S.take S.length).any (fun x => x == i) = !(cutP a i == cutP c i) := by rw [List.take_of_length_le (Nat.le_refl _)]; exact HI.out
            rw [hti]
            clear hti
            have KC := Hidden.mk (And.intro (HK1.out wr (Below.refl _ _)) (HK2.out wr (Below.refl _ _)))
            have KD := Hidden.mk (And.intro (HK1.out wr.drew ((Below.refl _ _).drew)) (HK2.out wr.drew ((Below.refl _ _).drew)))
            have HBD : Hidden (Below w12.heap.size w12 wr.drew) := ⟨HB.out.drew⟩
            cases heq : (cutP a i == cutP c i) with
            | true =>
              go_upto_region 23 with (fail)
              go_region_held3 (fun W => (convert 22 9 (.slice (some ⟨pa, oa + 32 * i, none⟩) dl (ca - 32 * i))).run Try.prog W = .ok (sv (cutP a i)) W ∧ (convert 22 9 (.slice (some ⟨pc, oc + 32 * i, none⟩) dl (cc - 32 * i))).run Try.prog W = .ok (sv (cutP c i)) W) (first | exact KC.out | exact KD.out) (fail)
              all_goals
                go_wp2_with fail
                go_roundg (201 - (i + 1))
                case measure => omega
                case rel => exact ⟨i + 1, by omega, rfl, by go_num, HBD⟩
            | false =>
              go_upto_region 23 with (fail)
              go_region_held3 (fun W => (convert 22 9 (.slice (some ⟨pa, oa + 32 * i, none⟩) dl (ca - 32 * i))).run Try.prog W = .ok (sv (cutP a i)) W ∧ (convert 22 9 (.slice (some ⟨pc, oc + 32 * i, none⟩) dl (cc - 32 * i))).run Try.prog W = .ok (sv (cutP c i)) W) (first | exact KC.out | exact KD.out) (fail)
              all_goals
                go_wp2_with fail
                go_roundg (201 - (i + 1))
                case measure => omega
                case rel => exact ⟨i + 1, by omega, rfl, by go_num, HBD⟩
    · have t1 : decide (32 * (i : Int) < nc) = false := by simp; omega
      have HBX := Hidden.mk (HB12.out.trans (hbx.out.mono HB12.out.size))
      have hrx := HRX.out.below hbx.out
      have hry := HRY.out.below hbx.out
      have v1 := conv_text wr A10 nc c10 c HCL.out hrx
      have v2 := conv_text wr A11 nc c11 c HCL.out hry
      have v3 := conv_text wr C nc cc c HCL.out (HRC.out.below HBX.out)
      clear hrx hry hbx hlt
      go_wp2_with fail
      go_ret
      exact ⟨rfl, HBX.out⟩
end Go.Proofs.Ytgejkhokijjemaa
/- What comes in: arguments opened to the words of the text Base. No program in sight. -/
namespace Go.Proofs.Ytgejkhokijjemaa
open Go.RowKit Go.ChangeShapes Go.WideShapes Go.ChangeAt
open Go.ChangeMaps (open_string shut_string)

section
variable {H : Type} {enc : TypeId × Value → H} {P : Program} {w : World}
theorem wf_u8 {n : Int} (h : (Lit.int .u8 n).wf = true) : 0 ≤ n ∧ n ≤ 255 := by
  simpa [Lit.wf, IntKind.min, IntKind.max, IntKind.bits, IntKind.signed] using h
theorem wf_i64' {n : Int} (h : (Lit.int .i64 n).wf = true) : -9223372036854775808 ≤ n ∧ n ≤ 9223372036854775807 := by
  simpa [Lit.wf, IntKind.min, IntKind.max, IntKind.bits, IntKind.signed] using h

def toBytes (zs : List Int) : Bytes := zs.map fun z => UInt8.ofNat z.toNat
theorem toBytes_at {zs : List Int} (hz : ∀ n ∈ zs, (Lit.int .u8 n).wf = true) (j : Nat) (hj : j < zs.length) : .int .u8 (zs.getD j 0) = bv ((toBytes zs)[j]'(by simpa [toBytes] using hj)) := by
  have h1 : zs.getD j 0 = zs[j] := by simp [hj]
  have h2 := wf_u8 (hz _ (List.getElem_mem hj))
  have h3 : (zs[j].toNat % 256 : Nat) = zs[j].toNat := Nat.mod_eq_of_lt (by omega)
  rw [h1]
  simp only [toBytes, List.getElem_map, bv]
  congr 1
  rw [UInt8.toNat_ofNat', show 2 ^ 8 = 256 from rfl, h3]
  omega

/-- a slice of bytes that came in -/
theorem open_bytes {t e : TypeId} {v : Value} {d : DataW H} {ps : List MemPlace} {base : Nat} {r : Reach} (ht : P.underlying t = some (.slice e)) (he : P.underlying e = some (.int .u8)) (hc : P.cellsOf e = 1) (hb : P.bytesOf e = 1)
    (hv : Value.okWide P w r base t v) (h : DataW.Trod enc P w 0 (fun _ => true) true t v d ps) (hz : (d.weights P t).all (· ≤ reachBytes) = true) :
    ∃ (A : Option Addr) (c : Nat) (l : Bytes), v = .slice A l.length c ∧ l.length ≤ c ∧ c ≤ 140737488351232 ∧ Rd w A l := by
  obtain ⟨a0, len0, cap0, rfl⟩ := okWide_slice ht hv
  obtain ⟨fuel, hf⟩ := h
  rcases open_ints ht he hc hf with ⟨hcs, _⟩ | ⟨x, l, c, zs, hcs, _, hl, hm, hlen, hx, hcell, hwz⟩
  · simp [Value.cells] at hcs
    obtain ⟨rfl, rfl, rfl⟩ := hcs
    exact ⟨none, 0, [], rfl, by simp, by omega, Rd.nil_⟩
  · simp [Value.cells] at hcs
    obtain ⟨rfl, rfl, rfl⟩ := hcs
    simp only [Prod.mk.injEq] at hx
    obtain ⟨rfl, rfl⟩ := hx
    have hlen' : zs.length = cap0 := by simpa using hlen
    have hreach : cap0 ≤ 140737488351232 := by
      have := List.all_eq_true.1 hz ((zs.take len0).length * 1 + (zs.drop len0).length * 1) (by
        simp [DataW.weights, ht, hb, lits, Nat.mul_one, hlen'])
      have h2 := of_decide_eq_true this
      simp [hlen'] at h2
      have h3 : reachBytes = 140737488351232 := by decide
      omega
    have hlt : len0 ≤ zs.length := by omega
    refine ⟨some x, cap0, (toBytes zs).take len0, ?_, ?_, hreach, ?_⟩
    · simp [toBytes]; omega
    · simp [toBytes]; omega
    · intro j hj
      have hj' : j < len0 := by simp [toBytes] at hj; omega
      have hc0 := hcell j (by omega)
      obtain ⟨b, off, spot⟩ := x
      have hs : spot = none := by
        have hc1 := hcell 0 (by omega)
        simpa [Addr.add] using World.cell?_spot hc1
      subst hs
      refine ⟨b, off, rfl, ?_⟩
      rw [Addr.add_lit] at hc0
      rw [hc0, toBytes_at hwz j (by omega)]
      simp
/-- a text that came in -/
theorem open_str {t : TypeId} {v : Value} {d : DataW H} {ps : List MemPlace} {base : Nat} {r : Reach} (ht : P.underlying t = some .string)
    (hv : Value.okWide P w r base t v) (h : DataW.Trod enc P w 0 (fun _ => true) true t v d ps) (hz : (d.weights P t).all (· ≤ reachBytes) = true) :
    ∃ (s : Bytes), v = sv s ∧ s.length ≤ 140737488351232 := by
  obtain ⟨s, rfl, rfl, rfl, hs⟩ := open_string ht hv h
  refine ⟨s.data.toList, rfl, ?_⟩
  have h2 := of_decide_eq_true (List.all_eq_true.1 hz s.data.toList.length (by simp [DataW.weights]))
  have h3 : reachBytes = 140737488351232 := by decide
  omega
/-- a struct of four whole numbers that came in, the two in the middle a struct of their own -/
theorem open_entry {t : TypeId} {f0 f1 f2 g0 g1 : Field} {v : Value} {d : DataW H} {ps : List MemPlace} {base : Nat} {r : Reach} (hs : P.underlying t = some (.struct #[f0, f1, f2])) (hs1 : P.underlying f1.type = some (.struct #[g0, g1])) (hC : P.cellsOf t = 4)
    (o0 : f0.offset = 0 ∧ P.cellsOf f0.type = 1) (o1 : f1.offset = 1 ∧ P.cellsOf f1.type = 2) (o2 : f2.offset = 3 ∧ P.cellsOf f2.type = 1) (p0 : g0.offset = 0 ∧ P.cellsOf g0.type = 1) (p1 : g1.offset = 1 ∧ P.cellsOf g1.type = 1)
    (i0 : P.underlying f0.type = some (.int .i64)) (i1 : P.underlying g0.type = some (.int .i64)) (i2 : P.underlying g1.type = some (.int .i64)) (i3 : P.underlying f2.type = some (.int .i64))
    (hv : Value.okWide P w r base t v) (h : DataW.Trod enc P w 0 (fun _ => true) true t v d ps) :
    ∃ a b c e : Int, v = .agg #[.int .i64 a, .int .i64 b, .int .i64 c, .int .i64 e] ∧ (-9223372036854775808 ≤ a ∧ a ≤ 9223372036854775807) ∧ (-9223372036854775808 ≤ b ∧ b ≤ 9223372036854775807) ∧ (-9223372036854775808 ≤ c ∧ c ≤ 9223372036854775807) ∧ (-9223372036854775808 ≤ e ∧ e ≤ 9223372036854775807) := by
  obtain ⟨cs, rfl, hsz⟩ := okWide_struct hs hv
  obtain ⟨l⟩ := cs
  match l, hsz.trans hC with
  | [c0, c1, c2, c3], _ =>
    obtain ⟨fuel, hf⟩ := h
    obtain ⟨xs, n, _, hx, _, hlen, hg⟩ := DataW.trod_struct hs hf
    match xs, hlen with
    | [y0, y1, y2], _ =>
      have t0 : DataW.trod enc P w 0 (fun _ => true) true n f0.type [c0] = some y0 := by simpa [Value.cells, o0.1, o0.2] using hg 0 f0 rfl
      have t1 : DataW.trod enc P w 0 (fun _ => true) true n f1.type [c1, c2] = some y1 := by simpa [Value.cells, o1.1, o1.2] using hg 1 f1 rfl
      have t2 : DataW.trod enc P w 0 (fun _ => true) true n f2.type [c3] = some y2 := by simpa [Value.cells, o2.1, o2.2] using hg 2 f2 rfl
      obtain ⟨ys, n', _, hx', _, hlen', hg'⟩ := DataW.trod_struct hs1 t1
      match ys, hlen' with
      | [z0, z1], _ =>
        have u0 : DataW.trod enc P w 0 (fun _ => true) true n' g0.type [c1] = some z0 := by simpa [Value.cells, p0.1, p0.2] using hg' 0 g0 rfl
        have u1 : DataW.trod enc P w 0 (fun _ => true) true n' g1.type [c2] = some z1 := by simpa [Value.cells, p1.1, p1.2] using hg' 1 g1 rfl
        obtain ⟨a, ha, -, wa⟩ := DataW.trod_int i0 t0
        obtain ⟨b, hb, -, wb⟩ := DataW.trod_int i1 u0
        obtain ⟨c, hc, -, wc⟩ := DataW.trod_int i2 u1
        obtain ⟨e, he, -, we⟩ := DataW.trod_int i3 t2
        simp only [List.cons.injEq, and_true] at ha hb hc he
        subst ha hb hc he
        exact ⟨a, b, c, e, rfl, wf_i64' wa, wf_i64' wb, wf_i64' wc, wf_i64' we⟩
/-- a struct of a string and a whole number that came in -/
theorem open_root {t : TypeId} {f0 f1 : Field} {v : Value} {d : DataW H} {ps : List MemPlace} {base : Nat} {r : Reach} (hs : P.underlying t = some (.struct #[f0, f1])) (hone : Go.Deep.oneCellFields P #[f0, f1] = true) (hC : P.cellsOf t = 2)
    (i0 : P.underlying f0.type = some .string) (i1 : P.underlying f1.type = some (.int .i64))
    (hv : Value.okWide P w r base t v) (h : DataW.Trod enc P w 0 (fun _ => true) true t v d ps) (hz : (d.weights P t).all (· ≤ reachBytes) = true) :
    ∃ (s : Bytes) (b : Int), v = .agg #[sv s, .int .i64 b] ∧ s.length ≤ 140737488351232 ∧ (-9223372036854775808 ≤ b ∧ b ≤ 9223372036854775807) := by
  obtain ⟨v0, v1, y0, y1, n, rfl, rfl, -, t0, t1⟩ := Go.Joins.open_agg2 hs hone hC hv h
  obtain ⟨s, ha, hy, -⟩ := DataW.trod_string i0 t0
  obtain ⟨b, hb, -, wb⟩ := DataW.trod_int i1 t1
  simp only [List.cons.injEq, and_true] at ha hb
  subst ha hb hy
  have h2 := of_decide_eq_true (List.all_eq_true.1 hz s.data.toList.length (by simp [DataW.weights, hs, DataW.weightsEach]))
  have h3 : reachBytes = 140737488351232 := by decide
  exact ⟨s.data.toList, b, rfl, by omega, wf_i64' wb⟩
end
end Go.Proofs.Ytgejkhokijjemaa
