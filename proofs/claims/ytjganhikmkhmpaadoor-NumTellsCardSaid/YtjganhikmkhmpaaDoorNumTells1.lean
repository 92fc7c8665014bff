/- NumTells: the walk. -/
import Derived.Test.YtjganhikmkhmpaaDoorRefP
import Derived.Test.YtjganhikmkhmpaaDoorRefNm
import Derived.Test.YtjganhikmkhmpaaDoorNum4
import Derived.Test.YtjganhikmkhmpaaDoorTold3
import Derived.Deep.DeepCutAuto
namespace Go.Proofs.YtjganhikmkhmpaaDoor
open Go.RowKit

/-- the bytes of a name, or none; the fault -/
def nameF (s : Bytes) : Bytes := if isName s = true then nameB s else []
def nameE (s : Bytes) : Nat := if isName s = true then 0 else 2
theorem putName_any (s : Bytes) (w : World) (hs : s.length ≤ 140737488351232) :
    Calls Tryd.prog 24 #[sv s] w fun e w' => RowAns w w' e (nameF s) (errV (nameE s)) := by
  unfold nameF nameE
  cases h : isName s with
  | true =>
    rw [if_pos rfl, if_pos rfl]
    refine (putName_ok s w h).mono ?_
    rintro e w' ⟨g, rfl, hg, hrow, hb⟩
    have hl : (nameB s).length = 8 := by
      have h8 : s.length ≤ 8 := by simp [isName] at h; omega
      simp [nameB]; omega
    exact ⟨some ⟨g, 0, none⟩, 8, by rw [hl]; rfl, hrow.rd, hb⟩
  | false =>
    rw [if_neg (by simp), if_neg (by simp)]
    refine (putName_no s w hs h).mono ?_
    rintro e w' ⟨rfl, hb⟩
    exact ⟨none, 0, rfl, Rd.nil_, hb⟩
/-- the name of bytes, or none; the fault -/
def readF (l : Bytes) : Bytes := if l.length = 8 ∧ gotName l = true then nameAt l else []
def readE (l : Bytes) : Nat := if l.length = 8 then (if gotName l = true then 0 else 2) else 3
theorem getName_ans (A : Option Addr) (n c : Nat) (l : Bytes) (w : World) (hn : l.length = n) (hc : n ≤ c) (hr : Rd w A l) :
    Calls Tryd.prog 26 #[.slice A n c] w fun e w' => e = .returned (.tuple #[sv (readF l), errV (readE l)]) ∧ Below w.heap.size w w' := by
  unfold readF readE
  rw [hn]
  by_cases h8 : n = 8
  · subst h8
    refine (getName_any A c l w hn hc hr).mono ?_
    rintro e w' ⟨rfl, hb⟩
    cases h : gotName l with
    | true => simp [errV]; exact hb
    | false => simp [errV]; exact hb
  · rw [if_neg (fun h => h8 h.1), if_neg h8]
    refine (getName_e3 A n c w h8).mono ?_
    rintro e w' ⟨rfl, rfl⟩
    exact ⟨rfl, Below.refl _ _⟩
theorem refReadName_ans (A : Option Addr) (n c : Nat) (l : Bytes) (w : World) (hn : l.length = n) (hc : n ≤ c) (hr : Rd w A l) :
    Calls Tryd.prog 25 #[.slice A n c] w fun e w' => e = .returned (.tuple #[sv (readF l), .int .i64 (readE l)]) ∧ w = w' := by
  unfold readF readE
  rw [hn]
  by_cases h8 : n = 8
  · subst h8
    refine (refReadName_any A c l w hn hc hr).mono ?_
    rintro e w' ⟨rfl, rfl⟩
    cases h : gotName l with
    | true => simp
    | false => simp
  · rw [if_neg (fun h => h8 h.1), if_neg h8]
    exact refReadName_e3 A n c w h8
theorem sameL_end (a b : Bytes) (k : Nat) (h : a.take k = b.take k) (ha : k ≤ a.length) (hb : k ≤ b.length) (he : k = a.length ∨ k = b.length ∨ a[k]? ≠ b[k]?) : sameL a b = k := sameL_at k a b h ha hb he

set_option maxRecDepth 100000 in
set_option maxHeartbeats 1000000 in
theorem numTells_walk (A : Option Addr) (n c : Nat) (b : Bytes) (at_ x size : Int) (s : Bytes) (C : Option Addr) (m d : Nat) (cc : Bytes) (w : World) (hg : HasType w) (hn : b.length = n) (hnc : n ≤ c) (hl : n ≤ 140737488351232) (hA : Rd w A b) (hs : s.length ≤ 140737488351232) (hm : cc.length = m) (hmd : m ≤ d) (hl2 : m ≤ 140737488351232) (hC : Rd w C cc) :
    Calls Tryd.prog 4 #[.slice A n c, .int .i64 at_, .int .i64 x, .int .i64 size, sv s, .slice C m d] w fun e w' => e = .returned (.bool true) ∧ Below w.heap.size w w' := by
  go_enter Tryd.func4, Tryd.ntmps4
  go_wp2_with fail
  refine (refPut_any A n c b at_ x size _ hn hl hA).mono ?_
  rintro e w1 ⟨A1, c1, rfl, hr1, hb1⟩
  go_wp2_with fail
  refine (put_any A n c b at_ x size _ hn hl (hA.below hb1)).mono ?_
  rintro e w2 ⟨A2, c2, rfl, hr2, hb2'⟩
  generalize putF b at_ x size = L1 at *
  generalize putE n at_ x size = k1 at *
  have hb2 := hb1.trans (hb2'.mono hb1.size)
  have hr1' := hr1.below hb2'
  clear hr1 hb1 hb2'
  go_wp2_with fail
  refine (err_any k1 k1 _ (hg.below hg.lt hb2)).mono ?_
  rintro e w3 ⟨rfl, hb3'⟩
  rw [beq_self_eq_true]
  have hb3 := hb2.trans (hb3'.mono hb2.size)
  have q1 := hr1'.below hb3'
  have q2 := hr2.below hb3'
  clear hr1' hr2 hb3' hb2
  go_wp2_with fail
  refine (refGet_any A n c b at_ size _ hn hnc hl (hA.below hb3)).mono ?_
  rintro e w4 ⟨rfl, rfl⟩
  go_wp2_with fail
  refine (get_any A n c b at_ size _ hn hnc (by simp only [maxLen]; omega) (hA.below hb3)).mono ?_
  rintro e w4 ⟨rfl, rfl⟩
  generalize getF b at_ size = g1 at *
  generalize getE n at_ size = k2 at *
  go_wp2_with fail
  refine (err_any k2 k2 _ (hg.below hg.lt hb3)).mono ?_
  rintro e w4 ⟨rfl, hb4'⟩
  rw [beq_self_eq_true]
  have hb4 := hb3.trans (hb4'.mono hb3.size)
  have p1 := q1.below hb4'
  have p2 := q2.below hb4'
  clear q1 q2 hb4' hb3
  go_wp2_with fail
  refine (refName_any s _ hs).mono ?_
  rintro e w5 ⟨rfl, rfl⟩
  have NEXT : ∀ (A3 : Option Addr) (c3 : Nat) (W : World), Below w.heap.size w W → Rd W A3 (nameF s) → True := fun _ _ _ _ _ => trivial
  have HS8 : Hidden (isName s = true → s.length ≤ 8) := ⟨fun h => by simp [isName] at h; omega⟩
  have HNF : Hidden (∀ v, isName s = v → nameF s = if v = true then nameB s else []) := ⟨fun v hv => by unfold nameF; rw [hv]⟩
  have HNE : Hidden (∀ v, isName s = v → nameE s = if v = true then 0 else 2) := ⟨fun v hv => by unfold nameE; rw [hv]⟩
  have HPN : Hidden (∀ W : World, Calls Tryd.prog 24 #[sv s] W fun e w' => RowAns W w' e (nameF s) (errV (nameE s))) := ⟨fun W => putName_any s W hs⟩
  clear NEXT
  cases hnm : isName s with
  | true =>
    have hs8 := HS8.out hnm
    have hnl : (nameB s).length = 8 := by simp [nameB]; omega
    have e1 := HNF.out _ hnm
    have e2 := HNE.out _ hnm
    rw [if_pos rfl] at e1 e2
    clear hnm
    go_wp2_with fail
    refine (refNameB_ok s _ hs8).mono ?_
    rintro e w6 ⟨g6, rfl, hrow6, hb6'⟩
    have q6 := hrow6.rd
    have hB6 := hb4.trans (hb6'.mono hb4.size)
    have p1' := p1.below hb6'
    have p2' := p2.below hb6'
    clear hrow6 p1 p2 hb6'
    have p1 := p1'
    have p2 := p2'
    clear p1' p2'
    generalize hA6 : (some (⟨g6, 0, none⟩ : Addr)) = A6 at *
    clear hA6
    go_wp2_with fail
    refine (HPN.out _).mono ?_
    rintro e w7 ⟨A7, c7, rfl, q7, hb7'⟩
    rw [e1] at q7 ⊢
    rw [e2, hnl]
    have hB7 := hB6.trans (hb7'.mono hB6.size)
    have u1 := p1.below hb7'
    have u2 := p2.below hb7'
    have u6 := q6.below hb7'
    clear p1 p2 q6 hb7' hB6 HPN HNF HNE HS8
    go_wp2_with fail
    refine (err_any 0 0 _ (hg.below hg.lt hB7)).mono ?_
    rintro e w8 ⟨rfl, hb8'⟩
    rw [show (((0 : Nat) : Int) == 0) = true from rfl]
    have hB8 := hB7.trans (hb8'.mono hB7.size)
    have x1 := u1.below hb8'
    have x2 := u2.below hb8'
    have x6 := u6.below hb8'
    have x7 := q7.below hb8'
    clear u1 u2 u6 q7 hb8' hB7
    go_wp2_with fail
    refine (refReadName_ans C m d cc _ hm hmd (hC.below hB8)).mono ?_
    rintro e w9 ⟨rfl, rfl⟩
    go_wp2_with fail
    refine (getName_ans C m d cc _ hm hmd (hC.below hB8)).mono ?_
    rintro e w9 ⟨rfl, hb9'⟩
    generalize readF cc = RF at *
    generalize readE cc = RE at *
    have hB9 := hB8.trans (hb9'.mono hB8.size)
    have v1 := x1.below hb9'
    have v2 := x2.below hb9'
    have v6 := x6.below hb9'
    have v7 := x7.below hb9'
    clear x1 x2 x6 x7 hb9' hB8
    go_wp2_with fail
    refine (err_any RE RE _ (hg.below hg.lt hB9)).mono ?_
    rintro e w10 ⟨rfl, hb10'⟩
    rw [beq_self_eq_true]
    have hB10 := hB9.trans (hb10'.mono hB9.size)
    have y1 := v1.below hb10'
    have y2 := v2.below hb10'
    have y6 := v6.below hb10'
    have y7 := v7.below hb10'
    have hA10 := hA.below hB10
    have hC10 := hC.below hB10
    clear v1 v2 v6 v7 hb10' hB9 hA hC hg hb4
    go_wp2_with fail
    go_loopw [28] (fun kv wr => (∃ nq, wr = w10.drewN nq) ∧ ∃ k : Nat, k ≤ n ∧ k ≤ m ∧ kv = .int .i64 k ∧ Hidden (b.take k = cc.take k)) (fun kv _ => n - (intOf kv).toNat)
    case atStart => exact ⟨⟨0, rfl⟩, 0, Nat.zero_le _, Nat.zero_le _, rfl, ⟨by simp⟩⟩
    case round =>
      obtain ⟨⟨nq0, rfl⟩, k, hkn, hkm, rfl, hpre⟩ := hrel
      by_cases h1 : k < n
      · obtain ⟨p, off, rfl, hcp⟩ := hA10 k (by omega)
        have i1 : (k : Int) < n := by omega
        have i0 : (0 : Int) ≤ k := by omega
        by_cases h2 : k < m
        · obtain ⟨p2, off2, rfl, hcq⟩ := hC10 k (by omega)
          have i2 : (k : Int) < m := by omega
          by_cases he : b[k]'(by omega) = cc[k]'(by omega)
          · have hbq : ((b[k]'(by omega)).toNat : Int) = ((cc[k]'(by omega)).toNat : Int) := by rw [he]
            have hbq' : (((b[k]'(by omega)).toNat : Int) == ((cc[k]'(by omega)).toNat : Int)) = true := by rw [he]; simp
            have hpre' : Hidden (b.take (k + 1) = cc.take (k + 1)) := ⟨by rw [List.take_succ_eq_append_getElem (by omega), List.take_succ_eq_append_getElem (by omega), hpre.out, he]⟩
            clear he hpre hbq
            go_wp2_with fail
            go_quiet (fail)
            go_wp2_with fail
            go_roundw
            case rel => exact ⟨⟨_, rfl⟩, k + 1, by omega, by omega, by go_num, hpre'⟩
            case measure => simp [intOf]; omega
          · have hbq : (((b[k]'(by omega)).toNat : Int) == ((cc[k]'(by omega)).toNat : Int)) = false := by rw [bv_beq]; simpa using he
            have HNEQ : Hidden (b[k]? ≠ cc[k]?) := ⟨by rw [List.getElem?_eq_getElem (by omega), List.getElem?_eq_getElem (by omega)]; simpa using he⟩
            clear he
            go_wp2_with fail
            go_quiet (fail)
            rw [World.drewN_drewN]
            have HS : Hidden (sameL b cc = k) := ⟨sameL_end b cc k hpre.out (by omega) (by omega) (.inr (.inr HNEQ.out))⟩
            have hBZ : Below w.heap.size w (w10.drewN (nq0 + nq)) := below_drewN hB10 _
            have z1 := conv_text (w10.drewN (nq0 + nq)) A1 L1.length c1 L1 rfl (y1.drewN _)
            have z2 := conv_text (w10.drewN (nq0 + nq)) A2 L1.length c2 L1 rfl (y2.drewN _)
            have z6 := conv_text (w10.drewN (nq0 + nq)) A6 8 8 (nameB s) hnl (y6.drewN _)
            have z7 := conv_text (w10.drewN (nq0 + nq)) A7 8 c7 (nameB s) hnl (y7.drewN _)
            have xA : Rd (w10.drewN (nq0 + nq)) (some ⟨p, off, none⟩) b := hA10.drewN _
            have xC : Rd (w10.drewN (nq0 + nq)) (some ⟨p2, off2, none⟩) cc := hC10.drewN _
            clear hpre hA10 hC10 y1 y2 y6 y7 hB10
            generalize w10.drewN (nq0 + nq) = w11 at *
            go_wp2_with fail
            refine (same_any (some ⟨p, off, none⟩) (some ⟨p2, off2, none⟩) _ _ _ _ b cc _ hn hm (by simp only [maxLen]; omega) xA xC).mono ?_
            rintro e w12 ⟨rfl, n12, rfl⟩
            rw [HS.out]
            go_wp2_with fail
            go_ret
            exact ⟨rfl, below_drewN hBZ _⟩

        · obtain rfl : k = m := by omega
          go_wp2_with fail
          go_quiet (fail)
          rw [World.drewN_drewN]
          have HS : Hidden (sameL b cc = k) := ⟨sameL_end b cc k hpre.out (by omega) (by omega) (.inr (.inl (by omega)))⟩
          have hBZ : Below w.heap.size w (w10.drewN (nq0 + nq)) := below_drewN hB10 _
          have z1 := conv_text (w10.drewN (nq0 + nq)) A1 L1.length c1 L1 rfl (y1.drewN _)
          have z2 := conv_text (w10.drewN (nq0 + nq)) A2 L1.length c2 L1 rfl (y2.drewN _)
          have z6 := conv_text (w10.drewN (nq0 + nq)) A6 8 8 (nameB s) hnl (y6.drewN _)
          have z7 := conv_text (w10.drewN (nq0 + nq)) A7 8 c7 (nameB s) hnl (y7.drewN _)
          have xA : Rd (w10.drewN (nq0 + nq)) (some ⟨p, off, none⟩) b := hA10.drewN _
          have xC : Rd (w10.drewN (nq0 + nq)) C cc := hC10.drewN _
          clear hpre hA10 hC10 y1 y2 y6 y7 hB10
          generalize w10.drewN (nq0 + nq) = w11 at *
          go_wp2_with fail
          refine (same_any (some ⟨p, off, none⟩) C _ _ _ _ b cc _ hn hm (by simp only [maxLen]; omega) xA xC).mono ?_
          rintro e w12 ⟨rfl, n12, rfl⟩
          rw [HS.out]
          go_wp2_with fail
          go_ret
          exact ⟨rfl, below_drewN hBZ _⟩

      · obtain rfl : k = n := by omega
        go_wp2_with fail
        go_quiet (fail)
        rw [World.drewN_drewN]
        have HS : Hidden (sameL b cc = k) := ⟨sameL_end b cc k hpre.out (by omega) (by omega) (.inl (by omega))⟩
        have hBZ : Below w.heap.size w (w10.drewN (nq0 + nq)) := below_drewN hB10 _
        have z1 := conv_text (w10.drewN (nq0 + nq)) A1 L1.length c1 L1 rfl (y1.drewN _)
        have z2 := conv_text (w10.drewN (nq0 + nq)) A2 L1.length c2 L1 rfl (y2.drewN _)
        have z6 := conv_text (w10.drewN (nq0 + nq)) A6 8 8 (nameB s) hnl (y6.drewN _)
        have z7 := conv_text (w10.drewN (nq0 + nq)) A7 8 c7 (nameB s) hnl (y7.drewN _)
        have xA : Rd (w10.drewN (nq0 + nq)) A b := hA10.drewN _
        have xC : Rd (w10.drewN (nq0 + nq)) C cc := hC10.drewN _
        clear hpre hA10 hC10 y1 y2 y6 y7 hB10
        generalize w10.drewN (nq0 + nq) = w11 at *
        go_wp2_with fail
        refine (same_any A C _ _ _ _ b cc _ hn hm (by simp only [maxLen]; omega) xA xC).mono ?_
        rintro e w12 ⟨rfl, n12, rfl⟩
        rw [HS.out]
        go_wp2_with fail
        go_ret
        exact ⟨rfl, below_drewN hBZ _⟩


  | false =>
    have e1 := HNF.out _ hnm
    have e2 := HNE.out _ hnm
    rw [if_neg (by simp)] at e1 e2
    clear hnm
    have hB6 := hb4
    have q6 : Rd _ none [] := Rd.nil_ (w := w4)
    obtain ⟨A6, hA6⟩ : ∃ A6 : Option Addr, none = A6 := ⟨_, rfl⟩
    rw [hA6] at q6
    have HA6 := Hidden.mk hA6
    clear hA6
    go_wp2_with fail
    refine (HPN.out _).mono ?_
    rintro e w7 ⟨A7, c7, rfl, q7, hb7'⟩
    rw [e1] at q7 ⊢
    rw [e2, List.length_nil]
    have hB7 := hB6.trans (hb7'.mono hB6.size)
    have u1 := p1.below hb7'
    have u2 := p2.below hb7'
    have u6 := q6.below hb7'
    clear p1 p2 q6 hb7' hB6 HPN HNF HNE HS8
    go_wp2_with fail
    refine (err_any 2 2 _ (hg.below hg.lt hB7)).mono ?_
    rintro e w8 ⟨rfl, hb8'⟩
    rw [show (((2 : Nat) : Int) == 2) = true from rfl]
    have hB8 := hB7.trans (hb8'.mono hB7.size)
    have x1 := u1.below hb8'
    have x2 := u2.below hb8'
    have x6 := u6.below hb8'
    have x7 := q7.below hb8'
    clear u1 u2 u6 q7 hb8' hB7
    go_wp2_with fail
    refine (refReadName_ans C m d cc _ hm hmd (hC.below hB8)).mono ?_
    rintro e w9 ⟨rfl, rfl⟩
    go_wp2_with fail
    refine (getName_ans C m d cc _ hm hmd (hC.below hB8)).mono ?_
    rintro e w9 ⟨rfl, hb9'⟩
    generalize readF cc = RF at *
    generalize readE cc = RE at *
    have hB9 := hB8.trans (hb9'.mono hB8.size)
    have v1 := x1.below hb9'
    have v2 := x2.below hb9'
    have v6 := x6.below hb9'
    have v7 := x7.below hb9'
    clear x1 x2 x6 x7 hb9' hB8
    go_wp2_with fail
    refine (err_any RE RE _ (hg.below hg.lt hB9)).mono ?_
    rintro e w10 ⟨rfl, hb10'⟩
    rw [beq_self_eq_true]
    have hB10 := hB9.trans (hb10'.mono hB9.size)
    have y1 := v1.below hb10'
    have y2 := v2.below hb10'
    have y6 := v6.below hb10'
    have y7 := v7.below hb10'
    have hA10 := hA.below hB10
    have hC10 := hC.below hB10
    clear v1 v2 v6 v7 hb10' hB9 hA hC hg hb4
    go_wp2_with fail
    go_loopw [28] (fun kv wr => (∃ nq, wr = w10.drewN nq) ∧ ∃ k : Nat, k ≤ n ∧ k ≤ m ∧ kv = .int .i64 k ∧ Hidden (b.take k = cc.take k)) (fun kv _ => n - (intOf kv).toNat)
    case atStart => exact ⟨⟨0, rfl⟩, 0, Nat.zero_le _, Nat.zero_le _, rfl, ⟨by simp⟩⟩
    case round =>
      obtain ⟨⟨nq0, rfl⟩, k, hkn, hkm, rfl, hpre⟩ := hrel
      by_cases h1 : k < n
      · obtain ⟨p, off, rfl, hcp⟩ := hA10 k (by omega)
        have i1 : (k : Int) < n := by omega
        have i0 : (0 : Int) ≤ k := by omega
        by_cases h2 : k < m
        · obtain ⟨p2, off2, rfl, hcq⟩ := hC10 k (by omega)
          have i2 : (k : Int) < m := by omega
          by_cases he : b[k]'(by omega) = cc[k]'(by omega)
          · have hbq : ((b[k]'(by omega)).toNat : Int) = ((cc[k]'(by omega)).toNat : Int) := by rw [he]
            have hbq' : (((b[k]'(by omega)).toNat : Int) == ((cc[k]'(by omega)).toNat : Int)) = true := by rw [he]; simp
            have hpre' : Hidden (b.take (k + 1) = cc.take (k + 1)) := ⟨by rw [List.take_succ_eq_append_getElem (by omega), List.take_succ_eq_append_getElem (by omega), hpre.out, he]⟩
            clear he hpre hbq
            go_wp2_with fail
            go_quiet (fail)
            go_wp2_with fail
            go_roundw
            case rel => exact ⟨⟨_, rfl⟩, k + 1, by omega, by omega, by go_num, hpre'⟩
            case measure => simp [intOf]; omega
          · have hbq : (((b[k]'(by omega)).toNat : Int) == ((cc[k]'(by omega)).toNat : Int)) = false := by rw [bv_beq]; simpa using he
            have HNEQ : Hidden (b[k]? ≠ cc[k]?) := ⟨by rw [List.getElem?_eq_getElem (by omega), List.getElem?_eq_getElem (by omega)]; simpa using he⟩
            clear he
            go_wp2_with fail
            go_quiet (fail)
            rw [World.drewN_drewN]
            have HS : Hidden (sameL b cc = k) := ⟨sameL_end b cc k hpre.out (by omega) (by omega) (.inr (.inr HNEQ.out))⟩
            have hBZ : Below w.heap.size w (w10.drewN (nq0 + nq)) := below_drewN hB10 _
            have z1 := conv_text (w10.drewN (nq0 + nq)) A1 L1.length c1 L1 rfl (y1.drewN _)
            have z2 := conv_text (w10.drewN (nq0 + nq)) A2 L1.length c2 L1 rfl (y2.drewN _)
            have z6 := conv_text (w10.drewN (nq0 + nq)) none 0 0 [] rfl Rd.nil_
            have z7 := conv_text (w10.drewN (nq0 + nq)) A7 0 c7 [] rfl (y7.drewN _)
            have xA : Rd (w10.drewN (nq0 + nq)) (some ⟨p, off, none⟩) b := hA10.drewN _
            have xC : Rd (w10.drewN (nq0 + nq)) (some ⟨p2, off2, none⟩) cc := hC10.drewN _
            clear hpre hA10 hC10 y1 y2 y6 y7 hB10
            generalize w10.drewN (nq0 + nq) = w11 at *
            go_wp2_with fail
            refine (same_any (some ⟨p, off, none⟩) (some ⟨p2, off2, none⟩) _ _ _ _ b cc _ hn hm (by simp only [maxLen]; omega) xA xC).mono ?_
            rintro e w12 ⟨rfl, n12, rfl⟩
            rw [HS.out]
            go_wp2_with fail
            go_ret
            exact ⟨rfl, below_drewN hBZ _⟩

        · obtain rfl : k = m := by omega
          go_wp2_with fail
          go_quiet (fail)
          rw [World.drewN_drewN]
          have HS : Hidden (sameL b cc = k) := ⟨sameL_end b cc k hpre.out (by omega) (by omega) (.inr (.inl (by omega)))⟩
          have hBZ : Below w.heap.size w (w10.drewN (nq0 + nq)) := below_drewN hB10 _
          have z1 := conv_text (w10.drewN (nq0 + nq)) A1 L1.length c1 L1 rfl (y1.drewN _)
          have z2 := conv_text (w10.drewN (nq0 + nq)) A2 L1.length c2 L1 rfl (y2.drewN _)
          have z6 := conv_text (w10.drewN (nq0 + nq)) none 0 0 [] rfl Rd.nil_
          have z7 := conv_text (w10.drewN (nq0 + nq)) A7 0 c7 [] rfl (y7.drewN _)
          have xA : Rd (w10.drewN (nq0 + nq)) (some ⟨p, off, none⟩) b := hA10.drewN _
          have xC : Rd (w10.drewN (nq0 + nq)) C cc := hC10.drewN _
          clear hpre hA10 hC10 y1 y2 y6 y7 hB10
          generalize w10.drewN (nq0 + nq) = w11 at *
          go_wp2_with fail
          refine (same_any (some ⟨p, off, none⟩) C _ _ _ _ b cc _ hn hm (by simp only [maxLen]; omega) xA xC).mono ?_
          rintro e w12 ⟨rfl, n12, rfl⟩
          rw [HS.out]
          go_wp2_with fail
          go_ret
          exact ⟨rfl, below_drewN hBZ _⟩

      · obtain rfl : k = n := by omega
        go_wp2_with fail
        go_quiet (fail)
        rw [World.drewN_drewN]
        have HS : Hidden (sameL b cc = k) := ⟨sameL_end b cc k hpre.out (by omega) (by omega) (.inl (by omega))⟩
        have hBZ : Below w.heap.size w (w10.drewN (nq0 + nq)) := below_drewN hB10 _
        have z1 := conv_text (w10.drewN (nq0 + nq)) A1 L1.length c1 L1 rfl (y1.drewN _)
        have z2 := conv_text (w10.drewN (nq0 + nq)) A2 L1.length c2 L1 rfl (y2.drewN _)
        have z6 := conv_text (w10.drewN (nq0 + nq)) none 0 0 [] rfl Rd.nil_
        have z7 := conv_text (w10.drewN (nq0 + nq)) A7 0 c7 [] rfl (y7.drewN _)
        have xA : Rd (w10.drewN (nq0 + nq)) A b := hA10.drewN _
        have xC : Rd (w10.drewN (nq0 + nq)) C cc := hC10.drewN _
        clear hpre hA10 hC10 y1 y2 y6 y7 hB10
        generalize w10.drewN (nq0 + nq) = w11 at *
        go_wp2_with fail
        refine (same_any A C _ _ _ _ b cc _ hn hm (by simp only [maxLen]; omega) xA xC).mono ?_
        rintro e w12 ⟨rfl, n12, rfl⟩
        rw [HS.out]
        go_wp2_with fail
        go_ret
        exact ⟨rfl, below_drewN hBZ _⟩


end Go.Proofs.YtjganhikmkhmpaaDoor
