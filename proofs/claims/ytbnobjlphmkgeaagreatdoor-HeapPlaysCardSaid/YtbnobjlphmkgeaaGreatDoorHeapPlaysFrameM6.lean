/- Contracts and plain laws, put together: RefH1, RefH2, RefH3, RefS3, RefWy1, Reach5, RefWy2, RefWy3, Told, Told2, Told3, PlayDoes0, SameP, SameR, HeapPlays0, HeapPlaysC, HeapPlaysK1, HeapPlaysK2, HeapPlaysK3. -/
import Derived.Test.YtbnobjlphmkgeaaGreatDoorHeapPlaysFrameM5
import Derived.Test.YtbnobjlphmkgeaaGreatDoorHeapPlaysFrameM2
import Derived.Test.YtbnobjlphmkgeaaGreatDoorHeapPlaysFrameM4
import Derived.Test.YtbnobjlphmkgeaaGreatDoorHeapPlaysFrameM1
import Derived.Deep.LoopGhost
import Derived.Deep.RegionHeld3
import Derived.Test.YtbnobjlphmkgeaaGreatDoorHeapPlaysFrameM3
import Derived.LaidEql
import Derived.Stop.Asserts
import Derived.RowKitTokens
/- The reference's Free, Part, Write. -/
namespace Go.Proofs.YtbnobjlphmkgeaaGreatDoor
open Go.RowKit

/-- an answer: an image in a new row and no fault, or a fault -/
def ImAns (w w' : World) (e : Ending) (n k : Nat) (img : Bytes) : Prop :=
  Below w.heap.size w w' ∧ ((k = 0 ∧ ∃ g c', e = .returned (.tuple #[.slice (some ⟨g, 0, none⟩) n c', .int .i64 0]) ∧ n ≤ c' ∧ w.heap.size ≤ g ∧ Rd w' (some ⟨g, 0, none⟩) img) ∨ (k ≠ 0 ∧ e = .returned (.tuple #[.slice none 0 0, .int .i64 (k : Int)])))
theorem ImAns.bad {w w' : World} {e : Ending} {n k : Nat} {img : Bytes} (hb : Below w.heap.size w w') (hk : k ≠ 0) (he : e = .returned (.tuple #[.slice none 0 0, .int .i64 (k : Int)])) : ImAns w w' e n k img := ⟨hb, .inr ⟨hk, he⟩⟩
set_option maxRecDepth 100000 in
theorem rfree_all (p off n c : Nat) (l : Bytes) (x : Int) (w : World) (hn : l.length = n) (hg : Good l) (hnc : n ≤ c) (hrd : Rd w (some ⟨p, off, none⟩) l) :
    Calls Tryz.prog 14 #[.slice (some ⟨p, off, none⟩) n c, .int .i64 x] w fun e w' => ImAns w w' e n (freeE l x) (freeL l x) := by
  have hbd := hg.bd
  have hr : rightB n = true := rightB_true.2 (by omega)
  have HH := Hidden.mk (rhandle_any p off n c l x w hn hg hnc hrd)
  have HRO : Hidden (∀ W, Below w.heap.size w W → Calls Tryz.prog 71 #[.slice (some ⟨p, off, none⟩) n c] W fun e w' => ∃ v, e = .returned v ∧ w'.ownsRow W.heap.size 128 2 v (rootsL l).length ((rootsL l).flatMap rcells) ∧ Below W.heap.size W w') := ⟨fun W hW => refRoots_ok p off n c l W hn hr hnc (hrd.below hW)⟩
  by_cases h0 : hE l x = 0
  · obtain ⟨k, hk, rfl, hh, -⟩ := hE_zero h0
    have HE : Hidden (freeE l ((k : Int) + 1) = if (rootsL l).any (fun r => (r.2 : Int) == (k : Int) + 1) = true then 7 else 0) := ⟨by unfold freeE; rw [if_neg (by rw [h0]; simp)]⟩
    have HL : Hidden (freeE l ((k : Int) + 1) = 0 → freeL l ((k : Int) + 1) = splice l (5 * k) (List.replicate 5 0)) := ⟨fun h => by unfold freeL; rw [if_pos h, show ((k : Int) + 1 - 1).toNat = k by omega]⟩
    have HW : Hidden (∀ W, Below w.heap.size w W → Calls Tryz.prog 63 #[.slice (some ⟨p, off, none⟩) n c, .int .i64 ((5 * k : Nat) : Int), .int .i64 5] W fun e w' => ∃ g cap, e = .returned (.slice (some ⟨g, 0, none⟩) n cap) ∧ W.heap.size ≤ g ∧ n ≤ cap ∧ Row w' 5 g cap (splice l (5 * k) (List.replicate 5 0)) ∧ Below W.heap.size W w') := ⟨fun W hW => refWipe_ok p off n c l (5 * k) 5 W hn (by omega) (by omega) (by omega) (hrd.below hW)⟩
    have hle : (rootsL l).length ≤ 8 := rootsF_len _ _
    have s1 : IntKind.i64.wrap ((k : Int) + 1 - 1) = (k : Int) := by rw [IntWalk.i64_in _ (by omega)]; omega
    have s2 : IntKind.i64.wrap (5 * (k : Int)) = ((5 * k : Nat) : Int) := by rw [IntWalk.i64_in _ (by omega)]; omega
    rw [h0] at HH
    generalize splice l (5 * k) (List.replicate 5 0) = fl at *
    generalize freeL l ((k : Int) + 1) = fL at *
    generalize freeE l ((k : Int) + 1) = fe at *
    generalize rootsL l = L at *
    clear hn hg hrd h0 hh
    go_enter Tryz.func14, Tryz.ntmps14
    go_wp2_with fail
    refine HH.out.mono ?_
    rintro e w1 ⟨rfl, hb1⟩
    have HC := Hidden.mk (HRO.out _ hb1)
    have HB1 := Hidden.mk hb1
    clear hb1 HH HRO
    go_wp2_with fail
    refine HC.out.mono ?_
    rintro e w2 ⟨v, rfl, hown, hb2⟩
    obtain ⟨A3, c3, rfl, hc3, -⟩ := own_split hown
    have HRX := Hidden.mk (own_rdX3 (f := rcells) (fun _ => rfl) rfl hown)
    have HB := Hidden.mk (HB1.out.trans (hb2.mono HB1.out.size))
    clear hown hb2 HC HB1
    go_wp2_with fail
    go_loopg [8] L.length (fun q i wr => ∃ j : Nat, j ≤ L.length ∧ q = L.length - j ∧ i = .int .i64 (j : Int) ∧ w2 = wr ∧ Hidden (∀ y ∈ L.take j, ((y.2 : Int) == (k : Int) + 1) = false))
    case atStart => exact ⟨0, by omega, rfl, rfl, rfl, ⟨by simp⟩⟩
    case round =>
      obtain ⟨j, hj, rfl, rfl, rfl, hno⟩ := hrel
      by_cases hlt : j < L.length
      · obtain ⟨pp, oo, rfl, hcx⟩ := HRX.out j hlt
        have x0 := hcx 0 _ rfl
        have x1 := hcx 1 _ rfl
        rw [Nat.add_zero] at x0
        have k0 : (0 : Int) ≤ j := by omega
        have k1 : (j : Int) < L.length := by omega
        have s3 : IntKind.i64.wrap ((j : Int) + 1) = (j : Int) + 1 := IntWalk.i64_in _ (by omega)
        have HAT : Hidden (((L[j].2 : Int) == (k : Int) + 1) = true → fe = 7) := ⟨fun h => by rw [HE.out, if_pos (List.any_eq_true.2 ⟨L[j], List.getElem_mem _, h⟩)]⟩
        have HNX : Hidden (((L[j].2 : Int) == (k : Int) + 1) = false → ∀ y ∈ L.take (j + 1), ((y.2 : Int) == (k : Int) + 1) = false) := ⟨fun h => forall_take_succ' (p := fun y : Bytes × Nat => (y.2 : Int) == (k : Int) + 1) hlt hno.out h⟩
        generalize L[j] = y at *
        obtain ⟨ys, yh⟩ := y
        dsimp only at *
        clear hcx hno
        cases he : ((yh : Int) == (k : Int) + 1) with
        | true =>
          have HV := Hidden.mk (HAT.out he)
          clear HAT HNX HE HL HW
          go_wp2_with fail
          go_ret2
          exact .bad HB.out (by rw [HV.out]; decide) (by rw [HV.out]; rfl)
        | false =>
          have HV := Hidden.mk (HNX.out he)
          clear HAT HNX
          go_wp2_with fail
          go_roundg (L.length - (j + 1))
          case measure => omega
          case rel => exact ⟨j + 1, by omega, rfl, by go_num, rfl, HV⟩
      · obtain rfl : j = L.length := by omega
        have hno' := hno.out
        rw [List.take_of_length_le (Nat.le_refl _)] at hno'
        have HV : Hidden (fe = 0) := ⟨by rw [HE.out, if_neg]; rw [Bool.not_eq_true, List.any_eq_false]; intro y hy; rw [hno' y hy]; decide⟩
        have HF := Hidden.mk (HL.out HV.out)
        have HWC := Hidden.mk (HW.out _ HB.out)
        clear hno hno' HE HL HW
        go_wp2_with fail
        refine HWC.out.mono ?_
        rintro e w3 ⟨g, cap, rfl, hgn, hcap, hrow, hb3⟩
        have HFIN : Hidden (Below w.heap.size w w3 ∧ n ≤ cap ∧ w.heap.size ≤ g ∧ Rd w3 (some ⟨g, 0, none⟩) fl) := ⟨HB.out.trans (hb3.mono HB.out.size), hcap, Nat.le_trans HB.out.size hgn, hrow.rd⟩
        clear hgn hcap hrow hb3 HWC
        go_wp2_with fail
        go_ret2
        exact ⟨HFIN.out.1, .inl ⟨HV.out, g, cap, rfl, HFIN.out.2.1, HFIN.out.2.2.1, by rw [HF.out]; exact HFIN.out.2.2.2⟩⟩
  · have HE : Hidden (freeE l x = hE l x) := ⟨by unfold freeE; rw [if_pos h0]⟩
    have HZ := Hidden.mk h0
    generalize freeL l x = fL at *
    generalize freeE l x = fe at *
    have q1 : (((hE l x : Nat) : Int) != 0) = true := by simpa using h0
    have q2 : ((hE l x) != 0) = true := by simpa using h0
    generalize hE l x = he at *
    clear hn hg hrd h0 HRO
    go_enter Tryz.func14, Tryz.ntmps14
    go_wp2_with fail
    refine HH.out.mono ?_
    rintro e w1 ⟨rfl, hb1⟩
    have HB1 := Hidden.mk hb1
    clear hb1 HH
    go_wp2_with fail
    go_ret2
    exact .bad HB1.out (by rw [HE.out]; exact HZ.out) (by rw [HE.out]; rfl)
set_option maxRecDepth 100000 in
theorem rpart_all (p off n c : Nat) (l : Bytes) (x a m : Int) (w : World) (hn : l.length = n) (hg : Good l) (hnc : n ≤ c) (hrd : Rd w (some ⟨p, off, none⟩) l) :
    Calls Tryz.prog 26 #[.slice (some ⟨p, off, none⟩) n c, .int .i64 x, .int .i64 a, .int .i64 m] w fun e w' => e = .returned (.tuple #[.int .i64 (if someE l x a m = 0 then gA l x + a else 0), .int .i64 (someE l x a m : Int)]) ∧ Below w.heap.size w w' := by
  have hbd := hg.bd
  have HH := Hidden.mk (rhandle_any p off n c l x w hn hg hnc hrd)
  by_cases h0 : hE l x = 0
  · obtain ⟨k, hk, rfl, hh, hR⟩ := hE_zero h0
    have HEN : Hidden (∀ W, Below w.heap.size w W → Calls Tryz.prog 29 #[.slice (some ⟨p, off, none⟩) n c, .int .i64 ((k : Int) + 1)] W fun e w' => e = .returned (.tuple #[.agg #[.int .i64 ((k : Int) + 1), .int .i64 (rAt (rawE l k) : Int), .int .i64 (rLen (rawE l k) : Int), .int .i64 (rTag (rawE l k))], .bool (hasE (rawE l k))]) ∧ Below W.heap.size W w') := ⟨fun W hW => refEntry_ok _ n c l k W hn (by omega) hnc (hrd.below hW) hk⟩
    have hgA : gA l ((k : Int) + 1) = rAt (rawE l k) := by unfold gA; rw [if_pos h0, hR]
    have hgL : gL l ((k : Int) + 1) = rLen (rawE l k) := by unfold gL; rw [if_pos h0, hR]
    have hs := strayE_false (hg.s.fit k hk hh)
    have HE : Hidden (someE l ((k : Int) + 1) a m = if a < 0 ∨ m < 0 ∨ (rLen (rawE l k) : Int) < a ∨ (rLen (rawE l k) : Int) - a < m then 3 else 0) := ⟨by unfold someE; rw [if_neg (by rw [h0]; simp), hgL]⟩
    rw [hgA]
    rw [h0] at HH
    have ha2 : rAt (rawE l k) ≤ 6400 := by omega
    have hl2 : rLen (rawE l k) ≤ 6400 := by omega
    generalize someE l ((k : Int) + 1) a m = se at *
    generalize hasE (rawE l k) = hs at *
    generalize rTag (rawE l k) = a3 at *
    generalize rAt (rawE l k) = a1 at *
    generalize rLen (rawE l k) = a2 at *
    obtain ⟨val, hval⟩ : ∃ v : Int, (if se = 0 then (a1 : Int) + a else 0) = v := ⟨_, rfl⟩
    rw [hval]
    have HV := Hidden.mk hval
    clear hn hg hrd h0 hh hR hgA hgL hs hval
    go_enter Tryz.func26, Tryz.ntmps26
    go_wp2_with fail
    refine HH.out.mono ?_
    rintro e w1 ⟨rfl, hb1⟩
    have HC := Hidden.mk (HEN.out _ hb1)
    have HB1 := Hidden.mk hb1
    clear hb1 HH HEN
    go_wp2_with fail
    refine HC.out.mono ?_
    rintro e w2 ⟨rfl, hb2⟩
    have HB2 := Hidden.mk ((HB1.out.trans (hb2.mono HB1.out.size)).alloc (HB1.out.trans (hb2.mono HB1.out.size)).size (.cells #[.int .i64 ((k : Int) + 1), .int .i64 (a1 : Int), .int .i64 (a2 : Int), .int .i64 a3] 66))
    obtain ⟨f0, f1, f2, f3⟩ := fourAt_one w2 ((k : Int) + 1) (a1 : Int) (a2 : Int) a3 66
    clear hb2 HC HB1
    by_cases z1 : a < 0
    · have d1 : decide (a < 0) = true := by simpa using z1
      have HS : Hidden (se = 3) := ⟨by rw [HE.out, if_pos (.inl z1)]⟩
      clear z1 HE
      go_wp2_with fail
      go_ret2
      exact ⟨by rw [← HV.out, HS.out]; rfl, HB2.out⟩
    have d1 : decide (a < 0) = false := by simpa using z1
    by_cases z2 : m < 0
    · have d2 : decide (m < 0) = true := by simpa using z2
      have HS : Hidden (se = 3) := ⟨by rw [HE.out, if_pos (.inr (.inl z2))]⟩
      clear z1 z2 HE
      go_wp2_with fail
      go_ret2
      exact ⟨by rw [← HV.out, HS.out]; rfl, HB2.out⟩
    have d2 : decide (m < 0) = false := by simpa using z2
    by_cases z3 : (a2 : Int) < a
    · have d3 : decide ((a2 : Int) < a) = true := by simpa using z3
      have HS : Hidden (se = 3) := ⟨by rw [HE.out, if_pos (.inr (.inr (.inl z3)))]⟩
      clear z1 z2 z3 HE
      go_wp2_with fail
      go_ret2
      exact ⟨by rw [← HV.out, HS.out]; rfl, HB2.out⟩
    have d3 : decide ((a2 : Int) < a) = false := by simpa using z3
    have s1 : IntKind.i64.wrap ((a2 : Int) - a) = (a2 : Int) - a := IntWalk.i64_in _ (by omega)
    have s2 : IntKind.i64.wrap ((a1 : Int) + a) = (a1 : Int) + a := IntWalk.i64_in _ (by omega)
    by_cases z4 : (a2 : Int) - a < m
    · have d4 : decide ((a2 : Int) - a < m) = true := by simpa using z4
      have HS : Hidden (se = 3) := ⟨by rw [HE.out, if_pos (.inr (.inr (.inr z4)))]⟩
      clear z1 z2 z3 z4 HE
      go_wp2_with fail
      go_ret2
      exact ⟨by rw [← HV.out, HS.out]; rfl, HB2.out⟩
    have d4 : decide ((a2 : Int) - a < m) = false := by simpa using z4
    have HS : Hidden (se = 0) := ⟨by rw [HE.out, if_neg (by omega)]⟩
    clear z1 z2 z3 z4 HE
    go_wp2_with fail
    go_ret2
    exact ⟨by rw [← HV.out, HS.out]; rfl, HB2.out⟩
  · have HE : Hidden (someE l x a m = hE l x) := ⟨by unfold someE; rw [if_pos h0]⟩
    have HZ := Hidden.mk h0
    generalize gA l x = ga at *
    generalize someE l x a m = se at *
    have q1 : (((hE l x : Nat) : Int) != 0) = true := by simpa using h0
    have q2 : ((hE l x) != 0) = true := by simpa using h0
    generalize hE l x = he at *
    obtain ⟨val, hval⟩ : ∃ v : Int, (if se = 0 then ga + a else 0) = v := ⟨_, rfl⟩
    rw [hval]
    have HV := Hidden.mk hval
    clear hn hg hrd h0 hval
    go_enter Tryz.func26, Tryz.ntmps26
    go_wp2_with fail
    refine HH.out.mono ?_
    rintro e w1 ⟨rfl, hb1⟩
    have HB1 := Hidden.mk hb1
    clear hb1 HH
    go_wp2_with fail
    go_ret2
    exact ⟨by rw [← HV.out, HE.out, if_neg HZ.out]; rfl, HB1.out⟩
set_option maxRecDepth 100000 in
theorem rwrite_all (p off n c : Nat) (l : Bytes) (x a : Int) (BA : Option Addr) (m bc : Nat) (b : Bytes) (w : World) (hn : l.length = n) (hg : Good l) (hnc : n ≤ c) (hrd : Rd w (some ⟨p, off, none⟩) l) (hm : b.length = m) (hm2 : m ≤ 140737488351232) (hrb : Rd w BA b) :
    Calls Tryz.prog 16 #[.slice (some ⟨p, off, none⟩) n c, .int .i64 x, .int .i64 a, .slice BA m bc] w fun e w' => ImAns w w' e n (someE l x a m) (writeL l x a b) := by
  have hbd := hg.bd
  have HP := Hidden.mk (rpart_all p off n c l x a m w hn hg hnc hrd)
  have HWL : Hidden (writeL l x a b = if someE l x a m = 0 then splice l (gA l x + a).toNat b else l) := ⟨by unfold writeL; rw [hm]⟩
  by_cases h0 : someE l x a m = 0
  · obtain ⟨-, h1, h2, h3, h4, h5, h6, h7⟩ := some_in hg h0
    obtain ⟨k, hk⟩ := Int.eq_ofNat_of_zero_le (show 0 ≤ gA l x + a by omega)
    have hkm : k + m ≤ n := by omega
    have HW : Hidden (writeL l x a b = l.take k ++ b ++ l.drop (k + m)) := ⟨by
      rw [HWL.out, if_pos h0, hk, Int.toNat_natCast]
      simp [splice, hm]⟩
    rw [h0, if_pos rfl, hk] at HP
    have HZ := Hidden.mk h0
    generalize someE l x a m = se at *
    generalize writeL l x a b = wl at *
    have s1 : IntKind.i64.wrap ((k : Int) + m) = (k : Int) + m := IntWalk.i64_in _ (by omega)
    have hhd := run_headA (some ⟨p, off, none⟩) n c k (by omega)
    have htl0 := run_tailA (some ⟨p, off, none⟩) n c (k + m) hkm
    have htk : (l.take k).length = k := by rw [List.length_take]; omega
    have hdr : (l.drop (k + m)).length = n - (k + m) := by rw [List.length_drop]; omega
    have HS1 : Hidden (∀ W, Below w.heap.size w W → Src W 1 (some ⟨p, off, none⟩) k ((l.take k).map bv)) := ⟨fun W hW => by have := Src.of_rd ((hrd.below hW).take k (by omega)); rwa [htk] at this⟩
    have HS2 : Hidden (∀ W, Below w.heap.size w W → Src W 1 BA m (b.map bv)) := ⟨fun W hW => by have := Src.of_rd (hrb.below hW); rwa [hm] at this⟩
    obtain ⟨TA, htl, hs3⟩ : ∃ TA : Option Addr, (∀ W, (Instr.sliceAt 22 (.slice (some ⟨p, off, none⟩) n c) (some (.int .i64 ((k + m : Nat) : Int))) none none).run Tryz.prog W = .ok (.slice TA (n - (k + m)) (c - (k + m))) W) ∧ (∀ W, Below w.heap.size w W → Src W 1 TA (n - (k + m)) ((l.drop (k + m)).map bv)) := by
      refine ⟨_, htl0, fun W hW => ?_⟩
      have h := (hrd.below hW).cut (k + m) (n - (k + m)) (by omega)
      have e : (l.drop (k + m)).take (n - (k + m)) = l.drop (k + m) := List.take_of_length_le (by omega)
      rw [e] at h
      by_cases hc : c = k + m
      · have hz : l.drop (k + m) = [] := List.eq_nil_of_length_eq_zero (by omega)
        rw [if_pos hc, hz, show n - (k + m) = 0 by omega]
        exact ⟨by simp, fun j u hu => by simp at hu⟩
      · rw [if_neg hc]
        have := Src.of_rd h
        rwa [hdr] at this
    have HS3 := Hidden.mk hs3
    simp only [Int.natCast_add] at htl
    clear htl0 hs3
    have HLN : Hidden ((l.take k ++ b ++ l.drop (k + m)).length = n) := ⟨by rw [List.length_append, List.length_append, htk, hm, hdr]; omega⟩
    have hn64 : n ≤ 6400 := by omega
    have hn0 : 0 < n := by omega
    have hmk : m ≤ 6400 := by omega
    obtain ⟨i0, hi0, hz0, hz1, hz2⟩ := info_parts byte_info
    generalize l.take k = T1 at *
    generalize l.drop (k + m) = T3 at *
    clear hn hg hrd hm hrb h0 h1 h2 h3 h4 h5 h6 h7 hk HWL htk hdr
    go_enter Tryz.func16, Tryz.ntmps16
    go_wp2_with fail
    refine HP.out.mono ?_
    rintro e w1 ⟨rfl, hb1⟩
    have HB1 := Hidden.mk hb1
    clear hb1 HP
    go_wp2_with (first | (at_builtin; refine wpList_append_src _ rfl (.tmp 25) (.tmp 28) _ rfl w1.heap.size 5 i0 _ 1 1 Tryz.underlying22 hi0 hz0 hz1 hz2 rfl (by decide) (.slice none 0 0) 0 [] rfl (World.ownsRow_nil _ _ _ _) (some ⟨p, off, none⟩) k c (T1.map bv) rfl (HS1.out w1 HB1.out) one_bv (by simp only [maxLen]; omega) (by omega) (Nat.le_refl _) ?_; intro v5 w5 hown5 hg5 hat5; have hB5 := (Below.refl _ _).grown hg5 (Nat.le_refl _) (fun q hq => by simp [Value.ownBlock] at hq); have hO5 : w5.ownsRow w1.heap.size 5 1 v5 k (T1.map bv) := (by simpa using hown5)) | (at_builtin; refine wpList_append_src _ rfl (.tmp 30) (.tmp 31) _ rfl w1.heap.size 5 i0 _ 1 1 Tryz.underlying22 hi0 hz0 hz1 hz2 rfl (by decide) v5 k (T1.map bv) rfl hO5 BA m bc (b.map bv) rfl (HS2.out w5 (HB1.out.trans (hB5.mono HB1.out.size))) one_bv (by simp only [maxLen]; omega) (by omega) hB5.size ?_; intro v6 w6 hown6 hg6 hat6; have hB6 := hB5.grown hg6 hB5.size (fun q hq => (hO5.lt q hq).1)) | (at_builtin; refine wpList_append_src _ rfl (.tmp 33) (.tmp 39) _ rfl w1.heap.size 5 i0 _ 1 1 Tryz.underlying22 hi0 hz0 hz1 hz2 rfl (by decide) v6 (k + m) (T1.map bv ++ b.map bv) rfl hown6 TA (n - (k + m)) (c - (k + m)) (T3.map bv) rfl (HS3.out w6 (HB1.out.trans (hB6.mono HB1.out.size))) one_bv (by simp only [maxLen]; omega) (by omega) hB6.size ?_; intro v7 w7 hown7 hg7 hat7; have hB7 := hB6.grown hg7 hB6.size (fun q hq => (hown6.lt q hq).1)))
    have hoA : w7.ownsRow w1.heap.size 5 1 v7 n ((T1 ++ b ++ T3).map bv) := by
      rw [show k + m + (n - (k + m)) = n by omega] at hown7
      simpa using hown7
    obtain ⟨g, cap, rfl, hbg, hrow⟩ := row_of_owns hoA HLN.out hn0
    have HF : Hidden (Below w.heap.size w w7 ∧ w.heap.size ≤ g ∧ Row w7 5 g cap (T1 ++ b ++ T3)) := ⟨HB1.out.trans (hB7.mono HB1.out.size), Nat.le_trans HB1.out.size hbg, hrow⟩
    have hcap := hrow.le.1
    rw [HLN.out] at hcap
    clear hown5 hg5 hat5 hB5 hO5 hown6 hg6 hat6 hB6 hown7 hg7 hat7 hB7 hoA hbg hrow hi0 hz0 hz1 hz2
    go_ret2
    exact ⟨HF.out.1, .inl ⟨HZ.out, g, cap, rfl, hcap, HF.out.2.1, by rw [HW.out]; exact HF.out.2.2.rd⟩⟩
  · have HZ := Hidden.mk h0
    rw [if_neg h0] at HP
    have q1 : (((someE l x a m : Nat) : Int) != 0) = true := by simpa using h0
    have q2 : ((someE l x a m) != 0) = true := by simpa using h0
    generalize writeL l x a b = wl at *
    generalize someE l x a m = se at *
    clear hn hg hrd h0 HWL
    go_enter Tryz.func16, Tryz.ntmps16
    go_wp2_with fail
    refine HP.out.mono ?_
    rintro e w1 ⟨rfl, hb1⟩
    have HB1 := Hidden.mk hb1
    clear hb1 HP
    go_wp2_with fail
    go_ret2
    exact .bad HB1.out HZ.out rfl
end Go.Proofs.YtbnobjlphmkgeaaGreatDoor
/- The reference's place, Set, Unset. -/
namespace Go.Proofs.YtbnobjlphmkgeaaGreatDoor
open Go.RowKit

theorem gotName_zeros : gotName (List.replicate 8 0) = false := by decide
theorem nm_zero {r : Bytes} (hl : r.length = 11) (hz : zeroE r = true) : r.take 8 = List.replicate 8 0 := by
  unfold zeroE at hz
  rw [Bool.not_eq_true', List.any_eq_false] at hz
  apply List.ext_getElem
  · simp [hl]
  · intro i h1 h2
    rw [List.getElem_replicate, List.getElem_take]
    have hi : i < r.length := by rw [hl]; simp at h2; omega
    have := hz r[i] (List.getElem_mem hi)
    unfold nonZero at this
    simpa using this
/-- the first root of that name -/
theorem placeF_at {l s : Bytes} {k : Nat} (hk : k < 8) (hz : zeroE (rawR l k) = false) (hn : nmR (rawR l k) = s) (hb : ∀ q, q < k → zeroE (rawR l q) = false → nmR (rawR l q) ≠ s) : (placeF l s 8).1 = k := by
  rcases (placeF_spec l s 8 (Nat.le_refl _)).1 with ⟨_, h⟩ | ⟨i, _, h2, h3, h4, h5, h6⟩
  · exact absurd hn (h k (by omega) hk hz)
  · rcases Nat.lt_trichotomy i k with h | h | h
    · exact absurd h5 (hb i h h4)
    · rw [h3, h]
    · exact absurd hn (h6 k (by omega) h hz)
theorem placeF_no {l s : Bytes} (hb : ∀ q, q < 8 → zeroE (rawR l q) = false → nmR (rawR l q) ≠ s) : (placeF l s 8).1 = -1 := by
  rcases (placeF_spec l s 8 (Nat.le_refl _)).1 with ⟨h, _⟩ | ⟨i, _, h2, h3, h4, h5, h6⟩
  · exact h
  · exact absurd h5 (hb i h2 h4)
set_option maxRecDepth 100000 in
theorem rplace_any (p off n c : Nat) (l s : Bytes) (w : World) (hn : l.length = n) (hg : Good l) (hnc : n ≤ c) (hrd : Rd w (some ⟨p, off, none⟩) l) :
    Calls Tryz.prog 78 #[.slice (some ⟨p, off, none⟩) n c, sv s] w fun e w' => e = .returned (.int .i64 (placeF l s 8).1) ∧ w = w' := by
  have hbd := hg.bd
  have HRA : Hidden (∀ k : Nat, k < 8 → Calls Tryz.prog 80 #[.slice (some ⟨p, off, none⟩) n c, .int .i64 (k : Int)] w fun e w' => e = .returned (.slice (some ⟨p, off + (200 + 11 * k), none⟩) 11 (c - (200 + 11 * k))) ∧ w = w') := ⟨fun k hk => refRootAt_ok p off n c k w hk (by omega) hnc⟩
  have HNM : Hidden (∀ (k : Nat) (cc : Nat), k < 8 → 8 ≤ cc → Calls Tryz.prog 129 #[.slice (some ⟨p, off + (200 + 11 * k), none⟩) 8 cc] w fun e w' => e = .returned (.tuple (if gotName ((rawR l k).take 8) = true then #[sv (nmR (rawR l k)), .int .i64 0] else #[sv [], .int .i64 2])) ∧ w = w') := ⟨fun k cc hk hcc => by
    have hx := rawR_rd hrd k hk (by omega)
    rw [Option.map_some, Addr.add_lit] at hx
    have hl11 := rawR_len l k hk (by omega)
    exact refReadName_any _ cc ((rawR l k).take 8) w (by simp [hl11]) hcc (hx.take 8 (by rw [hl11]; omega))⟩
  have HGT : Hidden (∀ k : Nat, k < 8 → gotName ((rawR l k).take 8) = !zeroE (rawR l k)) := ⟨fun k hk => by
    cases hz : zeroE (rawR l k) with
    | true => rw [nm_zero (rawR_len l k hk (by omega)) hz, gotName_zeros]; rfl
    | false => rw [hg.got hk hz]; rfl⟩
  have HAT : Hidden (∀ k : Nat, k < 8 → zeroE (rawR l k) = false → nmR (rawR l k) = s → (∀ q, q < k → zeroE (rawR l q) = false → nmR (rawR l q) ≠ s) → (placeF l s 8).1 = k) := ⟨fun k h1 h2 h3 h4 => placeF_at h1 h2 h3 h4⟩
  have HNO : Hidden ((∀ q, q < 8 → zeroE (rawR l q) = false → nmR (rawR l q) ≠ s) → (placeF l s 8).1 = -1) := ⟨fun h => placeF_no h⟩
  generalize (placeF l s 8).1 = P at *
  have hc : 288 ≤ c := by omega
  clear hn hg hrd
  go_enter Tryz.func78, Tryz.ntmps78
  go_wp2_with fail
  go_loopg [5] 8 (fun q i wr => ∃ j : Nat, j ≤ 8 ∧ q = 8 - j ∧ i = .int .i64 (j : Int) ∧ w = wr ∧ Hidden (∀ q, q < j → zeroE (rawR l q) = false → nmR (rawR l q) ≠ s))
  case atStart => exact ⟨0, by omega, rfl, rfl, rfl, ⟨fun q hq => by omega⟩⟩
  case round =>
    obtain ⟨j, hj, rfl, rfl, rfl, hno⟩ := hrel
    by_cases hlt : j < 8
    · have d1 : decide ((j : Int) < 8) = true := by simp; omega
      have d1' : decide (j < 8) = true := by simpa using hlt
      have s3 : IntKind.i64.wrap ((j : Int) + 1) = (j : Int) + 1 := IntWalk.i64_in _ (by omega)
      have HR := Hidden.mk (HRA.out j hlt)
      have HN := Hidden.mk (fun cc hcc => HNM.out j cc hlt hcc)
      rw [HGT.out j hlt] at HN
      have HA := Hidden.mk (HAT.out j hlt)
      have HX : Hidden ((zeroE (rawR l j) = false → nmR (rawR l j) ≠ s) → ∀ q, q < j + 1 → zeroE (rawR l q) = false → nmR (rawR l q) ≠ s) := ⟨fun h q hq => by
        by_cases e : q = j
        · rw [e]; exact h
        · exact hno.out q (by omega)⟩
      have HB := Hidden.mk hno.out
      generalize hcc : c - (200 + 11 * j) = cc at *
      have hc11 : 11 ≤ cc := by omega
      generalize off + (200 + 11 * j) = oo at *
      have hr8 := run_cut p oo 11 cc 0 8 (by omega) (by omega) (by omega)
      rw [Nat.add_zero, Nat.sub_zero, Nat.sub_zero] at hr8
      generalize zeroE (rawR l j) = zz at *
      generalize nmR (rawR l j) = nm at *
      clear hno hcc
      go_wp2_with fail
      refine HR.out.mono ?_
      rintro e w1 ⟨rfl, rfl⟩
      cases zz with
      | true =>
        have HN8 := Hidden.mk (HN.out cc (by omega))
        rw [Bool.not_true, if_neg (by decide)] at HN8
        have HY := Hidden.mk (HX.out (fun h => by cases h))
        clear HN HA HX HR
        go_wp2_with fail
        refine HN8.out.mono ?_
        rintro e w2 ⟨rfl, rfl⟩
        go_wp2_with fail
        go_roundg (8 - (j + 1))
        case measure => omega
        case rel => exact ⟨j + 1, by omega, rfl, by go_num, rfl, HY⟩
      | false =>
        have HN8 := Hidden.mk (HN.out cc (by omega))
        rw [Bool.not_false, if_pos rfl] at HN8
        cases he : (nm == s) with
        | true =>
          have HP := Hidden.mk (HA.out rfl (by simpa using he) HB.out)
          clear HN HA HX HR
          go_wp2_with fail
          refine HN8.out.mono ?_
          rintro e w2 ⟨rfl, rfl⟩
          go_wp2_with fail
          go_ret
          exact ⟨by rw [HP.out]; rfl, rfl⟩
        | false =>
          have HY := Hidden.mk (HX.out (fun _ => by simpa using he))
          clear HN HA HX HR
          go_wp2_with fail
          refine HN8.out.mono ?_
          rintro e w2 ⟨rfl, rfl⟩
          go_wp2_with fail
          go_roundg (8 - (j + 1))
          case measure => omega
          case rel => exact ⟨j + 1, by omega, rfl, by go_num, rfl, HY⟩
    · obtain rfl : j = 8 := by omega
      have HP := Hidden.mk (HNO.out hno.out)
      have d1 : decide (((8 : Nat) : Int) < 8) = false := by decide
      clear hno
      go_wp2_with fail
      go_ret
      exact ⟨by rw [HP.out]; rfl, rfl⟩
set_option maxRecDepth 100000 in
theorem runset_all (p off n c : Nat) (l s : Bytes) (w : World) (hs : s.length ≤ 140737488351232) (hn : l.length = n) (hg : Good l) (hnc : n ≤ c) (hrd : Rd w (some ⟨p, off, none⟩) l) :
    Calls Tryz.prog 20 #[.slice (some ⟨p, off, none⟩) n c, sv s] w fun e w' => ImAns w w' e n (unE l s) (unL l s) := by
  have hbd := hg.bd
  have HN := Hidden.mk (refName_any s w hs)
  cases hnm : isName s with
  | false =>
    have HE : Hidden (unE l s = 2) := ⟨by unfold unE; rw [if_pos hnm]⟩
    rw [hnm] at HN
    generalize unL l s = uL at *
    generalize unE l s = uE at *
    clear hn hg hrd hnm
    go_enter Tryz.func20, Tryz.ntmps20
    go_wp2_with fail
    refine HN.out.mono ?_
    rintro e w1 ⟨rfl, rfl⟩
    go_wp2_with fail
    go_ret2
    exact .bad (Below.refl _ _) (by rw [HE.out]; decide) (by rw [HE.out]; rfl)
  | true =>
    rw [hnm] at HN
    have HP := Hidden.mk (rplace_any p off n c l s w hn hg hnc hrd)
    rcases (placeF_spec l s 8 (Nat.le_refl _)).1 with ⟨ha, _⟩ | ⟨i, _, hi, ha, _⟩
    · have HE : Hidden (unE l s = 5) := ⟨by unfold unE; rw [if_neg (by rw [hnm]; decide), if_pos (by rw [ha]; decide)]⟩
      rw [ha] at HP
      generalize unL l s = uL at *
      generalize unE l s = uE at *
      clear hn hg hrd hnm ha
      go_enter Tryz.func20, Tryz.ntmps20
      go_wp2_with fail
      refine HN.out.mono ?_
      rintro e w1 ⟨rfl, rfl⟩
      go_wp2_with fail
      refine HP.out.mono ?_
      rintro e w1 ⟨rfl, rfl⟩
      go_wp2_with fail
      go_ret2
      exact .bad (Below.refl _ _) (by rw [HE.out]; decide) (by rw [HE.out]; rfl)
    · have HE : Hidden (unE l s = 0) := ⟨by unfold unE; rw [if_neg (by rw [hnm]; decide), if_neg (by rw [ha]; omega)]⟩
      have HL : Hidden (unL l s = splice l (200 + 11 * i) (List.replicate 11 0)) := ⟨by unfold unL; rw [if_pos HE.out, ha, Int.toNat_natCast]⟩
      have HW := Hidden.mk (refWipe_ok p off n c l (200 + 11 * i) 11 w hn (by omega) (by omega) (by omega) hrd)
      have s1 : IntKind.i64.wrap (11 * (i : Int)) = 11 * (i : Int) := IntWalk.i64_in _ (by omega)
      have s2 : IntKind.i64.wrap (200 + 11 * (i : Int)) = ((200 + 11 * i : Nat) : Int) := by rw [IntWalk.i64_in _ (by omega)]; omega
      have d1 : decide ((i : Int) < 0) = false := by simp
      rw [ha] at HP
      generalize splice l (200 + 11 * i) (List.replicate 11 0) = uL' at *
      generalize unL l s = uL at *
      generalize unE l s = uE at *
      clear hn hg hrd hnm ha
      go_enter Tryz.func20, Tryz.ntmps20
      go_wp2_with fail
      refine HN.out.mono ?_
      rintro e w1 ⟨rfl, rfl⟩
      go_wp2_with fail
      refine HP.out.mono ?_
      rintro e w1 ⟨rfl, rfl⟩
      go_wp2_with fail
      refine HW.out.mono ?_
      rintro e w3 ⟨g, cap, rfl, hgn, hcap, hrow, hb3⟩
      have HFIN : Hidden (Below w.heap.size w w3 ∧ n ≤ cap ∧ w.heap.size ≤ g ∧ Rd w3 (some ⟨g, 0, none⟩) uL') := ⟨hb3, hcap, hgn, hrow.rd⟩
      clear hgn hcap hrow hb3 HW
      go_wp2_with fail
      go_ret2
      exact ⟨HFIN.out.1, .inl ⟨HE.out, g, cap, rfl, HFIN.out.2.1, HFIN.out.2.2.1, by rw [HL.out]; exact HFIN.out.2.2.2⟩⟩
end Go.Proofs.YtbnobjlphmkgeaaGreatDoor
/- The reference's Set. -/
namespace Go.Proofs.YtbnobjlphmkgeaaGreatDoor
open Go.RowKit

/-- what Set answers -/
def SetAnsR (w w' : World) (e : Ending) (n : Nat) (l s : Bytes) (x : Int) : Prop :=
  Below w.heap.size w w' ∧ ((setE l s x = 0 ∧ ∃ g c', e = .returned (.tuple #[.slice (some ⟨g, 0, none⟩) n c', .bool (decide ((placeF l s 8).1 < 0)), .int .i64 0]) ∧ n ≤ c' ∧ w.heap.size ≤ g ∧ Rd w' (some ⟨g, 0, none⟩) (setL l s x)) ∨ (setE l s x ≠ 0 ∧ e = .returned (.tuple #[.slice none 0 0, .bool false, .int .i64 (setE l s x : Int)])))
theorem SetAnsR.bad {w w' : World} {e : Ending} {n : Nat} {l s : Bytes} {x : Int} {k : Nat} (hb : Below w.heap.size w w') (hE : setE l s x = k) (hk : k ≠ 0) (he : e = .returned (.tuple #[.slice none 0 0, .bool false, .int .i64 (k : Int)])) : SetAnsR w w' e n l s x := ⟨hb, .inr ⟨by rw [hE]; exact hk, by rw [hE]; exact he⟩⟩
theorem placeF_free (l s : Bytes) (j : Nat) : (placeF l s (j + 1)).2 = if zeroE (rawR l (7 - j)) = true then ((7 - j : Nat) : Int) else (placeF l s j).2 := by
  rw [placeF]
  split
  · rfl
  · split <;> rfl
set_option maxRecDepth 100000 in
set_option maxHeartbeats 1000000 in
theorem rset_all (p off n c : Nat) (l s : Bytes) (x : Int) (w : World) (hs : s.length ≤ 140737488351232) (hn : l.length = n) (hg : Good l) (hnc : n ≤ c) (hrd : Rd w (some ⟨p, off, none⟩) l) :
    Calls Tryz.prog 18 #[.slice (some ⟨p, off, none⟩) n c, sv s, .int .i64 x] w fun e w' => SetAnsR w w' e n l s x := by
  have hbd := hg.bd
  have hr : rightB n = true := rightB_true.2 (by omega)
  have HN := Hidden.mk (refName_any s w hs)
  cases hnm : isName s with
  | false =>
    have HE : Hidden (setE l s x = 2) := ⟨by unfold setE; rw [if_pos hnm]⟩
    rw [hnm] at HN
    clear hn hg hrd hnm
    go_enter Tryz.func18, Tryz.ntmps18
    go_wp2_with fail
    refine HN.out.mono ?_
    rintro e w1 ⟨rfl, rfl⟩
    go_wp2_with fail
    go_ret3
    exact .bad (Below.refl _ _) HE.out (by decide) rfl
  | true =>
  rw [hnm] at HN
  have HH := Hidden.mk (rhandle_any p off n c l x w hn hg hnc hrd)
  by_cases h0 : hE l x = 0
  rotate_left
  · have HE : Hidden (setE l s x = hE l x) := ⟨by unfold setE; rw [if_neg (by rw [hnm]; decide), if_pos h0]⟩
    have HZ := Hidden.mk h0
    have q1 : (((hE l x : Nat) : Int) != 0) = true := by simpa using h0
    have q2 : ((hE l x) != 0) = true := by simpa using h0
    generalize hE l x = he at *
    clear hn hg hrd hnm h0
    go_enter Tryz.func18, Tryz.ntmps18
    go_wp2_with fail
    refine HN.out.mono ?_
    rintro e w1 ⟨rfl, rfl⟩
    go_wp2_with fail
    refine HH.out.mono ?_
    rintro e w1 ⟨rfl, hb1⟩
    have HB := Hidden.mk hb1
    clear hb1 HH
    go_wp2_with fail
    go_ret3
    exact .bad HB.out HE.out HZ.out rfl
  have hhb : handleB x = true := by
    obtain ⟨k, hk, rfl, -⟩ := hE_zero h0
    exact handleB_true.2 (by omega)
  rw [h0] at HH
  have HPL : Hidden (∀ W, Below w.heap.size w W → Calls Tryz.prog 78 #[.slice (some ⟨p, off, none⟩) n c, sv s] W fun e w' => e = .returned (.int .i64 (placeF l s 8).1) ∧ W = w') := ⟨fun W hW => rplace_any p off n c l s W hn hg hnc (hrd.below hW)⟩
  have HPR : Hidden (∀ (W : World) (k : Nat), k < 8 → Below w.heap.size w W → Calls Tryz.prog 81 #[.slice (some ⟨p, off, none⟩) n c, .int .i64 (k : Int), .agg #[sv s, .int .i64 x]] W fun e w' => ∃ g c', e = .returned (.tuple #[.slice (some ⟨g, 0, none⟩) n c', .int .i64 0]) ∧ n ≤ c' ∧ W.heap.size ≤ g ∧ Row w' 5 g c' (splice l (200 + 11 * k) (rootB s x)) ∧ Below W.heap.size W w') := ⟨fun W k hk hW => rputRoot_own p off n c l k s x W hs hn hr (hrd.below hW) hk hnm hhb⟩
  have HSE : Hidden (setE l s x = if setAt l s < 0 then 4 else 0) := ⟨by unfold setE; rw [if_neg (by rw [hnm]; decide), if_neg (by omega)]⟩
  have HSL : Hidden (∀ k : Nat, setAt l s = k → setL l s x = splice l (200 + 11 * k) (rootB s x)) := ⟨fun k hk => by
    have : setE l s x = 0 := by unfold setE; rw [if_neg (by rw [hnm]; decide), if_neg (by omega), if_neg (by omega)]
    unfold setL
    rw [if_pos this, hk, Int.toNat_natCast]⟩
  obtain ⟨p1, p2⟩ := placeF_spec l s 8 (Nat.le_refl _)
  rcases p1 with ⟨ha, _⟩ | ⟨i, _, hi, ha, _⟩
  rotate_left
  · have hsa : setAt l s = i := by unfold setAt; rw [if_neg (by omega)]; exact ha
    have HE : Hidden (setE l s x = 0) := ⟨by rw [HSE.out, hsa, if_neg (by omega)]⟩
    have HL := Hidden.mk (HSL.out i hsa)
    have HD : Hidden (decide ((placeF l s 8).1 < 0) = false) := ⟨by rw [ha]; simp⟩
    have HPC : Hidden (∀ W, Below w.heap.size w W → Calls Tryz.prog 78 #[.slice (some ⟨p, off, none⟩) n c, sv s] W fun e w' => e = .returned (.int .i64 (i : Int)) ∧ W = w') := ⟨fun W hW => by have := HPL.out W hW; rwa [ha] at this⟩
    have d1 : decide ((i : Int) < 0) = false := by simp
    clear hn hg hrd hnm h0 ha p2 hsa HPL HSE HSL hhb
    go_enter Tryz.func18, Tryz.ntmps18
    go_wp2_with fail
    refine HN.out.mono ?_
    rintro e w1 ⟨rfl, rfl⟩
    go_wp2_with fail
    refine HH.out.mono ?_
    rintro e w1 ⟨rfl, hb1⟩
    have HB := Hidden.mk hb1
    clear hb1 HH
    go_wp2_with fail
    refine (HPC.out _ HB.out).mono ?_
    rintro e w2 ⟨rfl, rfl⟩
    go_wp2_with fail
    go_loopg [11, 13] 0 (fun q iv kv wr => iv = .int .i64 (i : Int) ∧ kv = .int .i64 7 ∧ w1 = wr)
    case atStart => exact ⟨rfl, rfl, rfl⟩
    case round =>
      obtain ⟨rfl, rfl, rfl⟩ := hrel
      go_wp2_with fail
      refine (HPR.out _ i hi HB.out).mono ?_
      rintro e w3 ⟨g, cap, rfl, hcap, hgn, hrow, hb3⟩
      have HFIN : Hidden (Below w.heap.size w w3 ∧ n ≤ cap ∧ w.heap.size ≤ g ∧ Rd w3 (some ⟨g, 0, none⟩) (setL l s x)) := ⟨HB.out.trans (hb3.mono HB.out.size), hcap, Nat.le_trans HB.out.size hgn, by rw [HL.out]; exact hrow.rd⟩
      clear hgn hcap hrow hb3
      go_wp2_with fail
      go_ret3
      exact ⟨HFIN.out.1, .inl ⟨HE.out, g, cap, by rw [HD.out]; rfl, HFIN.out.2.1, HFIN.out.2.2.1, HFIN.out.2.2.2⟩⟩
  have hsa : setAt l s = (placeF l s 8).2 := by unfold setAt; rw [if_pos (by omega)]
  have HD : Hidden (decide ((placeF l s 8).1 < 0) = true) := ⟨by rw [ha]; decide⟩
  have HPC : Hidden (∀ W, Below w.heap.size w W → Calls Tryz.prog 78 #[.slice (some ⟨p, off, none⟩) n c, sv s] W fun e w' => e = .returned (.int .i64 (-1)) ∧ W = w') := ⟨fun W hW => by have := HPL.out W hW; rwa [ha] at this⟩
  rw [hsa] at HSE HSL
  have HP2 := Hidden.mk p2
  have HPF : Hidden (∀ j, (placeF l s (j + 1)).2 = if zeroE (rawR l (7 - j)) = true then ((7 - j : Nat) : Int) else (placeF l s j).2) := ⟨placeF_free l s⟩
  have HP0 : Hidden ((placeF l s 0).2 = -1) := ⟨rfl⟩
  have HRA : Hidden (∀ (W : World) (k : Nat), k < 8 → Calls Tryz.prog 80 #[.slice (some ⟨p, off, none⟩) n c, .int .i64 (k : Int)] W fun e w' => e = .returned (.slice (some ⟨p, off + (200 + 11 * k), none⟩) 11 (c - (200 + 11 * k))) ∧ W = w') := ⟨fun W k hk => refRootAt_ok p off n c k W hk (by omega) hnc⟩
  have HZO : Hidden (∀ (W : World) (k cc : Nat), k < 8 → Below w.heap.size w W → Calls Tryz.prog 79 #[.slice (some ⟨p, off + (200 + 11 * k), none⟩) 11 cc] W fun e w' => e = .returned (.bool (zeroE (rawR l k))) ∧ W = w') := ⟨fun W k cc hk hW => by
    have hx := rawR_rd (hrd.below hW) k hk (by omega)
    rw [Option.map_some, Addr.add_lit] at hx
    exact refZero_any _ 11 cc (rawR l k) W (rawR_len l k hk (by omega)) (by omega) hx⟩
  clear hn hg hrd hnm h0 ha hsa p2 HPL hhb
  go_enter Tryz.func18, Tryz.ntmps18
  go_wp2_with fail
  refine HN.out.mono ?_
  rintro e w1 ⟨rfl, rfl⟩
  go_wp2_with fail
  refine HH.out.mono ?_
  rintro e w1 ⟨rfl, hb1⟩
  have HB := Hidden.mk hb1
  clear hb1 HH
  go_wp2_with fail
  refine (HPC.out _ HB.out).mono ?_
  rintro e w2 ⟨rfl, rfl⟩
  go_wp2_with fail
  go_loopg [11, 13] 8 (fun q iv kv wr => ∃ j : Nat, j ≤ 8 ∧ q = 8 - j ∧ kv = .int .i64 (7 - (j : Int)) ∧ iv = .int .i64 (placeF l s j).2 ∧ w1 = wr)
  case atStart => exact ⟨0, by omega, rfl, rfl, by rw [HP0.out], rfl⟩
  case round =>
    obtain ⟨j, hj, rfl, rfl, rfl, rfl⟩ := hrel
    by_cases hlt : j < 8
    · obtain ⟨i, hi⟩ : ∃ i : Nat, i = 7 - j := ⟨_, rfl⟩
      have hii : (7 - (j : Int)) = (i : Int) := by omega
      have HPJ := Hidden.mk (HPF.out j)
      have s1 : IntKind.i64.wrap ((i : Int) - 1) = (i : Int) - 1 := IntWalk.i64_in _ (by omega)
      have t0 : decide (0 ≤ (i : Int)) = true := by simp
      have hi8 : i < 8 := by omega
      rw [hii]
      rw [← hi] at HPJ
      have HR := Hidden.mk (HRA.out w1 i hi8)
      have HZ := Hidden.mk (fun cc => HZO.out w1 i cc hi8 HB.out)
      have HI := Hidden.mk hi
      generalize c - (200 + 11 * i) = cc at *
      generalize off + (200 + 11 * i) = oo at *
      generalize zeroE (rawR l i) = zz at *
      clear hi hii
      go_wp2_with fail
      refine HR.out.mono ?_
      rintro e w2 ⟨rfl, rfl⟩
      go_wp2_with fail
      refine (HZ.out _).mono ?_
      rintro e w2 ⟨rfl, rfl⟩
      cases zz with
      | true =>
        have HQ : Hidden ((placeF l s (j + 1)).2 = (i : Int)) := ⟨by rw [HPJ.out]; rfl⟩
        clear HPJ HR HZ
        go_wp2_with fail
        go_roundg (8 - (j + 1))
        case measure => omega
        case rel => exact ⟨j + 1, by omega, rfl, by rw [show (7 - ((j + 1 : Nat) : Int)) = (i : Int) - 1 by have := HI.out; omega], by rw [HQ.out], rfl⟩
      | false =>
        have HQ : Hidden ((placeF l s (j + 1)).2 = (placeF l s j).2) := ⟨by rw [HPJ.out]; rfl⟩
        clear HPJ HR HZ
        go_wp2_with fail
        go_roundg (8 - (j + 1))
        case measure => omega
        case rel => exact ⟨j + 1, by omega, rfl, by rw [show (7 - ((j + 1 : Nat) : Int)) = (i : Int) - 1 by have := HI.out; omega], by rw [HQ.out], rfl⟩
    · obtain rfl : j = 8 := by omega
      have t0 : decide ((0 : Int) ≤ 7 - ((8 : Nat) : Int)) = false := by decide
      rcases HP2.out with ⟨hb, _⟩ | ⟨i, _, hi, hb, _⟩
      · have HE : Hidden (setE l s x = 4) := ⟨by rw [HSE.out, hb]; rfl⟩
        rw [hb]
        clear HSE HSL HP2 HPF hb
        go_wp2_with fail
        go_ret3
        exact .bad HB.out HE.out (by decide) rfl
      · have HE : Hidden (setE l s x = 0) := ⟨by rw [HSE.out, hb, if_neg (by omega)]⟩
        have HL := Hidden.mk (HSL.out i hb)
        have d1 : decide ((i : Int) < 0) = false := by simp
        rw [hb]
        clear HSE HSL HP2 HPF hb
        go_wp2_with fail
        refine (HPR.out _ i hi HB.out).mono ?_
        rintro e w3 ⟨g, cap, rfl, hcap, hgn, hrow, hb3⟩
        have HFIN : Hidden (Below w.heap.size w w3 ∧ n ≤ cap ∧ w.heap.size ≤ g ∧ Rd w3 (some ⟨g, 0, none⟩) (setL l s x)) := ⟨HB.out.trans (hb3.mono HB.out.size), hcap, Nat.le_trans HB.out.size hgn, by rw [HL.out]; exact hrow.rd⟩
        clear hgn hcap hrow hb3
        go_wp2_with fail
        go_ret3
        exact ⟨HFIN.out.1, .inl ⟨HE.out, g, cap, by rw [HD.out]; rfl, HFIN.out.2.1, HFIN.out.2.2.1, HFIN.out.2.2.2⟩⟩
end Go.Proofs.YtbnobjlphmkgeaaGreatDoor
/- The reference's Step of moving. -/
namespace Go.Proofs.YtbnobjlphmkgeaaGreatDoor
open Go.RowKit

def bH : Option Ent → Int
  | none => 0
  | some x => x.1
def bA : Option Ent → Nat
  | none => 0
  | some x => rAt x.2
def bL : Option Ent → Nat
  | none => 0
  | some x => rLen x.2
def bT : Option Ent → Int
  | none => 0
  | some x => rTag x.2
def FourB (w : World) (g : Nat) (a b c d : Int) : Prop := w.heap[g]? = some (.cells #[.int .i64 a, .int .i64 b, .int .i64 c, .int .i64 d] 66 (0, 0))
theorem FourB.get {w : World} {g : Nat} {a b c d : Int} (h : FourB w g a b c d) : FourAt w g a b c d ∧ ∀ q, w.frozen? ⟨g, q, none⟩ = false := by
  refine ⟨?_, fun q => frozen_of_row _ _ q _ _ h⟩
  unfold FourAt
  simp only [World.cell?]
  rw [h]
  exact ⟨rfl, rfl, rfl, rfl⟩
theorem FourB.set {w : World} {g : Nat} {a b c d : Int} (h : FourB w g a b c d) (x0 x1 x2 x3 : Int) :
    FourB ((((w.setCell ⟨g, 0, none⟩ (.int .i64 x0)).setCell ⟨g, 1, none⟩ (.int .i64 x1)).setCell ⟨g, 2, none⟩ (.int .i64 x2)).setCell ⟨g, 3, none⟩ (.int .i64 x3)) g x0 x1 x2 x3 := by
  have e0 : (w.setCell ⟨g, 0, none⟩ (.int .i64 x0)).heap[g]? = _ := heap_setK h _
  have e1 := heap_setK (k := 1) e0 (.int .i64 x1)
  have e2 := heap_setK (k := 2) e1 (.int .i64 x2)
  exact heap_setK (k := 3) e2 (.int .i64 x3)
theorem FourB.set1 {w : World} {g : Nat} {a b c d : Int} (h : FourB w g a b c d) (x : Int) : FourB (w.setCell ⟨g, 1, none⟩ (.int .i64 x)) g a x c d := heap_setK (k := 1) h _
/-- all but one block is as it was -/
abbrev But (g : Nat) (w w' : World) : Prop := Keep (fun k => k = g) w w'
theorem But.four {g : Nat} {w w' : World} (h : But g w w') (a b c d : Value) : But g w ((((w'.setCell ⟨g, 0, none⟩ a).setCell ⟨g, 1, none⟩ b).setCell ⟨g, 2, none⟩ c).setCell ⟨g, 3, none⟩ d) :=
  (((h.setCell (p := ⟨g, 0, none⟩) (.inl rfl) _).setCell (p := ⟨g, 1, none⟩) (.inl rfl) _).setCell (p := ⟨g, 2, none⟩) (.inl rfl) _).setCell (p := ⟨g, 3, none⟩) (.inl rfl) _
theorem own_far {X : Type} {f : X → List Value} {C : Nat} {w : World} {base : Nat} {e : TypeId} {A : Option Addr} {n c g : Nat} {L : List X} (hC : ∀ x, (f x).length = C) (hn : L.length = n) (h : w.ownsRow base e C (.slice A n c) n (L.flatMap f)) (hg : g < base) (W : World) (hW : But g w W) : RdX f C W A L := by
  refine (own_rdX3 hC hn h).block fun ad he hlt => hW.block _ hlt ?_
  rcases h.2 with ⟨he', _⟩ | ⟨g', cap, cur, he', hb, _⟩
  · injection he' with h1; rw [h1] at he; cases he
  · injection he' with h1
    rw [h1] at he
    have := Option.some.inj he
    subst this
    dsimp only; omega
set_option maxRecDepth 100000 in
set_option maxHeartbeats 1000000 in
theorem rstep_any (p off n c : Nat) (l : Bytes) (w : World) (hn : l.length = n) (hg : Good l) (hnc : n ≤ c) (hrd : Rd w (some ⟨p, off, none⟩) l) :
    Calls Tryz.prog 22 #[.slice (some ⟨p, off, none⟩) n c] w fun e w' => ∃ p' o' c', e = .returned (.tuple #[.slice (some ⟨p', o', none⟩) n c', .bool (stepB l)]) ∧ n ≤ c' ∧ (p' = p ∨ w.heap.size ≤ p') ∧ Rd w' (some ⟨p', o', none⟩) (stepL l) ∧ Below w.heap.size w w' := by
  have hbd := hg.bd
  have hr : rightB n = true := rightB_true.2 (by omega)
  have HE : Hidden (∀ W, Below w.heap.size w W → Calls Tryz.prog 85 #[.slice (some ⟨p, off, none⟩) n c] W fun e w' => ∃ v, e = .returned v ∧ w'.ownsRow W.heap.size 66 4 v (entriesL l).length ((entriesL l).flatMap ecells) ∧ Below W.heap.size W w') := ⟨fun W hW => refEntries_ok _ n c l W hn hr hnc (hrd.below hW)⟩
  have HO : Hidden (∀ (W : World) (k : Nat), k < 40 → Below w.heap.size w W → Calls Tryz.prog 86 #[.slice (some ⟨p, off, none⟩) n c, .int .i64 ((k : Int) + 1)] W fun e w' => e = .returned (.tuple #[.int .i64 (objT l k), sv (objS l k)]) ∧ Below W.heap.size W w') := ⟨fun W k hk hW => refObj_ok p off n c l k W hn hg hnc (hrd.below hW) hk⟩
  have HSL : Hidden (Stands l 0 288) := ⟨stands_start hg⟩
  have HGD := Hidden.mk hg
  have HRD := Hidden.mk hrd
  have HM : Hidden ((sortM l).length = (entriesL l).length) := ⟨(sortM_perm l).length_eq⟩
  have hle : (entriesL l).length ≤ 40 := entsL_len _ _ 40
  have HEM : Hidden (∀ x ∈ entriesL l, 1 ≤ x.1) := ⟨fun x hx => by
    obtain ⟨k, -, -, e⟩ := entL_mem.1 hx
    rw [e]; dsimp only; omega⟩
  have HLN := Hidden.mk hn
  generalize hm : (entriesL l).length = m at *
  have HMM := Hidden.mk hm
  clear hrd hg hr hm
  go_enter Tryz.func22, Tryz.ntmps22
  go_wp2_with fail
  go_loopg [4] m (fun q av wr => ∃ (k a : Nat), k ≤ m ∧ q = m - k ∧ av = .int .i64 (a : Int) ∧ a ≤ 140000 * (k + 1) ∧ Hidden (Stands l k a ∧ Below w.heap.size w wr))
  case atStart => exact ⟨0, 288, by omega, rfl, rfl, by omega, ⟨HSL.out, Below.refl _ _⟩⟩
  case round =>
    obtain ⟨k, a, hk, rfl, rfl, ha, hst⟩ := hrel
    have HST := Hidden.mk hst.out.1
    have HB0 : Hidden (Below w.heap.size w (wr.alloc (.cells #[.int .i64 0, .int .i64 0, .int .i64 0, .int .i64 0] 66)) ∧ w.heap.size ≤ wr.heap.size) := ⟨hst.out.2.alloc hst.out.2.size _, hst.out.2.size⟩
    have HBK0 : Hidden (FourB (wr.alloc (.cells #[.int .i64 0, .int .i64 0, .int .i64 0, .int .i64 0] 66)) wr.heap.size 0 0 0 0) := ⟨heap_alloc_new wr _⟩
    clear hst
    go_wp2_with fail
    have HSZ : Hidden ((wr.alloc (.cells #[.int .i64 0, .int .i64 0, .int .i64 0, .int .i64 0] 66)).heap.size = wr.heap.size + 1) := ⟨by simp⟩
    generalize wr.alloc (.cells #[.int .i64 0, .int .i64 0, .int .i64 0, .int .i64 0] 66) = wa at *
    generalize wr.heap.size = bb at *
    refine (HE.out wa HB0.out.1).mono ?_
    rintro e w1 ⟨v, rfl, hown, hb1⟩
    obtain ⟨A1, c1, rfl, hc1, -⟩ := own_split hown
    have HR : Hidden (∀ W, But bb w1 W → RdX ecells 4 W A1 (entriesL l)) := ⟨fun W hW => own_far (f := ecells) (fun _ => rfl) HMM.out hown (by have := HSZ.out; omega) W hW⟩
    have HB1 : Hidden (Below w.heap.size w w1) := ⟨HB0.out.1.trans (hb1.mono HB0.out.1.size)⟩
    have HBK1 : Hidden (FourB w1 bb 0 0 0 0) := ⟨(hb1.block _ (by have := HSZ.out; omega)).trans HBK0.out⟩
    have HBB : Hidden (w.heap.size ≤ bb) := ⟨HB0.out.2⟩
    have HBE := Hidden.mk (fun k' hk' => bestM_succ a (entriesL l) k' hk')
    have HBF := Hidden.mk (bestM_spec a (entriesL l))
    clear hown hb1 HSZ HB0 HBK0
    go_wp2_with fail
    go_loopg [7] m (fun q iv wr => ∃ (j : Nat), j ≤ m ∧ q = m - j ∧ iv = .int .i64 (j : Int) ∧ Hidden (But bb w1 wr ∧ FourB wr bb (bH (bestM a ((entriesL l).take j))) (bA (bestM a ((entriesL l).take j))) (bL (bestM a ((entriesL l).take j))) (bT (bestM a ((entriesL l).take j)))))
    case atStart => exact ⟨0, by omega, rfl, rfl, ⟨Keep.refl _ _, HBK1.out⟩⟩
    case round =>
      obtain ⟨j, hj, rfl, rfl, hst⟩ := hrel
      by_cases hlt : j < m
      · have hjE : j < (entriesL l).length := by rw [HMM.out]; exact hlt
        obtain ⟨pp, oo, rfl, hcx⟩ := (HR.out _ hst.out.1) j hjE
        have x0 := hcx 0 _ rfl
        have x1 := hcx 1 _ rfl
        have x2 := hcx 2 _ rfl
        have x3 := hcx 3 _ rfl
        rw [Nat.add_zero] at x0
        have hup := HBE.out j hjE
        have hxm : ∀ x, bestM a ((entriesL l).take j) = some x → 1 ≤ x.1 := fun x hx => by
          rcases HBF.out j (by omega) with ⟨h1, _⟩ | ⟨y, h0, h1, _⟩
          · rw [h1] at hx; cases hx
          · rw [h1] at hx
            have := Option.some.inj hx
            subst this
            exact HEM.out _ (List.mem_of_mem_take h0)
        have HBT := Hidden.mk hst.out
        generalize bestM a ((entriesL l).take j) = bo at *
        generalize hbn0 : bestM a ((entriesL l).take (j + 1)) = bn at *
        have HBN := Hidden.mk hbn0
        clear hbn0
        generalize (entriesL l)[j] = e at *
        have be1 := rAt_le e.2
        obtain ⟨⟨b0, b1, b2, b3⟩, bf⟩ := HBT.out.2.get
        have bf0 := bf 0
        have bf1 := bf 1
        have bf2 := bf 2
        have bf3 := bf 3
        have i0 : (0 : Int) ≤ j := by omega
        have i1 : (j : Int) < m := by omega
        have s3 : IntKind.i64.wrap ((j : Int) + 1) = (j : Int) + 1 := IntWalk.i64_in _ (by omega)
        have HFS : Hidden (bn = some e → ∀ W, But bb w1 W → FourB W bb (bH bo) (bA bo) (bL bo) (bT bo) → But bb w1 ((((W.setCell ⟨bb, 0, none⟩ (.int .i64 e.1)).setCell ⟨bb, 1, none⟩ (.int .i64 (rAt e.2))).setCell ⟨bb, 2, none⟩ (.int .i64 (rLen e.2))).setCell ⟨bb, 3, none⟩ (.int .i64 (rTag e.2))) ∧ FourB ((((W.setCell ⟨bb, 0, none⟩ (.int .i64 e.1)).setCell ⟨bb, 1, none⟩ (.int .i64 (rAt e.2))).setCell ⟨bb, 2, none⟩ (.int .i64 (rLen e.2))).setCell ⟨bb, 3, none⟩ (.int .i64 (rTag e.2))) bb (bH bn) (bA bn) (bL bn) (bT bn)) := ⟨fun h W hW hF => ⟨hW.four _ _ _ _, by rw [h]; exact hF.set _ _ _ _⟩⟩
        have HNO : Hidden (bn = bo → ∀ q, But bb w1 (wr.drewN q) ∧ FourB (wr.drewN q) bb (bH bn) (bA bn) (bL bn) (bT bn)) := ⟨fun h q => ⟨HBT.out.1.drewN _, by rw [h]; exact HBT.out.2⟩⟩
        have HYES : Hidden (∀ q, But bb w1 (wr.drewN q) ∧ FourB (wr.drewN q) bb (bH bo) (bA bo) (bL bo) (bT bo)) := ⟨fun q => ⟨HBT.out.1.drewN _, HBT.out.2⟩⟩
        clear hcx hst HBT bf
        cases bo with
        | none =>
          change wr.cell? ⟨bb, 0, none⟩ = some (.int .i64 0) at b0
          change wr.cell? ⟨bb, 1, none⟩ = some (.int .i64 0) at b1
          by_cases hc : a ≤ rAt e.2
          · have hbn : bn = some e := by rw [hup]; unfold upB; simp [hc]
            have d1 : decide ((a : Int) ≤ (rAt e.2 : Int)) = true := by simp; omega
            have d1' : decide (a ≤ rAt e.2) = true := by simpa using hc
            clear hc
            have HF1 := Hidden.mk (HFS.out hbn)
            generalize e.1 = e0 at *
            generalize rAt e.2 = e1 at *
            generalize rLen e.2 = e2 at *
            generalize rTag e.2 = e3 at *
            clear HNO HFS hbn hup hxm
            go_upto_region 7 with (fail)
            go_quiet (fail)
            have y0 : (wr.drewN nq).cell? ⟨pp, oo + j * 4, none⟩ = some (.int .i64 e0) := x0
            have y1 : (wr.drewN nq).cell? ⟨pp, oo + j * 4 + 1, none⟩ = some (.int .i64 e1) := x1
            have y2 : (wr.drewN nq).cell? ⟨pp, oo + j * 4 + 2, none⟩ = some (.int .i64 e2) := x2
            have y3 : (wr.drewN nq).cell? ⟨pp, oo + j * 4 + 3, none⟩ = some (.int .i64 e3) := x3
            have HQ := Hidden.mk (HF1.out _ (HYES.out nq).1 (HYES.out nq).2)
            obtain ⟨⟨z0, z1, z2, z3⟩, zf⟩ := (HYES.out nq).2.get
            have zf0 := zf 0
            have zf1 := zf 1
            have zf2 := zf 2
            have zf3 := zf 3
            clear x0 x1 x2 x3 zf HF1 HYES b0 b1 b2 b3 bf0 bf1 bf2 bf3
            generalize wr.drewN nq = wd at *
            go_wp2_with fail
            go_roundg (m - (j + 1))
            case measure => omega
            case rel => exact ⟨j + 1, by omega, rfl, by go_num, ⟨by rw [HBN.out]; exact HQ.out⟩⟩
          · have hbn : bn = none := by rw [hup]; unfold upB; simp [hc]
            have d1 : decide ((a : Int) ≤ (rAt e.2 : Int)) = false := by simp; omega
            have d1' : decide (a ≤ rAt e.2) = false := by simpa using hc
            clear hc
            have HF1 := Hidden.mk (HNO.out hbn)
            generalize e.1 = e0 at *
            generalize rAt e.2 = e1 at *
            generalize rLen e.2 = e2 at *
            generalize rTag e.2 = e3 at *
            clear HNO HFS hbn hup hxm
            go_upto_region 7 with (fail)
            go_quiet (fail)
            have HQ := Hidden.mk (HF1.out nq)
            clear x0 x1 x2 x3 HF1 HYES b0 b1 b2 b3 bf0 bf1 bf2 bf3
            generalize wr.drewN nq = wd at *
            go_wp2_with fail
            go_roundg (m - (j + 1))
            case measure => omega
            case rel => exact ⟨j + 1, by omega, rfl, by go_num, ⟨by rw [HBN.out]; exact HQ.out⟩⟩
        | some x =>
          change wr.cell? ⟨bb, 0, none⟩ = some (.int .i64 x.1) at b0
          change wr.cell? ⟨bb, 1, none⟩ = some (.int .i64 (rAt x.2 : Int)) at b1
          have hx1 := hxm x rfl
          have dx : decide (x.1 = 0) = false := by simp; omega
          have dx' : (x.1 == 0) = false := by simp; omega
          by_cases hc : a ≤ rAt e.2
          · have d1 : decide ((a : Int) ≤ (rAt e.2 : Int)) = true := by simp; omega
            have d1' : decide (a ≤ rAt e.2) = true := by simpa using hc
            by_cases hc2 : rAt e.2 < rAt x.2
            · have hbn : bn = some e := by rw [hup]; unfold upB; simp [hc, hc2]
              have d2 : decide ((rAt e.2 : Int) < (rAt x.2 : Int)) = true := by simp; omega
              have d2' : decide (rAt e.2 < rAt x.2) = true := by simpa using hc2
              clear hc hc2
              have HF1 := Hidden.mk (HFS.out hbn)
              generalize e.1 = e0 at *
              generalize rAt e.2 = e1 at *
              generalize rLen e.2 = e2 at *
              generalize rTag e.2 = e3 at *
              clear HNO HFS hbn hup hxm
              go_upto_region 7 with (fail)
              go_quiet (fail)
              have y0 : (wr.drewN nq).cell? ⟨pp, oo + j * 4, none⟩ = some (.int .i64 e0) := x0
              have y1 : (wr.drewN nq).cell? ⟨pp, oo + j * 4 + 1, none⟩ = some (.int .i64 e1) := x1
              have y2 : (wr.drewN nq).cell? ⟨pp, oo + j * 4 + 2, none⟩ = some (.int .i64 e2) := x2
              have y3 : (wr.drewN nq).cell? ⟨pp, oo + j * 4 + 3, none⟩ = some (.int .i64 e3) := x3
              have HQ := Hidden.mk (HF1.out _ (HYES.out nq).1 (HYES.out nq).2)
              obtain ⟨⟨z0, z1, z2, z3⟩, zf⟩ := (HYES.out nq).2.get
              have zf0 := zf 0
              have zf1 := zf 1
              have zf2 := zf 2
              have zf3 := zf 3
              clear x0 x1 x2 x3 zf HF1 HYES b0 b1 b2 b3 bf0 bf1 bf2 bf3
              generalize wr.drewN nq = wd at *
              go_wp2_with fail
              go_roundg (m - (j + 1))
              case measure => omega
              case rel => exact ⟨j + 1, by omega, rfl, by go_num, ⟨by rw [HBN.out]; exact HQ.out⟩⟩
            · have hbn : bn = some x := by rw [hup]; unfold upB; simp [hc2]
              have d2 : decide ((rAt e.2 : Int) < (rAt x.2 : Int)) = false := by simp; omega
              have d2' : decide (rAt e.2 < rAt x.2) = false := by simpa using hc2
              clear hc hc2
              have HF1 := Hidden.mk (HNO.out hbn)
              generalize e.1 = e0 at *
              generalize rAt e.2 = e1 at *
              generalize rLen e.2 = e2 at *
              generalize rTag e.2 = e3 at *
              clear HNO HFS hbn hup hxm
              go_upto_region 7 with (fail)
              go_quiet (fail)
              have HQ := Hidden.mk (HF1.out nq)
              clear x0 x1 x2 x3 HF1 HYES b0 b1 b2 b3 bf0 bf1 bf2 bf3
              generalize wr.drewN nq = wd at *
              go_wp2_with fail
              go_roundg (m - (j + 1))
              case measure => omega
              case rel => exact ⟨j + 1, by omega, rfl, by go_num, ⟨by rw [HBN.out]; exact HQ.out⟩⟩
          · have hbn : bn = some x := by rw [hup]; unfold upB; simp [hc]
            have d1 : decide ((a : Int) ≤ (rAt e.2 : Int)) = false := by simp; omega
            have d1' : decide (a ≤ rAt e.2) = false := by simpa using hc
            clear hc
            have HF1 := Hidden.mk (HNO.out hbn)
            generalize e.1 = e0 at *
            generalize rAt e.2 = e1 at *
            generalize rLen e.2 = e2 at *
            generalize rTag e.2 = e3 at *
            clear HNO HFS hbn hup hxm
            go_upto_region 7 with (fail)
            go_quiet (fail)
            have HQ := Hidden.mk (HF1.out nq)
            clear x0 x1 x2 x3 HF1 HYES b0 b1 b2 b3 bf0 bf1 bf2 bf3
            generalize wr.drewN nq = wd at *
            go_wp2_with fail
            go_roundg (m - (j + 1))
            case measure => omega
            case rel => exact ⟨j + 1, by omega, rfl, by go_num, ⟨by rw [HBN.out]; exact HQ.out⟩⟩
      · have hjm : j = m := by omega
        have hs2 := hst.out
        rw [hjm, List.take_of_length_le (by rw [HMM.out]; exact Nat.le_refl _)] at hs2
        have HBW : Hidden (Below w.heap.size w wr) := ⟨HB1.out.trans (hs2.1.below HB1.out.size (fun k e => by rw [e]; exact HBB.out))⟩
        have dj : decide ((j : Int) < (m : Int)) = false := by simp; omega
        have dj' : decide (j < m) = false := by simp; omega
        clear hst HBF HBE HEM HR hlt HBK1 HB1
        by_cases hkm : k < m
        · have hks : k < (sortM l).length := by rw [HM.out]; exact hkm
          obtain ⟨q1, q2, q3, q4, q5⟩ := HST.out.some hks
          obtain ⟨q, hq, hh, hxe⟩ := entL_mem.1 q2
          rw [q1, hxe] at hs2
          rw [hxe] at q4 q5
          have HF0 : Hidden (FourB wr bb ((q : Int) + 1) (rAt (rawE l q)) (rLen (rawE l q)) (rTag (rawE l q))) := ⟨hs2.2⟩
          obtain ⟨⟨b0, b1, b2, b3⟩, bf⟩ := HF0.out.get
          have dz : decide ((q : Int) + 1 = 0) = false := by simp; omega
          have dz' : (((q : Int) + 1) == 0) = false := by simp; omega
          have bnd1 := rAt_le (rawE l q)
          have bnd2 := rLen_le (rawE l q)
          have Q4 := Hidden.mk q4
          have Q5 := Hidden.mk q5
          clear hs2 q1 q2 q3 q4 q5 hxe bf hks
          by_cases hgt : a < rAt (rawE l q)
          · have hgap := Q4.out hgt
            obtain ⟨g1, -, -⟩ := gapM_ge (tidy_sortM HGD.out) hgap
            have hin := strayE_false (HGD.out.s.fit q hq hh)
            have HSB : Hidden (stepB l = true) := ⟨by unfold stepB; rw [hgap]; rfl⟩
            have HS1 : Hidden (stepL l = splice (putEnt l ((q : Int) + 1) (a : Int) (rLen (rawE l q) : Int) (rTag (rawE l q))) a (objS l q)) := ⟨by
              rw [stepL_some hgap, show ((((q : Int) + 1, rawE l q) : Ent).1 - 1).toNat = q by dsimp only; omega]
              unfold moveL putEnt objS
              rw [entO_k, if_pos hh]
              rfl⟩
            have HP : Hidden (∀ W, Below w.heap.size w W → Calls Tryz.prog 62 #[.slice (some ⟨p, off, none⟩) n c, .agg #[.int .i64 ((q : Int) + 1), .int .i64 (a : Int), .int .i64 (rLen (rawE l q) : Int), .int .i64 (rTag (rawE l q))]] W fun e w' => ∃ g c', e = .returned (.tuple #[.slice (some ⟨g, 0, none⟩) n c', .int .i64 0]) ∧ W.heap.size ≤ g ∧ Row w' 5 g c' (putEnt l ((q : Int) + 1) (a : Int) (rLen (rawE l q) : Int) (rTag (rawE l q))) ∧ Below W.heap.size W w') := ⟨fun W hW => refPutEntry_own _ n c l _ _ _ _ W HLN.out (rightB_true.2 (by omega)) (HRD.out.below hW) (handleB_true.2 (by omega)) (tagB_true.2 (by omega)) (lenB_true.2 (by omega)) (withinB_true.2 (by omega))⟩
            have HPL : Hidden ((putEnt l ((q : Int) + 1) (a : Int) (rLen (rawE l q) : Int) (rTag (rawE l q))).length = n) := ⟨by rw [putEnt_len _ _ _ _ _ (by omega) (by omega) (by omega)]; exact HLN.out⟩
            have HOL : Hidden ((objS l q).length = rLen (rawE l q)) := ⟨by unfold objS; rw [if_pos hh]; simp; omega⟩
            have hfit : a + rLen (rawE l q) ≤ n := by omega
            have HOQ : Hidden (∀ W, Below w.heap.size w W → Calls Tryz.prog 86 #[.slice (some ⟨p, off, none⟩) n c, .int .i64 ((q : Int) + 1)] W fun e w' => e = .returned (.tuple #[.int .i64 (objT l q), sv (objS l q)]) ∧ Below W.heap.size W w') := ⟨fun W hW => HO.out W q hq hW⟩
            generalize putEnt l ((q : Int) + 1) (a : Int) (rLen (rawE l q) : Int) (rTag (rawE l q)) = P at *
            generalize objS l q = body at *
            generalize objT l q = ot at *
            have d1 : decide ((a : Int) < (rAt (rawE l q) : Int)) = true := by simp; omega
            have d1' : decide (a < rAt (rawE l q)) = true := by simpa using hgt
            generalize rAt (rawE l q) = e1 at *
            generalize rLen (rawE l q) = e2 at *
            generalize rTag (rawE l q) = e3 at *
            have hbl := HOL.out
            have hble : body.length ≤ 6400 := by omega
            have hfit2 : a + body.length ≤ n := by omega
            clear Q4 Q5 hgap g1 hgt hin HO HST hh hfit HSL HM HE HMM
            go_wp2_with fail
            refine (HOQ.out wr HBW.out).mono ?_
            rintro e w3 ⟨rfl, hb3⟩
            have HF3 : Hidden (FourB w3 bb ((q : Int) + 1) e1 e2 e3) := ⟨(hb3.block _ (Array.getElem?_eq_some_iff.1 HF0.out).1).trans HF0.out⟩
            have HB3 := Hidden.mk (HBW.out.trans (hb3.mono HBW.out.size))
            obtain ⟨⟨y0, y1, y2, y3⟩, yf⟩ := HF3.out.get
            have yf1 := yf 1
            have HF4 : Hidden (FourB (w3.setCell ⟨bb, 1, none⟩ (.int .i64 (a : Int))) bb ((q : Int) + 1) a e2 e3 ∧ Below w.heap.size w (w3.setCell ⟨bb, 1, none⟩ (.int .i64 (a : Int)))) := ⟨HF3.out.set1 _, HB3.out.setCell (p := ⟨bb, 1, none⟩) HBB.out _⟩
            obtain ⟨⟨z0, z1, z2, z3⟩, -⟩ := HF4.out.1.get
            clear hb3 HOQ HF0 HF3 HB3 yf b0 b1 b2 b3 y0 y2 y3
            go_wp2_with fail
            refine (HP.out _ HF4.out.2).mono ?_
            rintro e w5 ⟨g, cg, rfl, hg5, hrow5, hb5⟩
            have HB5 := Hidden.mk (HF4.out.2.trans (hb5.mono HF4.out.2.size))
            have HG5 : Hidden (w.heap.size ≤ g) := ⟨Nat.le_trans HF4.out.2.size hg5⟩
            have HR5 := Hidden.mk hrow5
            clear hg5 hrow5 hb5 HP HF4 z0 z1 z2 z3 y1 yf1
            go_wp2_with fail
            go_loopg [12] body.length (fun q iv wr => ∃ j : Nat, j ≤ body.length ∧ q = body.length - j ∧ iv = .int .i64 (j : Int) ∧ Hidden (Row wr 5 g cg (splice P a (body.take j)) ∧ Below w.heap.size w wr))
            case atStart => exact ⟨0, by omega, rfl, rfl, ⟨by simpa [splice] using HR5.out, HB5.out⟩⟩
            case round =>
              obtain ⟨t, ht, rfl, rfl, hst⟩ := hrel
              have hsl : (splice P a (body.take t)).length = n := by rw [splice_len _ _ _ (by rw [HPL.out]; simp; omega)]; exact HPL.out
              by_cases hlt2 : t < body.length
              · have hcell := hst.out.1.cell (a + t) (by omega)
                have hfr := hst.out.1.frozen (a + t)
                have hso := hst.out.1.store (a + t) (by omega) body[t]
                rw [splice_more P body a t hlt2 (by rw [HPL.out]; exact hfit2)] at hso
                have HN : Hidden (Row (wr.setCell ⟨g, a + t, none⟩ (bv body[t])) 5 g cg (splice P a (body.take (t + 1))) ∧ Below w.heap.size w (wr.setCell ⟨g, a + t, none⟩ (bv body[t]))) := ⟨hso, hst.out.2.setCell (p := ⟨g, a + t, none⟩) HG5.out _⟩
                have k0 : (0 : Int) ≤ t := by omega
                have k1 : (t : Int) < body.length := by omega
                have q0 : (0 : Int) ≤ (a : Int) + t := by omega
                have q2 : (a : Int) + t < n := by omega
                have s1 : IntKind.i64.wrap ((a : Int) + t) = (a : Int) + t := IntWalk.i64_in _ (by omega)
                have s3 : IntKind.i64.wrap ((t : Int) + 1) = (t : Int) + 1 := IntWalk.i64_in _ (by omega)
                have hix : ((⟨body.toArray⟩ : ByteArray)[t]'(by simpa [ByteArray.size] using hlt2)) = body[t] := rfl
                generalize (splice P a (body.take t))[a + t] = u at hcell
                clear hst hso hsl
                go_wp2_with fail
                go_roundg (body.length - (t + 1))
                case measure => omega
                case rel => exact ⟨t + 1, by omega, rfl, by go_num, HN⟩
              · have htb : t = body.length := by omega
                have hre := hst.out
                rw [htb, List.take_length] at hre
                have HRE : Hidden (Rd wr (some ⟨g, 0, none⟩) (stepL l) ∧ n ≤ cg ∧ Below w.heap.size w wr) := ⟨by rw [HS1.out]; exact hre.1.rd, by have := hre.1.le.1; rw [splice_len _ _ _ (by rw [HPL.out]; exact hfit2), HPL.out] at this; exact this, hre.2⟩
                have dt : decide ((t : Int) < (body.length : Int)) = false := by simp; omega
                have dt' : decide (t < body.length) = false := by simp; omega
                clear hst hre hsl
                go_wp2_with fail
                go_ret2
                exact ⟨g, 0, cg, by rw [HSB.out]; rfl, HRE.out.2.1, .inr HG5.out, HRE.out.1, HRE.out.2.2⟩
          · have HN : Hidden (Stands l (k + 1) (a + rLen (rawE l q)) ∧ Below w.heap.size w wr) := ⟨Q5.out hgt, HBW.out⟩
            have d1 : decide ((a : Int) < (rAt (rawE l q) : Int)) = false := by simp; omega
            have d1' : decide (a < rAt (rawE l q)) = false := by simpa using hgt
            generalize rAt (rawE l q) = e1 at *
            generalize rLen (rawE l q) = e2 at *
            generalize rTag (rawE l q) = e3 at *
            have s1 : IntKind.i64.wrap ((a : Int) + e2) = (a : Int) + e2 := IntWalk.i64_in _ (by omega)
            clear Q4 Q5 hgt HO HST hh HSL HM HMM HF0
            go_wp2_with fail
            go_roundg (m - (k + 1))
            case measure => omega
            case rel => exact ⟨k + 1, a + e2, by omega, rfl, by go_num, by omega, HN⟩
        · have hke : k = (sortM l).length := by rw [HM.out]; omega
          have hsn := HST.out
          rw [hke] at hsn
          obtain ⟨n1, n2⟩ := hsn.none
          rw [n1] at hs2
          obtain ⟨⟨b0, b1, b2, b3⟩, bf⟩ := hs2.2.get
          change wr.cell? ⟨bb, 0, none⟩ = some (.int .i64 0) at b0
          have HSB : Hidden (stepB l = false) := ⟨by unfold stepB; rw [n2]; rfl⟩
          have HRE : Hidden (Rd wr (some ⟨p, off, none⟩) (stepL l)) := ⟨by rw [stepL_none n2]; exact HRD.out.below HBW.out⟩
          clear hs2 hsn n1 n2 b1 b2 b3 bf HO HST HSL HM HMM
          go_wp2_with fail
          go_ret2
          exact ⟨p, off, c, by rw [HSB.out]; rfl, hnc, .inl rfl, HRE.out, HBW.out⟩
end Go.Proofs.YtbnobjlphmkgeaaGreatDoor
/- The reference on ways: less; rows of rows of numbers. -/
namespace Go.Proofs.YtbnobjlphmkgeaaGreatDoor
open Go.RowKit

theorem lexLt_step {a b : List Nat} {j : Nat} (ha : j < a.length) (hb : j < b.length) : lexLt (a.drop j) (b.drop j) = if a[j] = b[j] then lexLt (a.drop (j + 1)) (b.drop (j + 1)) else decide (a[j] < b[j]) := by
  rw [List.drop_eq_getElem_cons ha, List.drop_eq_getElem_cons hb]; rfl
set_option maxRecDepth 100000 in
theorem less_any (A B : Option Addr) (n m ca cb : Nat) (a b : List Nat) (w : World) (ha : a.length = n) (hb : b.length = m) (hn : n ≤ 100000) (hm : m ≤ 100000) (hrA : RdX ncell 1 w A a) (hrB : RdX ncell 1 w B b) :
    Calls Tryz.prog 159 #[.slice A n ca, .slice B m cb] w fun e w' => e = .returned (.bool (lessW a b)) ∧ Below w.heap.size w w' := by
  by_cases hnm : n = m
  · subst hnm
    have HL : Hidden (lessW a b = lexLt (a.drop 0) (b.drop 0)) := ⟨by unfold lessW; rw [if_pos (ha.trans hb.symm)]; rfl⟩
    have HA := Hidden.mk hrA
    have HB := Hidden.mk hrB
    have HNA := Hidden.mk ha
    have HNB := Hidden.mk hb
    have nn : ((n : Int) != (n : Int)) = false := bne_self_eq_false _
    have nn' : ((n : Int) == (n : Int)) = true := beq_self_eq_true _
    rw [HL.out]
    generalize hX : lexLt (a.drop 0) (b.drop 0) = X at *
    have HX := Hidden.mk hX
    clear hrA hrB ha hb HL hX
    go_enter Tryz.func159, Tryz.ntmps159
    go_wp2_with fail
    go_loopg [5] n (fun q i wr => ∃ j : Nat, j ≤ n ∧ q = n - j ∧ i = .int .i64 (j : Int) ∧ Hidden (Below w.heap.size w wr ∧ lexLt (a.drop j) (b.drop j) = X))
    case atStart => exact ⟨0, by omega, rfl, rfl, ⟨Below.refl _ _, HX.out⟩⟩
    case round =>
      obtain ⟨j, hj, rfl, rfl, hst⟩ := hrel
      by_cases hlt : j < n
      · have hja : j < a.length := by rw [HNA.out]; exact hlt
        have hjb : j < b.length := by rw [HNB.out]; exact hlt
        obtain ⟨p, op, rfl, hcx⟩ := (HA.out.below hst.out.1) j hja
        obtain ⟨q, oq, rfl, hcy⟩ := (HB.out.below hst.out.1) j hjb
        have x0 : wr.cell? ⟨p, op + j, none⟩ = some (.int .i64 (a[j] : Int)) := by simpa using hcx 0 _ rfl
        have y0 : wr.cell? ⟨q, oq + j, none⟩ = some (.int .i64 (b[j] : Int)) := by simpa using hcy 0 _ rfl
        have HS := Hidden.mk (lexLt_step hja hjb)
        have HB0 := Hidden.mk hst.out
        generalize a[j] = u at *
        generalize b[j] = v at *
        have i0 : (0 : Int) ≤ j := by omega
        have i1 : (j : Int) < n := by omega
        have s1 : IntKind.i64.wrap ((j : Int) + 1) = (j : Int) + 1 := IntWalk.i64_in _ (by omega)
        clear hcx hcy hst
        by_cases huv : u = v
        · subst huv
          have e1 : ((u : Int) != (u : Int)) = false := bne_self_eq_false _
          have e2 : ((u : Int) == (u : Int)) = true := beq_self_eq_true _
          have HN : Hidden (lexLt (a.drop (j + 1)) (b.drop (j + 1)) = X) := ⟨by rw [← HB0.out.2, HS.out, if_pos rfl]⟩
          go_wp2_with fail
          go_quiet (fail)
          have hbn := Hidden.mk (below_drewN HB0.out.1 nq)
          clear x0 y0
          go_wp2_with fail
          go_roundg (n - (j + 1))
          case measure => omega
          case rel => exact ⟨j + 1, by omega, rfl, by go_num, ⟨hbn.out, HN.out⟩⟩
        · have e1 : ((u : Int) != (v : Int)) = true := by simp; omega
          have e2 : ((u : Int) == (v : Int)) = false := by simp; omega
          have HN : Hidden (decide ((u : Int) < (v : Int)) = X ∧ decide (u < v) = X) := ⟨by
            have : decide (u < v) = X := by rw [← HB0.out.2, HS.out, if_neg huv]
            exact ⟨by rw [← this]; exact decide_eq_decide.2 (by omega), this⟩⟩
          go_wp2_with fail
          go_quiet (fail)
          have hbn := Hidden.mk (below_drewN HB0.out.1 nq)
          go_wp2_with fail
          go_quiet (fail)
          have hbm := Hidden.mk (below_drewN hbn.out nq)
          go_wp2_with fail
          go_ret
          exact ⟨congrArg (fun z => Ending.returned (.bool z)) HN.out.2, hbm.out⟩
      · obtain rfl : j = n := by omega
        have hX : X = false := by
          rw [← hst.out.2, List.drop_of_length_le (by rw [HNA.out]; exact Nat.le_refl _)]; rfl
        have HBB := Hidden.mk hst.out.1
        subst hX
        have c0 : decide ((j : Int) < j) = false := decide_eq_false (by omega)
        clear hst HX
        go_wp2_with fail
        go_ret
        exact ⟨rfl, HBB.out⟩
  · have e1 : ((n : Int) != (m : Int)) = true := by simp; omega
    have e2 : ((n : Int) == (m : Int)) = false := by simp; omega
    have HL : Hidden (lessW a b = decide ((n : Int) < (m : Int)) ∧ lessW a b = decide (n < m)) := ⟨by
      have : lessW a b = decide (n < m) := by unfold lessW; rw [ha, hb, if_neg hnm]
      exact ⟨this.trans (decide_eq_decide.2 (by omega)), this⟩⟩
    clear hrA hrB ha hb hnm
    rw [HL.out.2]
    go_enter Tryz.func159, Tryz.ntmps159
    go_wp2_with fail
    go_ret
    exact ⟨rfl, Below.refl _ _⟩
/-- a block of 41 rows of numbers -/
structure WvB (w0 w : World) (gw : Nat) (V : WV) : Prop where
  blk : ∃ (oA : Nat → Option Addr) (oc : Nat → Nat) (cur : Array Value), w.heap[gw]? = some (.cells cur 54 (0, 0)) ∧ cur.size = 41 ∧ ∀ i, i < 41 → cur[i]? = some (.slice (oA i) (V i).length (oc i)) ∧ RdX ncell 1 w (oA i) (V i) ∧ (V i).length ≤ oc i
  new : w0.heap.size ≤ gw
section
variable {w0 w w' : World} {gw : Nat} {V : WV}
theorem WvB.lt (h : WvB w0 w gw V) : gw < w.heap.size := by
  obtain ⟨oA, oc, cur, h0, -⟩ := h.blk
  exact (Array.getElem?_eq_some_iff.1 h0).1
theorem WvB.below (h : WvB w0 w gw V) (hb : Below w.heap.size w w') : WvB w0 w' gw V := by
  obtain ⟨oA, oc, cur, h0, h1, h2⟩ := h.blk
  exact ⟨⟨oA, oc, cur, (hb.block _ h.lt).trans h0, h1, fun i hi => ⟨(h2 i hi).1, (h2 i hi).2.1.below hb, (h2 i hi).2.2⟩⟩, h.new⟩
theorem WvB.cell (h : WvB w0 w gw V) (i : Nat) (hi : i < 41) : ∃ A c, w.cell? ⟨gw, i, none⟩ = some (.slice A (V i).length c) ∧ w.frozen? ⟨gw, i, none⟩ = false ∧ RdX ncell 1 w A (V i) ∧ (V i).length ≤ c := by
  obtain ⟨oA, oc, cur, h0, h1, h2⟩ := h.blk
  exact ⟨oA i, oc i, by simp only [World.cell?]; rw [h0]; exact (h2 i hi).1, frozen_of_row _ _ i _ _ h0, (h2 i hi).2⟩
theorem WvB.set (h : WvB w0 w gw V) {y c : Nat} {A : Option Addr} {p : List Nat} (hy : y < 41) (hr : RdX ncell 1 w A p) (hc : p.length ≤ c) : WvB w0 (w.setCell ⟨gw, y, none⟩ (.slice A p.length c)) gw (vset V y p) := by
  obtain ⟨oA, oc, cur, h0, h1, h2⟩ := h.blk
  have hk : ∀ (B : Option Addr) (q : List Nat), RdX ncell 1 w B q → RdX ncell 1 (w.setCell ⟨gw, y, none⟩ (.slice A p.length c)) B q := fun B q hq i hi => by
    obtain ⟨b, off, e, hcx⟩ := hq i hi
    refine ⟨b, off, e, fun k u hu => ?_⟩
    have hne : b ≠ gw := fun e' => by
      have h3 := hcx 0 _ rfl
      simp only [World.cell?] at h3
      rw [e', h0] at h3
      dsimp only at h3
      have hlt : off + i * 1 + 0 < 41 := by
        have := (Array.getElem?_eq_some_iff.1 h3).1; omega
      rw [(h2 _ hlt).1] at h3
      cases h3
    have h4 := hcx k u hu
    exact (World.cell?_of_block (w := w) (a := ⟨b, off + i * 1 + k, none⟩) (Below.heap_setCell _ _ _ _ (by dsimp only; exact hne))).trans h4
  refine ⟨⟨fun i => if i = y then A else oA i, fun i => if i = y then c else oc i, _, heap_setK h0 _, by simp [h1], fun i hi => ?_⟩, h.new⟩
  by_cases e : i = y
  · subst e
    simp only [if_true]
    have hv : vset V i p i = p := by unfold vset; rw [if_pos rfl]
    rw [hv]
    exact ⟨by simp [h1, hy], hk _ _ hr, hc⟩
  · simp only [if_neg e]
    have hv : vset V y p i = V i := by unfold vset; rw [if_neg e]
    rw [hv]
    refine ⟨?_, hk _ _ (h2 i hi).2.1, (h2 i hi).2.2⟩
    rw [Array.getElem?_setIfInBounds_ne (fun e' => e e'.symm)]
    exact (h2 i hi).1
theorem WvB.made (w : World) : WvB w (w.alloc (.cells (Array.replicate 41 (.slice none 0 0)) 54)) w.heap.size (fun _ => []) :=
  ⟨⟨fun _ => none, fun _ => 0, _, heap_alloc_new w _, by simp, fun i hi => ⟨by simp [hi], fun j hj => absurd hj (by simp), Nat.le_refl _⟩⟩, Nat.le_refl _⟩
end
end Go.Proofs.YtbnobjlphmkgeaaGreatDoor
/- Package reach: Path. -/
namespace Go.Proofs.YtbnobjlphmkgeaaGreatDoor
open Go.RowKit Go.Maps Go.ChangeMaps

/-- each beginning of a way is the way to its last one -/
theorem WOk.pre {l : Bytes} {W : Ways} {D : List Nat} (h : WOk l W D) : ∀ (n : Nat) (y : Nat) (p : List Nat), p.length ≤ n → W y = some p → ∀ i (hi : i < p.length), W p[i] = some (p.take (i + 1))
  | 0, _, p, hn, _, i, hi => by omega
  | n + 1, y, p, hn, hp, i, hi => by
    obtain ⟨q, e, h1⟩ := h.ways y p hp
    subst e
    by_cases hl : i = q.length
    · subst hl
      rw [List.getElem_append_right (Nat.le_refl _)]
      simp only [Nat.sub_self, List.getElem_singleton]
      rw [hp, List.take_of_length_le (by simp)]
    · have hiq : i < q.length := by simp at hi; omega
      rcases h1 with ⟨rfl, -⟩ | ⟨x, h2, -⟩
      · simp at hiq
      · rw [List.getElem_append_left hiq, List.take_append_of_le_length (by omega)]
        exact WOk.pre h n x q (by simp at hn; omega) h2 i hiq
theorem WOk.ne {l : Bytes} {W : Ways} {D : List Nat} (h : WOk l W D) {y : Nat} {p : List Nat} (hp : W y = some p) {i : Nat} (hi : i + 1 < p.length) : p[i] ≠ p[i + 1] := fun e => by
  have h1 := h.pre _ y p (Nat.le_refl _) hp i (by omega)
  have h2 := h.pre _ y p (Nat.le_refl _) hp (i + 1) hi
  rw [e, h2] at h1
  have := congrArg List.length (Option.some.inj h1)
  simp at this; omega
theorem own_one (w : World) (x : Value) : (w.alloc (.cells #[x] 3)).ownsRow w.heap.size 3 1 (.slice (some ⟨w.heap.size, 0, none⟩) 1 1) 1 [x] :=
  ⟨rfl, .inr ⟨w.heap.size, 1, #[x], rfl, Nat.le_refl _, heap_alloc_new w _, Nat.le_refl _, by simp [maxLen], rfl, rfl⟩⟩
section
variable {w0 w : World} {F : Nat → Prop} {h : Nat} {l : Bytes}
end
end Go.Proofs.YtbnobjlphmkgeaaGreatDoor
/- The reference on ways: Ways, the walk. -/
namespace Go.Proofs.YtbnobjlphmkgeaaGreatDoor
open Go.RowKit

theorem row_info : (Tryz.prog.info? 54).map (fun i => (i.zero, i.size, i.bytes)) = some (some (.slice none 0 0), 1, 24) := by kernel_rfl
theorem mk_introws (n : Nat) (hn : n ≤ 100000) (w : World) :
    (Instr.makeSlice 150 (.int .i64 n) (.int .i64 n)).run Tryz.prog w = .ok (.slice (some ⟨w.heap.size, 0, none⟩) n n) (w.alloc (.cells (Array.replicate n (.slice none 0 0)) 54)) := by
  obtain ⟨i0, hi0, hz0, hz1, hz2⟩ := info_parts row_info
  have hr := run_make (P := Tryz.prog) w 150 54 i0 _ Tryz.underlying150 hi0 hz0 .i64 .i64 n n (by omega) (by omega) (by rw [hz2]; omega) (by omega)
  simp only [Int.toNat_natCast, hz1, Nat.mul_one] at hr
  have hcells : madeCells (Value.slice none 0 0).cells n = Array.replicate n (.slice none 0 0) := by
    apply Array.ext'
    rw [show (Value.slice none 0 0).cells = #[Value.slice none 0 0] from rfl, toList_madeCells_one]
    simp
  rw [hcells] at hr
  exact hr
theorem ncell_len (x : Nat) : (ncell x).length = 1 := rfl
theorem ncell_one (L : List Nat) : ∀ u ∈ L.flatMap ncell, u.oneCell' = true := by
  intro u hu
  obtain ⟨x, _, h⟩ := List.mem_flatMap.1 hu
  simp only [ncell, List.mem_cons, List.not_mem_nil, or_false] at h
  subst h; rfl
theorem IsWay.hE {l : Bytes} (hg : Good l) {p : List Nat} {y : Nat} (h : IsWay l p y) : hE l (y : Int) = 0 := by
  cases h with
  | root hr => exact rootsH_mem hg hr
  | step _ hy => exact refsL_mem (_y := 0) hy
/-- the passes, step by step -/
def hands (k : Nat) : List Nat := (List.range k).map (· + 1)
theorem hands_succ (k : Nat) : hands (k + 1) = hands k ++ [k + 1] := by unfold hands; rw [List.range_succ, List.map_append]; rfl
def atH (l : Bytes) (V : WV) (k : Nat) : WV × Bool := (hands k).foldl (stepH l) (V, false)
theorem atH_succ (l : Bytes) (V : WV) (k : Nat) : atH l V (k + 1) = stepH l (atH l V k) (k + 1) := by unfold atH; rw [hands_succ, List.foldl_append]; rfl
theorem atH_ok {l : Bytes} (hg : Good l) {V : WV} (h : VOk l V) (k : Nat) : VOk l (atH l V k).1 := (pass_foldH hg (hands k) (V, false) True ⟨h, .inl ⟨rfl, trivial⟩⟩).ok
def atV (x : Nat) (s : WV × Bool) (R : List Nat) (i : Nat) : WV × Bool := (R.take i).foldl (stepV x) s
theorem atV_succ (x : Nat) (s : WV × Bool) (R : List Nat) (i : Nat) (hi : i < R.length) : atV x s R (i + 1) = stepV x (atV x s R i) R[i] := by unfold atV; rw [List.take_succ_eq_append_getElem hi, List.foldl_append]; rfl
theorem foldV_ok {l : Bytes} (hg : Good l) {x : Nat} : ∀ (L : List Nat) (s : WV × Bool), VOk l s.1 → s.1 x ≠ [] → (∀ y ∈ L, y ∈ refsL l (x : Int)) → VOk l (L.foldl (stepV x) s).1 ∧ (L.foldl (stepV x) s).1 x = s.1 x
  | [], s, h, _, _ => ⟨h, rfl⟩
  | y :: L, s, h, hx, hL => by
    obtain ⟨h1, -, h3⟩ := h.step hg hx (hL y (List.mem_cons_self ..))
    obtain ⟨h4, h5⟩ := foldV_ok hg L (stepV x s y) h1 (by rw [h3]; exact hx) (fun z hz => hL z (List.mem_cons_of_mem _ hz))
    exact ⟨h4, h5.trans h3⟩
theorem atV_ok {l : Bytes} (hg : Good l) {x : Nat} {s : WV × Bool} (h : VOk l s.1) (hx : s.1 x ≠ []) (i : Nat) : VOk l (atV x s (refsL l (x : Int)) i).1 ∧ (atV x s (refsL l (x : Int)) i).1 x = s.1 x :=
  foldV_ok hg _ s h hx fun y hy => List.mem_of_mem_take hy
theorem VOk.len {l : Bytes} {V : WV} (h : VOk l V) (y : Nat) : (V y).length ≤ 41 := Nat.le_trans (h.bd y) (cntV_le V 41)
def mesV (V : WV) (b : Bool) : Nat := match b with | true => sumV V 41 + 1 | false => 0
structure WyOk (l : Bytes) (V : WV) (b : Bool) : Prop where
  ok : VOk l V
  fin : b = false → ∀ y, V y = wayOf (fromW l) y
theorem WyOk.next {l : Bytes} (hg : Good l) {V : WV} (h : WyOk l V true) : WyOk l (atH l V 40).1 (atH l V 40).2 ∧ mesV (atH l V 40).1 (atH l V 40).2 < mesV V true := by
  obtain ⟨h1, h2, h3⟩ := pass_is hg h.ok
  have e : passV l V = atH l V 40 := rfl
  rw [e] at h1 h2 h3
  cases hb : (atH l V 40).2 with
  | true => exact ⟨⟨h1, fun e => by cases e⟩, by have := h2 hb; unfold mesV; dsimp only; omega⟩
  | false =>
    obtain ⟨h4, h5⟩ := h3 hb
    exact ⟨⟨h1, fun _ y => by rw [h4]; exact h5 y⟩, by unfold mesV; dsimp only; omega⟩
/-- the roots so far -/
def partV (S : List Nat) : WV := fun q => if q ∈ S then [q] else []
theorem partV_succ (S : List Nat) (k : Nat) (hk : k < S.length) : vset (partV (S.take k)) S[k] [S[k]] = partV (S.take (k + 1)) := by
  funext q
  unfold vset partV
  rw [List.take_succ_eq_append_getElem hk]
  simp only [List.mem_append, List.mem_singleton]
  by_cases e : q = S[k]
  · subst e; rw [if_pos rfl, if_pos (.inr rfl)]
  · rw [if_neg e]
    by_cases hm : q ∈ S.take k
    · rw [if_pos hm, if_pos (.inl hm)]
    · rw [if_neg hm, if_neg (fun h => h.elim hm e)]
set_option maxRecDepth 100000 in
set_option maxHeartbeats 2000000 in
theorem ways_any (p off n c : Nat) (l : Bytes) (w : World) (hn : l.length = n) (hg : Good l) (hnc : n ≤ c) (hrd : Rd w (some ⟨p, off, none⟩) l) :
    Calls Tryz.prog 92 #[.slice (some ⟨p, off, none⟩) n c] w fun e w' => ∃ gw, e = .returned (.slice (some ⟨gw, 0, none⟩) 41 41) ∧ WvB w w' gw (wayOf (fromW l)) ∧ Below w.heap.size w w' := by
  obtain ⟨i0', hi0, hz0, hz1, hz2⟩ := info_parts int_infoC
  have HI := Hidden.mk (And.intro hi0 (And.intro hz0 (And.intro hz1 hz2)))
  have hr : rightB n = true := by rw [← hn]; exact hg.len
  have HRO : Hidden (∀ W, Below w.heap.size w W → Calls Tryz.prog 71 #[.slice (some ⟨p, off, none⟩) n c] W fun e w' => ∃ v, e = .returned v ∧ w'.ownsRow W.heap.size 128 2 v (rootsL l).length ((rootsL l).flatMap rcells) ∧ Below W.heap.size W w') := ⟨fun W hW => refRoots_ok p off n c l W hn hr hnc (hrd.below hW)⟩
  have HRF : Hidden (∀ (k : Nat) (W : World), Below w.heap.size w W → k < 40 → hasE (rawE l k) = true → Calls Tryz.prog 158 #[.slice (some ⟨p, off, none⟩) n c, .int .i64 ((k : Int) + 1)] W fun e w' => ∃ v, e = .returned v ∧ w'.ownsRow W.heap.size 3 1 v (refsL l ((k : Int) + 1)).length ((refsL l ((k : Int) + 1)).flatMap ncell) ∧ Below W.heap.size W w') := ⟨fun k W hW hk hh => rrefs_ok p off n c l k W hn hg hnc (hrd.below hW) hk hh⟩
  have hR8 : (rootsL l).length ≤ 8 := rootsF_len _ _
  have HRH : Hidden (rootsH l = (rootsL l).map (·.2)) := ⟨rfl⟩
  have HRB : Hidden (∀ x ∈ rootsH l, x < 41) := ⟨fun x hx => by have := hE_nat (rootsH_mem hg hx); omega⟩
  have HG := Hidden.mk hg
  have hmk := mk_introws 41 (by omega) w
  rw [show ((41 : Nat) : Int) = 41 from rfl] at hmk
  have HW0 := Hidden.mk (WvB.made w)
  have hal := (Below.refl w.heap.size w).alloc (Nat.le_refl _) (.cells (Array.replicate 41 (.slice none 0 0)) 54)
  have HB0 := Hidden.mk hal
  generalize hgr : Array.replicate 41 (Value.slice none 0 0) = gr at *
  generalize rootsL l = R at *
  clear hn hg hrd hr hal hi0 hz0 hz1 hz2 hgr
  go_enter Tryz.func92, Tryz.ntmps92
  go_wp2_with fail
  clear hmk
  generalize w.alloc (.cells gr 54) = wA at *
  generalize hgw : w.heap.size = gw at HW0 ⊢
  refine (HRO.out wA HB0.out).mono ?_
  rintro e w1 ⟨v1, rfl, hown1, hb1⟩
  obtain ⟨A1, c1, rfl, -, -⟩ := own_split hown1
  have HR := Hidden.mk (own_rdX3 (f := rcells) (fun _ => rfl) rfl hown1)
  have HB1 := Hidden.mk (HB0.out.trans (hb1.mono HB0.out.size))
  have HW1 := Hidden.mk (HW0.out.below hb1)
  generalize hm : R.length = m at *
  have HM := Hidden.mk hm
  have HGW := Hidden.mk hgw
  clear hown1 hb1 HRO HW0 HB0 hm hgw
  go_wp2_with fail
  go_loopg [5] m (fun q i wr => ∃ k : Nat, k ≤ m ∧ q = m - k ∧ i = .int .i64 (k : Int) ∧ Hidden (WvB w wr gw (partV ((R.map (·.2)).take k)) ∧ Below w.heap.size w wr ∧ RdX rcells 2 wr A1 R))
  case atStart =>
    refine ⟨0, by omega, rfl, rfl, ⟨?_, HB1.out, HR.out⟩⟩
    have e : partV ((R.map (·.2)).take 0) = fun _ => [] := by funext q; simp [partV]
    rw [e]; exact HW1.out
  case round =>
    obtain ⟨k, hk, rfl, rfl, hst⟩ := hrel
    by_cases hlt : k < m
    · have hkR : k < R.length := by rw [HM.out]; exact hlt
      obtain ⟨pb, ob, rfl, hcx⟩ := hst.out.2.2 k hkR
      have x1 := hcx 1 _ rfl
      have hk' : k < (R.map (·.2)).length := by simpa using hkR
      have HPS := Hidden.mk (partV_succ (R.map (·.2)) k hk')
      have h41 : R[k].2 < 41 := HRB.out _ (by rw [HRH.out]; exact List.mem_map.2 ⟨_, List.getElem_mem hkR, rfl⟩)
      have he : (R.map (·.2))[k] = R[k].2 := by simp
      rw [he] at HPS
      obtain ⟨Ac, cc, g0, gf, -, -⟩ := hst.out.1.cell R[k].2 h41
      have HST := Hidden.mk hst.out
      generalize hq0 : R[k].2 = q0 at *
      have i0 : (0 : Int) ≤ k := by omega
      have i1 : (k : Int) < m := by omega
      have j0 : (0 : Int) ≤ q0 := by omega
      have j1 : (q0 : Int) < 41 := by omega
      have s3 : IntKind.i64.wrap ((k : Int) + 1) = (k : Int) + 1 := IntWalk.i64_in _ (by omega)
      have hald : Below wr.heap.size wr (wr.alloc (.cells #[.int .i64 (q0 : Int)] 3)) := (Below.refl wr.heap.size wr).alloc (Nat.le_refl _) _
      have HWA := Hidden.mk (hst.out.1.below hald)
      obtain ⟨A2, c2, y0, yf, -, -⟩ := HWA.out.cell q0 h41
      have hnew : RdX ncell 1 (wr.alloc (.cells #[.int .i64 (q0 : Int)] 3)) (some ⟨wr.heap.size, 0, none⟩) [q0] := own_rdX3 (f := ncell) (fun _ => rfl) rfl (own_one wr (.int .i64 (q0 : Int)))
      have hset := (HWA.out.set (c := 1) h41 hnew (by simp))
      rw [HPS.out] at hset
      have HNEW := Hidden.mk (hset.below (Below.refl _ _).drew)
      have HBN := Hidden.mk (((HST.out.2.1.trans (hald.mono HST.out.2.1.size)).setCell (p := ⟨gw, q0, none⟩) (by rw [← HGW.out]; exact Nat.le_refl _) (.slice (some ⟨wr.heap.size, 0, none⟩) 1 1)).drew)
      have HRN : Hidden (RdX rcells 2 (((wr.alloc (.cells #[.int .i64 (q0 : Int)] 3)).setCell ⟨gw, q0, none⟩ (.slice (some ⟨wr.heap.size, 0, none⟩) 1 1)).drew) (some ⟨pb, ob, none⟩) R) := ⟨by
        have h1 := HST.out.2.2.below hald
        refine h1.block (fun ad e hlt => ?_)
        obtain rfl := Option.some.inj e
        refine Below.heap_setCell _ _ _ _ ?_
        dsimp only
        intro e2
        obtain ⟨oA, oc, cur, h0, h3, h4⟩ := HWA.out.blk
        have h6 := (hald.cell (block_lt_of_cell x1)).trans x1
        simp only [World.cell?] at h6
        rw [e2, h0] at h6
        dsimp only at h6
        have hlt2 := (Array.getElem?_eq_some_iff.1 h6).1
        rw [(h4 _ (by omega)).1] at h6
        cases h6⟩
      have KX : Hidden (∀ W, Below wr.heap.size wr W → W.cell? ⟨pb, ob + k * 2 + 1, none⟩ = some (.int .i64 (q0 : Int))) := ⟨fun W hW => (hW.cell (block_lt_of_cell x1)).trans x1⟩
      have x1d := KX.out wr.drew (Below.refl _ _).drew
      have x1e : (((wr.alloc (.cells #[.int .i64 (q0 : Int)] 3)).setCell ⟨gw, q0, none⟩ (.slice (some ⟨wr.heap.size, 0, none⟩) 1 1)).drew).cell? ⟨pb, ob + k * 2 + 1, none⟩ = some (.int .i64 (q0 : Int)) := by
        obtain ⟨b', o', e', hc'⟩ := HRN.out k hkR
        injection e' with e1
        injection e1 with e2 e3
        subst e2 e3
        have := hc' 1 _ rfl
        rw [hq0] at this
        exact this
      clear hcx hst he hk' hald hnew hset g0 gf hq0
      go_wp2_with fail
      go_region_held3 (fun W => W.cell? ⟨pb, ob + k * 2 + 1, none⟩ = some (.int .i64 (q0 : Int))) (first | exact x1d | exact KX.out _ (((Below.refl wr.heap.size wr).drew).alloc (Nat.le_refl _) _) | exact KX.out _ (((Below.refl wr.heap.size wr).alloc (Nat.le_refl _) _).drew) | exact x1e) (first | (go_simp))
      clear y0 yf x1 x1d x1e KX
      go_wp2_with fail
      go_roundg (m - (k + 1))
      case measure => omega
      case rel => exact ⟨k + 1, by omega, rfl, by go_num, ⟨HNEW.out, HBN.out, HRN.out⟩⟩
    · obtain rfl : m = k := by omega
      have hT := hst.out.1
      rw [List.take_of_length_le (by rw [List.length_map, HM.out]; exact Nat.le_refl _), ← HRH.out] at hT
      have HS0 : Hidden (WyOk l (startV l) true ∧ WvB w wr gw (startV l) ∧ Below w.heap.size w wr) := ⟨⟨VOk.start HG.out, fun e => by cases e⟩, hT, hst.out.2.1⟩
      clear hT hst HR HW1 HB1 HRH
      go_wp2_with fail
      go_loopg [6] (mesV (startV l) true) (fun q b wr => ∃ (V : WV) (bb : Bool), q = mesV V bb ∧ b = .bool bb ∧ Hidden (WyOk l V bb ∧ WvB w wr gw V ∧ Below w.heap.size w wr))
      case atStart => exact ⟨_, true, rfl, rfl, HS0⟩
      case round =>
        obtain ⟨V, bb, rfl, rfl, hst⟩ := hrel
        generalize wr = wb at *
        cases bb with
        | false =>
          have hV : V = wayOf (fromW l) := funext fun y => hst.out.1.fin rfl y
          have hw := hst.out.2.1
          rw [hV] at hw
          have HF := Hidden.mk (And.intro hw hst.out.2.2)
          clear hst hV hw
          go_wp2_with fail
          go_ret
          exact ⟨_, rfl, HF.out.1, HF.out.2⟩
        | true =>
          have HN := Hidden.mk (hst.out.1.next HG.out)
          have HST := Hidden.mk hst.out
          clear hst HS0
          go_wp2_with fail
          go_loopg [6, 7] 40 (fun q a hh wq => ∃ k : Nat, k ≤ 40 ∧ q = 40 - k ∧ hh = .int .i64 ((k : Int) + 1) ∧ a = .bool (atH l V k).2 ∧ Hidden (WvB w wq gw (atH l V k).1 ∧ Below w.heap.size w wq))
          case atStart => exact ⟨0, by omega, rfl, rfl, rfl, ⟨HST.out.2.1, HST.out.2.2⟩⟩
          case round =>
            obtain ⟨k, hk, rfl, rfl, rfl, hsq⟩ := hrel
            generalize wr = wq at *
            have HVK := Hidden.mk (atH_ok HG.out HST.out.1.ok k)
            have HSU := Hidden.mk (atH_succ l V k)
            by_cases hlt : k < 40
            · have c0 : decide ((k : Int) + 1 ≤ 40) = true := decide_eq_true (by omega)
              have c0' : decide (k + 1 ≤ 40) = true := decide_eq_true (by omega)
              have c0'' : decide (k < 40) = true := decide_eq_true hlt
              have s1 : IntKind.i64.wrap ((k : Int) + 1 + 1) = (k : Int) + 1 + 1 := IntWalk.i64_in _ (by omega)
              have j0 : (0 : Int) ≤ (k : Int) + 1 := by omega
              have j1 : (k : Int) + 1 < 41 := by omega
              obtain ⟨A2, c2, y0, -, hr2, hc2⟩ := hsq.out.1.cell (k + 1) (by omega)
              have HSQ := Hidden.mk hsq.out
              generalize hs : atH l V k = s at *
              obtain ⟨V1, b1⟩ := s
              dsimp only at *
              by_cases hnil : V1 (k + 1) = []
              · have HSS : Hidden (atH l V (k + 1) = (V1, b1)) := ⟨by rw [HSU.out]; unfold stepH; rw [if_pos hnil]⟩
                have e0 : (V1 (k + 1)).length = 0 := by rw [hnil]; rfl
                rw [e0] at y0
                clear hsq hnil e0 hs hr2 hc2
                go_wp2_with fail
                go_roundg (40 - (k + 1))
                case measure => omega
                case rel => exact ⟨k + 1, by omega, rfl, by go_num, by rw [HSS.out], ⟨by rw [HSS.out]; exact HSQ.out.1, HSQ.out.2⟩⟩
              · have hway := HVK.out.way (k + 1) hnil
                have hEk : hE l ((k : Int) + 1) = 0 := hway.hE HG.out
                obtain ⟨k', hk', ek', hh', -⟩ := hE_zero hEk
                obtain rfl : k' = k := by omega
                have HRFK := Hidden.mk (HRF.out k' wq HSQ.out.2 hlt hh')
                have hn41 : (V1 (k' + 1)).length ≤ 41 := HVK.out.len _
                have hnp : 0 < (V1 (k' + 1)).length := List.length_pos_iff.2 hnil
                have HSS : Hidden (atH l V (k' + 1) = atV (k' + 1) (V1, b1) (refsL l ((k' : Int) + 1)) (refsL l ((k' : Int) + 1)).length) := ⟨by
                  rw [HSU.out]; unfold stepH atV; rw [if_neg hnil, List.take_length]; rfl⟩
                have HAV : Hidden (∀ i, VOk l (atV (k' + 1) (V1, b1) (refsL l ((k' : Int) + 1)) i).1 ∧ (atV (k' + 1) (V1, b1) (refsL l ((k' : Int) + 1)) i).1 (k' + 1) = V1 (k' + 1)) := ⟨fun i => atV_ok HG.out HVK.out hnil i⟩
                have HYR : Hidden (∀ y ∈ refsL l ((k' : Int) + 1), y < 41) := ⟨fun y hy => by have := hE_nat (refsL_mem (_y := 0) hy); omega⟩
                have HRL : Hidden ((refsL l ((k' : Int) + 1)).length ≤ 100000) := ⟨by
                  unfold refsL
                  have h1 := refsB_len l (readL l ((k' : Int) + 1) 0 (min (gL l ((k' : Int) + 1)) (gT l ((k' : Int) + 1)))) _ (Nat.le_refl _)
                  rw [List.take_length] at h1
                  refine Nat.le_trans h1 ?_
                  unfold readL
                  split
                  · rename_i hz
                    have := some_in HG.out hz
                    simp; omega
                  · simp⟩
                have e0 : (((V1 (k' + 1)).length : Int) == 0) = false := by simp; exact hnil
                have e0' : ((V1 (k' + 1)).length == 0) = false := by simp; exact hnil
                have e0'' : decide (V1 (k' + 1) = []) = false := decide_eq_false hnil
                generalize refsL l ((k' : Int) + 1) = RL at *
                clear hsq hs hway hEk ek' hh' hr2 hc2
                go_wp2_with fail
                refine HRFK.out.mono ?_
                rintro e w5 ⟨v8, rfl, hown5, hb5⟩
                obtain ⟨A8, c8, rfl, -, -⟩ := own_split hown5
                have HO5 := Hidden.mk hown5
                have HW5 := Hidden.mk (And.intro (HSQ.out.1.below hb5) (HSQ.out.2.trans (hb5.mono HSQ.out.2.size)))
                have HGQ : Hidden (gw < wq.heap.size) := ⟨HSQ.out.1.lt⟩
                clear hown5 hb5 HRFK y0 e0 e0' e0''
                go_wp2_with fail
                go_loopg [6, 9] RL.length (fun q a ii wp => ∃ i : Nat, i ≤ RL.length ∧ q = RL.length - i ∧ ii = .int .i64 (i : Int) ∧ a = .bool (atV (k' + 1) (V1, b1) RL i).2 ∧ Hidden (WvB w wp gw (atV (k' + 1) (V1, b1) RL i).1 ∧ Below w.heap.size w wp ∧ wp.ownsRow wq.heap.size 3 1 (.slice A8 RL.length c8) RL.length (RL.flatMap ncell)))
                case atStart => exact ⟨0, by omega, rfl, rfl, rfl, ⟨HW5.out.1, HW5.out.2, HO5.out⟩⟩
                case round =>
                  obtain ⟨i, hi, rfl, rfl, rfl, hsp⟩ := hrel
                  generalize wr = wp at *
                  by_cases hit : i < RL.length
                  · obtain ⟨pb2, ob2, hA8, hcx2⟩ := (own_rdX3 (f := ncell) (fun _ => rfl) rfl hsp.out.2.2) i hit
                    have y0 : wp.cell? ⟨pb2, ob2 + i, none⟩ = some (.int .i64 (RL[i] : Int)) := by simpa using hcx2 0 _ rfl
                    have h41 := HYR.out RL[i] (List.getElem_mem hit)
                    have HVS := Hidden.mk (atV_succ (k' + 1) (V1, b1) RL i hit)
                    obtain ⟨hVt, htk⟩ := HAV.out i
                    have hty41 := hVt.len RL[i]
                    obtain ⟨A2, c2, x0, -, hr2, hc2⟩ := hsp.out.1.cell (k' + 1) (by omega)
                    rw [htk] at x0 hr2 hc2
                    have HSP := Hidden.mk hsp.out
                    have HYC : Hidden (∀ W, Below wp.heap.size wp W → W.cell? ⟨pb2, ob2 + i, none⟩ = some (.int .i64 (RL[i] : Int))) := ⟨fun W hW => (hW.cell (block_lt_of_cell y0)).trans y0⟩
                    have HR2 := Hidden.mk (And.intro hr2 hc2)
                    have HTK := Hidden.mk htk
                    generalize RL[i] = y at *
                    generalize hat : atV (k' + 1) (V1, b1) RL i = t at *
                    obtain ⟨V2, b2⟩ := t
                    dsimp only at *
                    generalize hnx : V1 (k' + 1) = X at *
                    generalize hZ : V2 y = Z at *
                    have HZ := Hidden.mk hZ
                    have i0 : (0 : Int) ≤ i := by omega
                    have i1 : (i : Int) < RL.length := by omega
                    have y0i : (0 : Int) ≤ y := by omega
                    have y1i : (y : Int) < 41 := by omega
                    have s4 : IntKind.i64.wrap ((i : Int) + 1) = (i : Int) + 1 := IntWalk.i64_in _ (by have := HRL.out; omega)
                    obtain ⟨hi0, hz0, hz1, hz2⟩ := HI.out
                    subst hA8
                    clear hcx2 hsp hat hnx hZ hVt htk hr2 hc2
                    by_cases hzn : Z = []
                    · subst hzn
                      have HTT : Hidden (stepV (k' + 1) (V2, b2) y = (vset V2 y (X ++ [y]), true)) := ⟨by unfold stepV; dsimp only; rw [if_pos (.inl HZ.out), HTK.out]⟩
                      go_wp2_with (first | (at_builtin; refine wpList_append_src _ rfl (.tmp 54) (.tmp 58) _ rfl wp.heap.size 3 i0' _ 1 8 Tryz.underlying54 hi0 hz0 hz1 hz2 rfl (by decide) (.slice none 0 0) 0 [] rfl (World.ownsRow_nil _ _ _ _) A2 X.length c2 (X.flatMap ncell) rfl (Src.of_rdX ncell_len (by omega) rfl HR2.out.1) (ncell_one X) (by simp only [maxLen]; omega) (by omega) (Nat.le_refl _) ?_; intro v8 w8 hown8 hg8 hat8; rw [Nat.zero_add, List.nil_append] at hown8; have hB8 : Below wp.heap.size wp w8 := (Below.refl _ _).grown hg8 (Nat.le_refl _) (fun k hk => by simp [Value.ownBlock] at hk); have yc8 := HYC.out w8 hB8) | (at_builtin; refine wpList_append_lies _ rfl (.tmp 60) (.tmp 65) _ rfl wp.heap.size 3 i0' _ 1 8 Tryz.underlying54 hi0 hz0 hz1 hz2 rfl (by decide) v8 X.length (X.flatMap ncell) rfl (own_below hown8 ((Below.refl _ _).alloc (Nat.le_refl _) _)) ⟨(w8).heap.size, 0, none⟩ 1 1 [.int .i64 (y : Int)] rfl rfl (World.news_of_block (cs := #[.int .i64 (y : Int)]) (t := 3) (fr := (0, 0)) (heap_alloc_new (w8) _)) (by simp [Value.oneCell']) (by omega) (by simp only [maxLen]; omega) (by omega) (by have hz_ := hB8.size; rw [World.size_alloc]; omega) ((w8).heap.size + 1) (by simp) ?_; intro g9 cap9 w9 hown9 hg9 hat9 hlt9; have hgW := grown_trans' ((Below.refl w8.heap.size w8).alloc (Nat.le_refl _) _) hg9; have hB9 : Below wp.heap.size wp w9 := hB8.grown hgW hB8.size (fun q hq => (hown8.lt q hq).1); have yc9 := HYC.out w9 hB9; obtain ⟨Ax, cx, z0, zf, hrx, hcx⟩ := (HSP.out.1.below hB9).cell y h41; rw [HZ.out] at z0 hrx hcx))
                      have hownN : w9.ownsRow wp.heap.size 3 1 (.slice (some ⟨g9, 0, none⟩) (X.length + 1) cap9) (X.length + 1) ((X ++ [y]).flatMap ncell) := by
                        rw [List.flatMap_append]; simpa [ncell] using hown9
                      have hrN := own_rdX3 (f := ncell) (fun _ => rfl) (show (X ++ [y]).length = X.length + 1 by simp) hownN
                      have hcN : (X ++ [y]).length ≤ cap9 := by
                        obtain ⟨_, _, e, h1, -⟩ := own_split hownN
                        injection e with _ _ e3
                        rw [← e3] at h1; simpa using h1
                      have hWN := (HSP.out.1.below hB9).set (c := cap9) h41 hrN hcN
                      rw [show (X ++ [y]).length = X.length + 1 by simp] at hWN
                      have hBN := (HSP.out.2.1.trans (hB9.mono HSP.out.2.1.size)).setCell (p := ⟨gw, y, none⟩) (by rw [← HGW.out]; exact Nat.le_refl _) (.slice (some ⟨g9, 0, none⟩) (X.length + 1) cap9)
                      have hON : (w9.setCell ⟨gw, y, none⟩ (.slice (some ⟨g9, 0, none⟩) (X.length + 1) cap9)).ownsRow wq.heap.size 3 1 (.slice (some ⟨pb2, ob2, none⟩) RL.length c8) RL.length (RL.flatMap ncell) := ownsRow_block (own_below HSP.out.2.2 hB9) fun q hq => Below.heap_setCell _ _ _ _ (by have := (HSP.out.2.2.lt q hq).1; have := HGQ.out; dsimp only; omega)
                      have HF : Hidden (WvB w (w9.setCell ⟨gw, y, none⟩ (.slice (some ⟨g9, 0, none⟩) (X.length + 1) cap9)) gw (stepV (k' + 1) (V2, b2) y).1 ∧ Below w.heap.size w (w9.setCell ⟨gw, y, none⟩ (.slice (some ⟨g9, 0, none⟩) (X.length + 1) cap9)) ∧ (w9.setCell ⟨gw, y, none⟩ (.slice (some ⟨g9, 0, none⟩) (X.length + 1) cap9)).ownsRow wq.heap.size 3 1 (.slice (some ⟨pb2, ob2, none⟩) RL.length c8) RL.length (RL.flatMap ncell)) := ⟨by rw [HTT.out]; exact hWN, hBN, hON⟩
                      clear hownN hrN hcN hWN hBN hON hown8 hg8 hat8 hB8 yc8 hown9 hg9 hat9 hlt9 hgW hB9 yc9 z0 zf hrx hcx hi0 hz0 hz1 hz2
                      go_roundg (RL.length - (i + 1))
                      case measure => omega
                      case rel => exact ⟨i + 1, by omega, rfl, by go_num, by rw [HVS.out, HTT.out], ⟨by rw [HVS.out]; exact HF.out.1, HF.out.2.1, HF.out.2.2⟩⟩
                    · have e1 : ((Z.length : Int) == 0) = false := by simp; exact hzn
                      have e1' : (Z.length == 0) = false := by simp; exact hzn
                      have e1'' : decide (Z = []) = false := decide_eq_false hzn
                      go_wp2_with (first | (at_builtin; refine wpList_append_src _ rfl (.tmp 54) (.tmp 58) _ rfl wp.heap.size 3 i0' _ 1 8 Tryz.underlying54 hi0 hz0 hz1 hz2 rfl (by decide) (.slice none 0 0) 0 [] rfl (World.ownsRow_nil _ _ _ _) A2 X.length c2 (X.flatMap ncell) rfl (Src.of_rdX ncell_len (by omega) rfl HR2.out.1) (ncell_one X) (by simp only [maxLen]; omega) (by omega) (Nat.le_refl _) ?_; intro v8 w8 hown8 hg8 hat8; rw [Nat.zero_add, List.nil_append] at hown8; have hB8 : Below wp.heap.size wp w8 := (Below.refl _ _).grown hg8 (Nat.le_refl _) (fun k hk => by simp [Value.ownBlock] at hk); have yc8 := HYC.out w8 hB8) | (at_builtin; refine wpList_append_lies _ rfl (.tmp 60) (.tmp 65) _ rfl wp.heap.size 3 i0' _ 1 8 Tryz.underlying54 hi0 hz0 hz1 hz2 rfl (by decide) v8 X.length (X.flatMap ncell) rfl (own_below hown8 ((Below.refl _ _).alloc (Nat.le_refl _) _)) ⟨(w8).heap.size, 0, none⟩ 1 1 [.int .i64 (y : Int)] rfl rfl (World.news_of_block (cs := #[.int .i64 (y : Int)]) (t := 3) (fr := (0, 0)) (heap_alloc_new (w8) _)) (by simp [Value.oneCell']) (by omega) (by simp only [maxLen]; omega) (by omega) (by have hz_ := hB8.size; rw [World.size_alloc]; omega) ((w8).heap.size + 1) (by simp) ?_; intro g9 cap9 w9 hown9 hg9 hat9 hlt9; have hgW := grown_trans' ((Below.refl w8.heap.size w8).alloc (Nat.le_refl _) _) hg9; have hB9 : Below wp.heap.size wp w9 := hB8.grown hgW hB8.size (fun q hq => (hown8.lt q hq).1); have yc9 := HYC.out w9 hB9; obtain ⟨Ax, cx, z0, zf, hrx, hcx⟩ := (HSP.out.1.below hB9).cell y h41; rw [HZ.out] at z0 hrx hcx))
                      have hownN : w9.ownsRow wp.heap.size 3 1 (.slice (some ⟨g9, 0, none⟩) (X.length + 1) cap9) (X.length + 1) ((X ++ [y]).flatMap ncell) := by
                        rw [List.flatMap_append]; simpa [ncell] using hown9
                      have hrN := own_rdX3 (f := ncell) (fun _ => rfl) (show (X ++ [y]).length = X.length + 1 by simp) hownN
                      have hcN : (X ++ [y]).length ≤ cap9 := by
                        obtain ⟨_, _, e, h1, -⟩ := own_split hownN
                        injection e with _ _ e3
                        rw [← e3] at h1; simpa using h1
                      have hLS := less_any (some ⟨g9, 0, none⟩) Ax (X.length + 1) Z.length cap9 cx (X ++ [y]) Z w9 (by simp) rfl (by omega) (by omega) hrN hrx
                      have HLS := Hidden.mk hLS
                      clear hLS
                      by_cases hlw : lessW (X ++ [y]) Z = true
                      · rw [hlw] at HLS
                        have HTT : Hidden (stepV (k' + 1) (V2, b2) y = (vset V2 y (X ++ [y]), true)) := ⟨by unfold stepV; dsimp only; rw [if_pos (.inr (by rw [HTK.out, HZ.out]; exact hlw)), HTK.out]⟩
                        refine HLS.out.mono ?_
                        rintro e w10 ⟨rfl, hb10⟩
                        have hB10 := hB9.trans (hb10.mono hB9.size)
                        have yc10 := HYC.out w10 hB10
                        obtain ⟨Ay, cy, z1, zf1, -, -⟩ := (HSP.out.1.below hB10).cell y h41
                        clear yc8 yc9 z0 zf e1 e1' e1'' hlw
                        go_wp2_with fail
                        have hWN := (HSP.out.1.below hB10).set (c := cap9) h41 (hrN.below hb10) hcN
                        rw [show (X ++ [y]).length = X.length + 1 by simp] at hWN
                        have hBN := (HSP.out.2.1.trans (hB10.mono HSP.out.2.1.size)).setCell (p := ⟨gw, y, none⟩) (by rw [← HGW.out]; exact Nat.le_refl _) (.slice (some ⟨g9, 0, none⟩) (X.length + 1) cap9)
                        have hON : (w10.setCell ⟨gw, y, none⟩ (.slice (some ⟨g9, 0, none⟩) (X.length + 1) cap9)).ownsRow wq.heap.size 3 1 (.slice (some ⟨pb2, ob2, none⟩) RL.length c8) RL.length (RL.flatMap ncell) := ownsRow_block (own_below HSP.out.2.2 hB10) fun q hq => Below.heap_setCell _ _ _ _ (by have := (HSP.out.2.2.lt q hq).1; have := HGQ.out; dsimp only; omega)
                        have HF : Hidden (WvB w (w10.setCell ⟨gw, y, none⟩ (.slice (some ⟨g9, 0, none⟩) (X.length + 1) cap9)) gw (stepV (k' + 1) (V2, b2) y).1 ∧ Below w.heap.size w (w10.setCell ⟨gw, y, none⟩ (.slice (some ⟨g9, 0, none⟩) (X.length + 1) cap9)) ∧ (w10.setCell ⟨gw, y, none⟩ (.slice (some ⟨g9, 0, none⟩) (X.length + 1) cap9)).ownsRow wq.heap.size 3 1 (.slice (some ⟨pb2, ob2, none⟩) RL.length c8) RL.length (RL.flatMap ncell)) := ⟨by rw [HTT.out]; exact hWN, hBN, hON⟩
                        clear hownN hrN hcN hWN hBN hON hown8 hg8 hat8 hB8 hown9 hg9 hat9 hlt9 hgW hB9 hb10 hB10 yc10 z1 zf1 hrx hcx hi0 hz0 hz1 hz2
                        go_roundg (RL.length - (i + 1))
                        case measure => omega
                        case rel => exact ⟨i + 1, by omega, rfl, by go_num, by rw [HVS.out, HTT.out], ⟨by rw [HVS.out]; exact HF.out.1, HF.out.2.1, HF.out.2.2⟩⟩
                      · have hlf : lessW (X ++ [y]) Z = false := by simpa using hlw
                        rw [hlf] at HLS
                        have HTT : Hidden (stepV (k' + 1) (V2, b2) y = (V2, b2)) := ⟨by
                          unfold stepV; dsimp only; rw [if_neg]
                          rintro (h1 | h1)
                          · rw [HZ.out] at h1; exact hzn h1
                          · rw [HTK.out, HZ.out] at h1; exact hlw h1⟩
                        refine HLS.out.mono ?_
                        rintro e w10 ⟨rfl, hb10⟩
                        have hB10 := hB9.trans (hb10.mono hB9.size)
                        have HF : Hidden (WvB w w10 gw (stepV (k' + 1) (V2, b2) y).1 ∧ Below w.heap.size w w10 ∧ w10.ownsRow wq.heap.size 3 1 (.slice (some ⟨pb2, ob2, none⟩) RL.length c8) RL.length (RL.flatMap ncell)) := ⟨by rw [HTT.out]; exact HSP.out.1.below hB10, HSP.out.2.1.trans (hB10.mono HSP.out.2.1.size), own_below HSP.out.2.2 hB10⟩
                        clear yc8 yc9 z0 zf e1 e1' e1'' hlw hlf hownN hrN hcN hown8 hg8 hat8 hB8 hown9 hg9 hat9 hlt9 hgW hB9 hb10 hB10 hrx hcx hi0 hz0 hz1 hz2
                        go_wp2_with fail
                        go_roundg (RL.length - (i + 1))
                        case measure => omega
                        case rel => exact ⟨i + 1, by omega, rfl, by go_num, by rw [HVS.out, HTT.out], ⟨by rw [HVS.out]; exact HF.out.1, HF.out.2.1, HF.out.2.2⟩⟩
                  · obtain rfl : i = RL.length := by omega
                    have HF : Hidden (WvB w wp gw (atV (k' + 1) (V1, b1) RL RL.length).1 ∧ Below w.heap.size w wp) := ⟨hsp.out.1, hsp.out.2.1⟩
                    have d8 : decide ((RL.length : Int) < RL.length) = false := decide_eq_false (by omega)
                    have HS2 : Hidden (atH l V (k' + 1) = atV (k' + 1) (V1, b1) RL RL.length) := ⟨HSS.out⟩
                    generalize atV (k' + 1) (V1, b1) RL RL.length = tN at *
                    obtain ⟨VN, bN⟩ := tN
                    dsimp only at *
                    clear hsp HSS
                    go_wp2_with fail
                    go_roundg (40 - (k' + 1))
                    case measure => omega
                    case rel => exact ⟨k' + 1, by omega, rfl, by go_num, by rw [HS2.out], ⟨by rw [HS2.out]; exact HF.out.1, HF.out.2⟩⟩
            · obtain rfl : k = 40 := by omega
              have HF : Hidden (WyOk l (atH l V 40).1 (atH l V 40).2 ∧ WvB w wq gw (atH l V 40).1 ∧ Below w.heap.size w wq) := ⟨HN.out.1, hsq.out.1, hsq.out.2⟩
              have HME := Hidden.mk HN.out.2
              clear hsq HVK HSU HN HST
              generalize atH l V 40 = sN at *
              obtain ⟨VN, bN⟩ := sN
              dsimp only at *
              go_wp2_with fail
              go_roundg (mesV VN bN)
              case measure => exact HME.out
              case rel => exact ⟨VN, bN, rfl, rfl, HF⟩
end Go.Proofs.YtbnobjlphmkgeaaGreatDoor
/- The reference: Live. -/
namespace Go.Proofs.YtbnobjlphmkgeaaGreatDoor
open Go.RowKit

def pickF (l : Bytes) (b : Bool) (k : Nat) : List Nat := ((List.range k).filter fun j => hasE (rawE l j) && ((fromW l (j + 1)).isSome == b)).map (· + 1)
theorem pickF_succ (l : Bytes) (b : Bool) (k : Nat) : pickF l b (k + 1) = pickF l b k ++ (if (hasE (rawE l k) && ((fromW l (k + 1)).isSome == b)) = true then [k + 1] else []) := by
  unfold pickF
  rw [List.range_succ, List.filter_append, List.map_append]
  congr 1
  cases h : (hasE (rawE l k) && ((fromW l (k + 1)).isSome == b)) <;> simp [h]
theorem pickF_len (l : Bytes) (b : Bool) (k : Nat) : (pickF l b k).length ≤ k := by
  unfold pickF; rw [List.length_map]
  have := List.length_filter_le (fun j => hasE (rawE l j) && ((fromW l (j + 1)).isSome == b)) (List.range k)
  rwa [List.length_range] at this
theorem pickF_up (l : Bytes) (b : Bool) (k : Nat) : (pickF l b k).Pairwise (· < ·) := by
  unfold pickF
  refine List.pairwise_map.2 ?_
  exact ((List.pairwise_lt_range (n := k)).filter _).imp fun h => by omega
theorem pickF_mem {l : Bytes} {b : Bool} {x : Nat} : x ∈ pickF l b 40 ↔ ∃ k, k < 40 ∧ hasE (rawE l k) = true ∧ (fromW l (k + 1)).isSome = b ∧ x = k + 1 := by
  unfold pickF
  simp only [List.mem_map, List.mem_filter, List.mem_range, Bool.and_eq_true, beq_iff_eq]
  constructor
  · rintro ⟨k, ⟨h1, h2, h3⟩, rfl⟩; exact ⟨k, h1, h2, h3, rfl⟩
  · rintro ⟨k, h1, h2, h3, rfl⟩; exact ⟨k, ⟨h1, h2, h3⟩, rfl⟩
theorem pick_live {l : Bytes} (hg : Good l) : pickF l true 40 = liveL l := by
  have hu := liveL_up l
  have hm : ∀ x, x ∈ liveL l ↔ (fromW l x).isSome = true := fun x => liveL_mem hg
  have hp : ∀ x, x ∈ pickF l true 40 ↔ (fromW l x).isSome = true := fun x => by
    rw [pickF_mem]
    constructor
    · rintro ⟨k, _, _, h, rfl⟩; exact h
    · intro h
      obtain ⟨k, h1, h2, h3, -⟩ := hE_zero (way_hE hg h)
      obtain rfl : x = k + 1 := by omega
      exact ⟨k, h1, h3, h, rfl⟩
  have hq := pickF_up l true 40
  generalize liveL l = S at *
  generalize pickF l true 40 = T at *
  exact up_ext hq hu fun x => (hp x).trans (hm x).symm
theorem pick_dead (l : Bytes) : pickF l false 40 = deadL l := by
  have hu := deadL_up l
  have hp : ∀ x, x ∈ pickF l false 40 ↔ x ∈ deadL l := fun x => by
    rw [pickF_mem, deadL_mem]
    constructor
    · rintro ⟨k, a, b, c, rfl⟩; exact ⟨k, a, b, by simpa using c, rfl⟩
    · rintro ⟨k, a, b, c, rfl⟩; exact ⟨k, a, b, by rw [c]; rfl, rfl⟩
  have hq := pickF_up l false 40
  generalize deadL l = S at *
  generalize pickF l false 40 = T at *
  exact up_ext hq hu hp
theorem way_len {l : Bytes} (hg : Good l) (x : Nat) : ((fromW l x).isSome = true ↔ 0 < (wayOf (fromW l) x).length) ∧ (wayOf (fromW l) x).length ≤ 41 := by
  obtain ⟨D, hD, -⟩ := fromW_ok hg
  have hm := (MinOk.at_ hg 41).len
  have hln : ∀ p, fromW l x = some p → p.length ≤ 40 := fun p hp => by
    have hnd : p.Nodup := by
      refine List.pairwise_iff_getElem.2 fun i j hi hj hij e' => ?_
      have h1 := hD.pre _ x p (Nat.le_refl _) hp i hi
      have h2 := hD.pre _ x p (Nat.le_refl _) hp j hj
      rw [e', h2] at h1
      have := congrArg List.length (Option.some.inj h1)
      simp at this; omega
    refine nodup_le1 hnd fun k hk => ?_
    obtain ⟨i, hi, rfl⟩ := List.getElem_of_mem hk
    exact hE_nat (hD.dh _ ((hD.dk _).1 (by rw [hD.pre _ x p (Nat.le_refl _) hp i hi]; rfl)))
  have hw := hD.ways x
  generalize fromW l = W at *
  unfold wayOf
  cases h : W x with
  | none => simp
  | some p =>
    obtain ⟨q, e, -⟩ := hw p h
    have := hln p h
    refine ⟨⟨fun _ => by rw [e]; simp, fun _ => rfl⟩, ?_⟩
    show p.length ≤ 41
    omega
set_option maxRecDepth 100000 in
set_option maxHeartbeats 1000000 in
theorem rlive_ok (p off n c : Nat) (l : Bytes) (w : World) (hn : l.length = n) (hg : Good l) (hnc : n ≤ c) (hrd : Rd w (some ⟨p, off, none⟩) l) :
    Calls Tryz.prog 24 #[.slice (some ⟨p, off, none⟩) n c] w fun e w' => ∃ v1 v2, e = .returned (.tuple #[v1, v2]) ∧ w'.ownsRow w.heap.size 3 1 v1 (liveL l).length ((liveL l).flatMap ncell) ∧ w'.ownsRow w.heap.size 3 1 v2 (deadL l).length ((deadL l).flatMap ncell) ∧ Below w.heap.size w w' := by
  obtain ⟨i0', hi0, hz0, hz1, hz2⟩ := info_parts int_infoC
  have HI := Hidden.mk (And.intro hi0 (And.intro hz0 (And.intro hz1 hz2)))
  have hbd := hg.bd
  have HWY := Hidden.mk (ways_any p off n c l w hn hg hnc hrd)
  have HENT : Hidden (∀ k : Nat, k < 40 → ∀ W, Below w.heap.size w W → Calls Tryz.prog 29 #[.slice (some ⟨p, off, none⟩) n c, .int .i64 ((k : Int) + 1)] W fun e w' => e = .returned (.tuple #[entR ((k : Int) + 1) (rawE l k), .bool (hasE (rawE l k))]) ∧ Below W.heap.size W w') := ⟨fun k hk W hW => refEntry_ok _ n c l k W hn (by omega) hnc (hrd.below hW) hk⟩
  have HWL : Hidden (∀ x, ((fromW l x).isSome = true ↔ 0 < (wayOf (fromW l) x).length) ∧ (wayOf (fromW l) x).length ≤ 41) := ⟨way_len hg⟩
  have HPS : Hidden (∀ b k, pickF l b (k + 1) = pickF l b k ++ (if (hasE (rawE l k) && ((fromW l (k + 1)).isSome == b)) = true then [k + 1] else [])) := ⟨pickF_succ l⟩
  have HPL : Hidden (∀ b k, (pickF l b k).length ≤ k) := ⟨pickF_len l⟩
  have HL1 : Hidden (pickF l true 40 = liveL l ∧ pickF l false 40 = deadL l ∧ pickF l true 0 = [] ∧ pickF l false 0 = []) := ⟨pick_live hg, pick_dead l, rfl, rfl⟩
  generalize liveL l = LV at *
  generalize deadL l = DD at *
  generalize pickF l = PF at *
  generalize fromW l = W at *
  clear hn hg hrd hi0 hz0 hz1 hz2 hbd
  go_enter Tryz.func24, Tryz.ntmps24
  go_wp2_with fail
  refine HWY.out.mono ?_
  rintro e w1 ⟨gw, rfl, hW1, hb1⟩
  have HW1 := Hidden.mk hW1
  have HB1 := Hidden.mk hb1
  clear hW1 hb1 HWY
  go_wp2_with fail
  go_loopg [5, 6, 7] 40 (fun q v5 v6 hh wr => ∃ k : Nat, k ≤ 40 ∧ q = 40 - k ∧ hh = .int .i64 ((k : Int) + 1) ∧ Hidden (Below w1.heap.size w1 wr ∧ wr.ownsRow w1.heap.size 3 1 v5 (PF true k).length ((PF true k).flatMap ncell) ∧ wr.ownsRow w1.heap.size 3 1 v6 (PF false k).length ((PF false k).flatMap ncell) ∧ ∀ q, v5.ownBlock = some q → v6.ownBlock ≠ some q))
  case atStart => exact ⟨0, by omega, rfl, rfl, ⟨Below.refl _ _, by rw [HL1.out.2.2.1]; exact World.ownsRow_nil _ _ _ _, by rw [HL1.out.2.2.2]; exact World.ownsRow_nil _ _ _ _, fun q hq => by cases hq⟩⟩
  case round =>
    obtain ⟨k, hk, rfl, rfl, hst⟩ := hrel
    by_cases hlt : k < 40
    · have c0 : decide ((k : Int) + 1 ≤ 40) = true := decide_eq_true (by omega)
      have c0' : decide (k + 1 ≤ 40) = true := decide_eq_true (by omega)
      have c0'' : decide (k < 40) = true := decide_eq_true hlt
      have s1 : IntKind.i64.wrap ((k : Int) + 1 + 1) = (k : Int) + 1 + 1 := IntWalk.i64_in _ (by omega)
      have j0 : (0 : Int) ≤ (k : Int) + 1 := by omega
      have j1 : (k : Int) + 1 < 41 := by omega
      have HE := Hidden.mk (HENT.out k hlt wr (HB1.out.trans (hst.out.1.mono HB1.out.size)))
      unfold entR entV at HE
      have HP1 := Hidden.mk (HPS.out true k)
      have HP0 := Hidden.mk (HPS.out false k)
      have hl1 := HPL.out true k
      have hl0 := HPL.out false k
      have HST := Hidden.mk hst.out
      have HWK := Hidden.mk (HWL.out (k + 1))
      generalize PF true k = P1 at *
      generalize PF false k = P0 at *
      generalize hasE (rawE l k) = hs at *
      generalize (rAt (rawE l k) : Int) = a1 at *
      generalize (rLen (rawE l k) : Int) = a2 at *
      generalize rTag (rawE l k) = a3 at *
      clear hst
      go_wp2_with fail
      refine HE.out.mono ?_
      rintro e w5 ⟨rfl, hb5⟩
      have hal := hb5.alloc hb5.size (.cells #[.int .i64 ((k : Int) + 1), .int .i64 a1, .int .i64 a2, .int .i64 a3] 66)
      have HB6 := Hidden.mk (HST.out.1.trans (hal.mono HST.out.1.size))
      have HO5 := Hidden.mk (own_below HST.out.2.1 hal)
      have HO6 := Hidden.mk (own_below HST.out.2.2.1 hal)
      have HSEP := Hidden.mk HST.out.2.2.2
      clear hb5 hal HST HE
      cases hs with
      | false =>
        have HS1 : Hidden (PF true (k + 1) = P1 ∧ PF false (k + 1) = P0) := ⟨by rw [HP1.out]; simp, by rw [HP0.out]; simp⟩
        clear HP1 HP0
        go_wp2_with fail
        go_roundg (40 - (k + 1))
        case measure => omega
        case rel => exact ⟨k + 1, by omega, rfl, by go_num, ⟨HB6.out, by rw [HS1.out.1]; exact HO5.out, by rw [HS1.out.2]; exact HO6.out, HSEP.out⟩⟩
      | true =>
        obtain ⟨hi0, hz0, hz1, hz2⟩ := HI.out
        obtain ⟨Ax, cx, x0, -, -, -⟩ := (HW1.out.below HB6.out).cell (k + 1) (by omega)
        generalize hX : (wayOf W (k + 1)).length = X at *
        cases hsm : (W (k + 1)).isSome with
        | true =>
          have hpos : 0 < X := HWK.out.1.1 hsm
          have d1 : decide (0 < X) = true := decide_eq_true hpos
          have d1' : decide ((0 : Int) < (X : Int)) = true := decide_eq_true (by omega)
          have HS1 : Hidden (PF true (k + 1) = P1 ++ [k + 1] ∧ PF false (k + 1) = P0) := ⟨by rw [HP1.out, hsm]; simp, by rw [HP0.out, hsm]; simp⟩
          clear HP1 HP0 HWK hsm hpos
          go_wp2_with (at_builtin; refine wpList_append_lies _ rfl (.tmp 31) (.tmp 33) _ rfl w1.heap.size 3 i0' _ 1 8 Tryz.underlying54 hi0 hz0 hz1 hz2 rfl (by decide) u5 P1.length (P1.flatMap ncell) rfl (own_below HO5.out ((Below.refl _ _).alloc (Nat.le_refl _) _)) ⟨w5.heap.size + 1, 0, none⟩ 1 1 [.int .i64 ((k : Int) + 1)] rfl rfl (World.news_of_block (cs := #[.int .i64 ((k : Int) + 1)]) (t := 3) (fr := (0, 0)) (by have hq_ := heap_alloc_new ((w5.alloc (.cells #[.int .i64 ((k : Int) + 1), .int .i64 a1, .int .i64 a2, .int .i64 a3] 66))) (.cells #[.int .i64 ((k : Int) + 1)] 3); rwa [World.size_alloc] at hq_)) (by simp [Value.oneCell']) (by omega) (by simp only [maxLen]; omega) (by omega) (by have hz_ := HB6.out.size; rw [World.size_alloc]; omega) (w5.heap.size + 1 + 1) (by simp) ?_; intro g8 cap8 w8 hown8 hg8 hat8 hlt8)
          have hgW := grown_trans' ((Below.refl (w5.alloc (.cells #[.int .i64 ((k : Int) + 1), .int .i64 a1, .int .i64 a2, .int .i64 a3] 66)).heap.size (w5.alloc (.cells #[.int .i64 ((k : Int) + 1), .int .i64 a1, .int .i64 a2, .int .i64 a3] 66))).alloc (Nat.le_refl _) _) hg8
          have hB8 : Below w1.heap.size w1 w8 := HB6.out.grown hgW HB6.out.size (fun q hq => (HO5.out.lt q hq).1)
          have hO6 := own_other HO6.out hgW fun q hq e => HSEP.out q e hq
          have hsz : (w5.alloc (.cells #[.int .i64 ((k : Int) + 1), .int .i64 a1, .int .i64 a2, .int .i64 a3] 66)).heap.size = w5.heap.size + 1 := by simp
          have HF : Hidden (Below w1.heap.size w1 w8 ∧ w8.ownsRow w1.heap.size 3 1 (.slice (some ⟨g8, 0, none⟩) (P1.length + 1) cap8) (P1 ++ [k + 1]).length ((P1 ++ [k + 1]).flatMap ncell) ∧ w8.ownsRow w1.heap.size 3 1 u6 P0.length (P0.flatMap ncell) ∧ ∀ q, (Value.slice (some ⟨g8, 0, none⟩) (P1.length + 1) cap8).ownBlock = some q → u6.ownBlock ≠ some q) := ⟨hB8, by rw [List.length_append, List.flatMap_append]; simpa [ncell] using hown8, hO6, fun q hq e => by
            have hq' : g8 = q := by simpa [Value.ownBlock] using hq
            subst hq'
            rcases hat8 with h8 | h8
            · exact HSEP.out _ h8 e
            · have := (HO6.out.lt _ e).2; omega⟩
          clear hgW hB8 hO6 hsz hown8 hg8 hat8 hlt8 hi0 hz0 hz1 hz2 x0
          go_roundg (40 - (k + 1))
          case measure => omega
          case rel => exact ⟨k + 1, by omega, rfl, by go_num, ⟨HF.out.1, by rw [HS1.out.1]; exact HF.out.2.1, by rw [HS1.out.2]; exact HF.out.2.2.1, HF.out.2.2.2⟩⟩
        | false =>
          have hz : X = 0 := by
            rcases Nat.eq_zero_or_pos X with h | h
            · exact h
            · have := HWK.out.1.2 h; rw [hsm] at this; cases this
          have HS1 : Hidden (PF true (k + 1) = P1 ∧ PF false (k + 1) = P0 ++ [k + 1]) := ⟨by rw [HP1.out, hsm]; simp, by rw [HP0.out, hsm]; simp⟩
          subst hz
          clear HP1 HP0 HWK hsm
          go_wp2_with (at_builtin; refine wpList_append_lies _ rfl (.tmp 36) (.tmp 38) _ rfl w1.heap.size 3 i0' _ 1 8 Tryz.underlying54 hi0 hz0 hz1 hz2 rfl (by decide) u6 P0.length (P0.flatMap ncell) rfl (own_below HO6.out ((Below.refl _ _).alloc (Nat.le_refl _) _)) ⟨w5.heap.size + 1, 0, none⟩ 1 1 [.int .i64 ((k : Int) + 1)] rfl rfl (World.news_of_block (cs := #[.int .i64 ((k : Int) + 1)]) (t := 3) (fr := (0, 0)) (by have hq_ := heap_alloc_new ((w5.alloc (.cells #[.int .i64 ((k : Int) + 1), .int .i64 a1, .int .i64 a2, .int .i64 a3] 66))) (.cells #[.int .i64 ((k : Int) + 1)] 3); rwa [World.size_alloc] at hq_)) (by simp [Value.oneCell']) (by omega) (by simp only [maxLen]; omega) (by omega) (by have hz_ := HB6.out.size; rw [World.size_alloc]; omega) (w5.heap.size + 1 + 1) (by simp) ?_; intro g8 cap8 w8 hown8 hg8 hat8 hlt8)
          have hgW := grown_trans' ((Below.refl (w5.alloc (.cells #[.int .i64 ((k : Int) + 1), .int .i64 a1, .int .i64 a2, .int .i64 a3] 66)).heap.size (w5.alloc (.cells #[.int .i64 ((k : Int) + 1), .int .i64 a1, .int .i64 a2, .int .i64 a3] 66))).alloc (Nat.le_refl _) _) hg8
          have hB8 : Below w1.heap.size w1 w8 := HB6.out.grown hgW HB6.out.size (fun q hq => (HO6.out.lt q hq).1)
          have hO5 := own_other HO5.out hgW fun q hq e => HSEP.out q hq e
          have hsz : (w5.alloc (.cells #[.int .i64 ((k : Int) + 1), .int .i64 a1, .int .i64 a2, .int .i64 a3] 66)).heap.size = w5.heap.size + 1 := by simp
          have HF : Hidden (Below w1.heap.size w1 w8 ∧ w8.ownsRow w1.heap.size 3 1 u5 P1.length (P1.flatMap ncell) ∧ w8.ownsRow w1.heap.size 3 1 (.slice (some ⟨g8, 0, none⟩) (P0.length + 1) cap8) (P0 ++ [k + 1]).length ((P0 ++ [k + 1]).flatMap ncell) ∧ ∀ q, u5.ownBlock = some q → (Value.slice (some ⟨g8, 0, none⟩) (P0.length + 1) cap8).ownBlock ≠ some q) := ⟨hB8, hO5, by rw [List.length_append, List.flatMap_append]; simpa [ncell] using hown8, fun q hq e => by
            have hq' : g8 = q := by simpa [Value.ownBlock] using e
            subst hq'
            rcases hat8 with h8 | h8
            · exact HSEP.out _ hq h8
            · have := (HO5.out.lt _ hq).2; omega⟩
          clear hgW hB8 hO5 hsz hown8 hg8 hat8 hlt8 hi0 hz0 hz1 hz2 x0
          go_roundg (40 - (k + 1))
          case measure => omega
          case rel => exact ⟨k + 1, by omega, rfl, by go_num, ⟨HF.out.1, by rw [HS1.out.1]; exact HF.out.2.1, by rw [HS1.out.2]; exact HF.out.2.2.1, HF.out.2.2.2⟩⟩
    · obtain rfl : k = 40 := by omega
      have hT := hst.out
      rw [HL1.out.1, HL1.out.2.1] at hT
      have HF := Hidden.mk (And.intro (own_base hT.2.1 HB1.out.size) (And.intro (own_base hT.2.2.1 HB1.out.size) (HB1.out.trans (hT.1.mono HB1.out.size))))
      clear hT hst
      go_wp2_with fail
      go_ret2
      exact ⟨_, _, rfl, HF.out⟩
end Go.Proofs.YtbnobjlphmkgeaaGreatDoor
/- The contracts of errors.As at a target that points to an api.Errno, of plain.Told and of vaultsame.Error. After the guide's worked example on errors.As at a concrete target. -/
namespace Go.Proofs.YtbnobjlphmkgeaaGreatDoor
open Go.RowKit Go.Extern.Stop Go.Stop Go.Extern

theorem rl_valueOfP (t : Addr) (w : World) : (ReflectliteValue.unpack (.iface 202 (.pointer (some t)))).run Tryz.prog w
    = .ok (.agg #[.pointer (some ⟨1, 202, none⟩), .pointer (some ⟨w.heap.size, 0, none⟩), .int .u64 150]) (w.alloc (.cells #[.pointer (some t)] 202)) := by kernel_rfl
theorem rl_typeP (a : Addr) (w : World) : (ReflectliteValue.methodAny (ReflectliteValue.valueError "reflectlite.Value.Type" 0) (fun t _ _ _ => ReflectliteType.toType t) #[.agg #[.pointer (some ⟨1, 202, none⟩), .pointer (some a), .int .u64 150]]).run Tryz.prog w
    = .ok (.iface 282 (.agg #[.pointer (some ⟨1, 202, none⟩)])) w := by kernel_rfl
theorem rl_kindP (w : World) : ((ReflectliteType.abiMethod fun t => (fun a : Nat => Value.int IntKind.u8 (a : Int)) <$> Rtype.kind t) #[.pointer (some ⟨1, 202, none⟩)]).run Tryz.prog w = .ok (.int .u8 22) w := by kernel_rfl
theorem rl_kindE (w : World) : ((ReflectliteType.abiMethod fun t => (fun a : Nat => Value.int IntKind.u8 (a : Int)) <$> Rtype.kind t) #[.pointer (some ⟨1, 111, none⟩)]).run Tryz.prog w = .ok (.int .u8 2) w := by kernel_rfl
theorem rl_m (z : Sem Value) (f : TypeId → Addr → Nat → Nat → Sem Value) (v : Value) :
    ReflectliteValue.method z f #[v] = (do match ← ReflectliteValue.parts v with | none => z | some (t, a, fl) => f t a fl (fl % 32)) := rfl
theorem rl_partsP (a : Addr) (w : World) : (ReflectliteValue.parts (.agg #[.pointer (some ⟨1, 202, none⟩), .pointer (some a), .int .u64 150])).run Tryz.prog w = .ok (some (202, a, 150)) w := by kernel_rfl
theorem rl_isNilP (a p : Addr) (W : World) (ha : W.cell? a = some (.pointer (some p))) :
    (ReflectliteValue.method (ReflectliteValue.valueError "reflectlite.Value.IsNil" 0) ReflectliteValue.isNil #[.agg #[.pointer (some ⟨1, 202, none⟩), .pointer (some a), .int .u64 150]]).run Tryz.prog W = .ok (.bool false) W := by
  rw [rl_m]
  simp only [Sem.run_bind, rl_partsP, Result.andThen]
  simp [ReflectliteValue.isNil, loadVar, isAgg, underlying, Tryz.underlying202, ha, Result.andThen]
theorem rl_elemP (w : World) : (ReflectliteType.method ReflectliteType.elem #[.agg #[.pointer (some ⟨1, 202, none⟩)]]).run Tryz.prog w = .ok (.iface 282 (.agg #[.pointer (some ⟨1, 111, none⟩)])) w := by kernel_rfl
theorem rl_implE (w : World) : (ReflectliteType.relation "Implements" ReflectliteType.implements_ #[.agg #[.pointer (some ⟨1, 111, none⟩)], .iface 282 (.agg #[.pointer (some ⟨1, 28, none⟩)])]).run Tryz.prog w = .ok (.bool true) w := by kernel_rfl
theorem rl_typeOfE (v : Value) (w : World) : (ReflectliteType.typeOf #[.iface 111 v]).run Tryz.prog w = .ok (.iface 282 (.agg #[.pointer (some ⟨1, 111, none⟩)])) w := by kernel_rfl
theorem rl_assignE (w : World) : (ReflectliteType.relation "AssignableTo" ReflectliteType.assignableTo #[.agg #[.pointer (some ⟨1, 111, none⟩)], .iface 282 (.agg #[.pointer (some ⟨1, 111, none⟩)])]).run Tryz.prog w = .ok (.bool true) w := by kernel_rfl
theorem rl_valueOfE (k : Int) (w : World) : (ReflectliteValue.unpack (.iface 111 (.int .i64 k))).run Tryz.prog w
    = .ok (.agg #[.pointer (some ⟨1, 111, none⟩), .pointer (some ⟨w.heap.size, 0, none⟩), .int .u64 130]) (w.alloc (.cells #[.int .i64 k] 111)) := by kernel_rfl
theorem rl_elemOfP (w : World) : (Rtype.elem? 202).run Tryz.prog w = .ok (some 111) w := by kernel_rfl
theorem rl_mkE (p : Addr) (w : World) : (ReflectliteValue.mk 111 p ReflectliteValue.flagAddr).run Tryz.prog w = .ok (.agg #[.pointer (some ⟨1, 111, none⟩), .pointer (some p), .int .u64 386]) w := by kernel_rfl
theorem rl_elemVP (a p : Addr) (W : World) (ha : W.cell? a = some (.pointer (some p))) :
    (ReflectliteValue.method (ReflectliteValue.valueError "reflectlite.Value.Elem" 0) ReflectliteValue.elem #[.agg #[.pointer (some ⟨1, 202, none⟩), .pointer (some a), .int .u64 150]]).run Tryz.prog W
      = .ok (.agg #[.pointer (some ⟨1, 111, none⟩), .pointer (some p), .int .u64 386]) W := by
  rw [rl_m]
  simp only [Sem.run_bind, rl_partsP, Result.andThen]
  simp [ReflectliteValue.elem, loadVar, isAgg, underlying, Tryz.underlying202, ha, Result.andThen, rl_elemOfP, rl_mkE]
theorem rl_s (v x : Value) : ReflectliteValue.set #[v, x] = (do
    let (some (dst, a, fl), some (src, b, _)) := (← ReflectliteValue.parts v, ← ReflectliteValue.parts x)
      | unsupported (.noEntry "extern/(internal/reflectlite.Value).Set.zeroValue")
    if fl / ReflectliteValue.flagAddr % 2 == 0 then unsupported (.noEntry "extern/(internal/reflectlite.Value).Set.unaddressable")
    let val ← loadVar src b
    if ← Rtype.directlyAssignable dst src then storeVar dst a val
    else if ← Rtype.implements dst src then
      if (← Rtype.kind src) == 20 then
        match val with
        | .nilIface => unsupported (.noEntry "extern/reflectlite: a nil value of one interface type handed on as a value of another")
        | _ => storeVar dst a val
      else storeVar dst a (.iface src val)
    else panicString ("reflectlite.Set: value of type " ++ (← Rtype.spelt src) ++ " is not assignable to type " ++ (← Rtype.spelt dst))
    pure (.tuple #[])) := rfl
theorem rl_partsEa (a : Addr) (w : World) : (ReflectliteValue.parts (.agg #[.pointer (some ⟨1, 111, none⟩), .pointer (some a), .int .u64 386])).run Tryz.prog w = .ok (some (111, a, 386)) w := by kernel_rfl
theorem rl_partsE (a : Addr) (w : World) : (ReflectliteValue.parts (.agg #[.pointer (some ⟨1, 111, none⟩), .pointer (some a), .int .u64 130])).run Tryz.prog w = .ok (some (111, a, 130)) w := by kernel_rfl
theorem rl_directE (w : World) : (Rtype.directlyAssignable 111 111).run Tryz.prog w = .ok true w := by kernel_rfl
theorem rl_setE (ta b : Addr) (k : Int) (old : Value) (W : World) (hb : W.cell? b = some (.int .i64 k)) (ht : W.cell? ta = some old) (hf : W.frozen? ta = false) :
    (ReflectliteValue.set #[.agg #[.pointer (some ⟨1, 111, none⟩), .pointer (some ta), .int .u64 386], .agg #[.pointer (some ⟨1, 111, none⟩), .pointer (some b), .int .u64 130]]).run Tryz.prog W
      = .ok (.tuple #[]) (W.setCell ta (.int .i64 k)) := by
  rw [rl_s]
  simp only [Sem.run_bind, rl_partsEa, rl_partsE, Result.andThen]
  simp [ReflectliteValue.flagAddr, loadVar, isAgg, underlying, Tryz.underlying111, hb, Result.andThen, rl_directE, storeVar, Value.cells, storeCells, Addr.add]
  rw [run_store Tryz.prog W ta _ _ (by rfl)]
  simp [ht, hf]

/-- what the row's condition gives: the variable errors.errorType -/
def HasType (w : World) : Prop := w.cell? ⟨0, 0, none⟩ = some (.iface 282 (.agg #[.pointer (some ⟨1, 28, none⟩)]))
theorem HasType.below {B : Nat} {w w' : World} (h : HasType w) (hB : 0 < B) (hb : Below B w w') : HasType w' := (hb.cell (p := ⟨0, 0, none⟩) hB).trans h
theorem HasType.lt {w : World} (h : HasType w) : 0 < w.heap.size := block_lt_of_cell h
end Go.Proofs.YtbnobjlphmkgeaaGreatDoor
/- The contracts of errors.As at a target that points to an api.Errno, of plain.Told and of vaultsame.Error. -/
namespace Go.Proofs.YtbnobjlphmkgeaaGreatDoor
open Go.RowKit Go.Extern.Stop Go.Stop Go.Extern

theorem rl_methKind (n : Nat) (h : Value) (w : World) : (Go.method (n + 1) 282 (.agg #[h]) "Kind").run Tryz.prog w = .ok (285, h) w := by kernel_rfl
theorem rl_methElem (n : Nat) (h : Value) (w : World) : (Go.method (n + 1) 282 (.agg #[h]) "Elem").run Tryz.prog w = .ok (297, .agg #[h]) w := by kernel_rfl
theorem rl_methImpl (n : Nat) (h : Value) (w : World) : (Go.method (n + 1) 282 (.agg #[h]) "Implements").run Tryz.prog w = .ok (298, .agg #[h]) w := by kernel_rfl
theorem rl_methAssign (n : Nat) (h : Value) (w : World) : (Go.method (n + 1) 282 (.agg #[h]) "AssignableTo").run Tryz.prog w = .ok (295, .agg #[h]) w := by kernel_rfl

set_option maxRecDepth 100000 in
set_option maxHeartbeats 4000000 in
theorem as_errno (k : Int) (t : Addr) (old : Value) (w : World) (hg : HasType w) (ht0 : w.cell? t = some old) (hf0 : w.frozen? t = false) :
    Calls Tryz.prog 140 #[.iface 111 (.int .i64 k), .iface 202 (.pointer (some t))] w fun ev w' => ev = .returned (.bool true) ∧ w' = ((((w.alloc (.cells #[.pointer (some t)] 202)).alloc (.cells #[.pointer (some ⟨1, 202, none⟩), .pointer (some ⟨w.heap.size, 0, none⟩), .int .u64 150] 246)).alloc (.cells #[.pointer (some ⟨1, 202, none⟩), .pointer (some ⟨w.heap.size, 0, none⟩), .int .u64 150] 246)).alloc (.cells #[.int .i64 k] 111)).setCell t (.int .i64 k) := by
  have h6 := @run_callFunc_extern Tryz.prog 182 _ (fun args => ReflectliteValue.unpack (args.getD 0 (.tuple #[]))) Tryz.func182 (by kernel_rfl) (by kernel_rfl) (by kernel_rfl) (by kernel_rfl)
  have h7 := @run_callFunc_extern Tryz.prog 183 _ (ReflectliteValue.methodAny (ReflectliteValue.valueError "reflectlite.Value.Type" 0) (fun t _ _ _ => ReflectliteType.toType t)) Tryz.func183 (by kernel_rfl) (by kernel_rfl) (by kernel_rfl) (by kernel_rfl)
  have h8 := @run_callFunc_extern Tryz.prog 184 _ (ReflectliteValue.method (ReflectliteValue.valueError "reflectlite.Value.IsNil" 0) ReflectliteValue.isNil) Tryz.func184 (by kernel_rfl) (by kernel_rfl) (by kernel_rfl) (by kernel_rfl)
  have h27 := @run_callFunc_extern Tryz.prog 285 _ (ReflectliteType.abiMethod fun t => do pure (.int .u8 (← Rtype.kind t))) Tryz.func285 (by kernel_rfl) (by kernel_rfl) (by kernel_rfl) (by kernel_rfl)
  have h37 := @run_callFunc_extern Tryz.prog 297 _ (ReflectliteType.method ReflectliteType.elem) Tryz.func297 (by kernel_rfl) (by kernel_rfl) (by kernel_rfl) (by kernel_rfl)
  have h38 := @run_callFunc_extern Tryz.prog 298 _ (ReflectliteType.relation "Implements" ReflectliteType.implements_) Tryz.func298 (by kernel_rfl) (by kernel_rfl) (by kernel_rfl) (by kernel_rfl)
  have h10 := @run_callFunc_extern Tryz.prog 215 _ ReflectliteType.typeOf Tryz.func215 (by kernel_rfl) (by kernel_rfl) (by kernel_rfl) (by kernel_rfl)
  have h35 := @run_callFunc_extern Tryz.prog 295 _ (ReflectliteType.relation "AssignableTo" ReflectliteType.assignableTo) Tryz.func295 (by kernel_rfl) (by kernel_rfl) (by kernel_rfl) (by kernel_rfl)
  have h11 := @run_callFunc_extern Tryz.prog 216 _ (ReflectliteValue.method (ReflectliteValue.valueError "reflectlite.Value.Elem" 0) ReflectliteValue.elem) Tryz.func216 (by kernel_rfl) (by kernel_rfl) (by kernel_rfl) (by kernel_rfl)
  have h12 := @run_callFunc_extern Tryz.prog 217 _ ReflectliteValue.set Tryz.func217 (by kernel_rfl) (by kernel_rfl) (by kernel_rfl) (by kernel_rfl)
  have tO := rl_typeOfE
  have aE := rl_assignE
  have vE := rl_valueOfE
  have f6 := rl_valueOfP
  have f7 := rl_typeP
  have mK := rl_methKind
  have mE := rl_methElem
  have mI := rl_methImpl
  have mA := rl_methAssign
  have kP := rl_kindP
  have kE := rl_kindE
  have eP := rl_elemP
  have iE := rl_implE
  have n8 := rl_isNilP ⟨w.heap.size, 0, none⟩ t ((w.alloc (.cells #[.pointer (some t)] 202)).alloc (.cells #[.pointer (some ⟨1, 202, none⟩), .pointer (some ⟨w.heap.size, 0, none⟩), .int .u64 150] 246)) (by simp)
  have hlt : 0 < w.heap.size := hg.lt
  unfold HasType at hg
  have hg2 : ((w.alloc (.cells #[.pointer (some t)] 202)).alloc (.cells #[.pointer (some ⟨1, 202, none⟩), .pointer (some ⟨w.heap.size, 0, none⟩), .int .u64 150] 246)).cell? ⟨0, 0, none⟩ = some (.iface 282 (.agg #[.pointer (some ⟨1, 28, none⟩)])) := by
    rw [World.cell?_alloc_lt _ _ ⟨0, 0, none⟩ (by simp), World.cell?_alloc_lt _ _ ⟨0, 0, none⟩ hlt]; exact hg
  have htl : t.block < w.heap.size := by
    rcases Nat.lt_or_ge t.block w.heap.size with h | h
    · exact h
    · simp [World.cell?, Array.getElem?_eq_none h] at ht0
  have el := rl_elemVP ⟨w.heap.size, 0, none⟩ t (((w.alloc (.cells #[.pointer (some t)] 202)).alloc (.cells #[.pointer (some ⟨1, 202, none⟩), .pointer (some ⟨w.heap.size, 0, none⟩), .int .u64 150] 246)).alloc (.cells #[.pointer (some ⟨1, 202, none⟩), .pointer (some ⟨w.heap.size, 0, none⟩), .int .u64 150] 246)) (by rw [World.cell?_alloc_lt _ _ ⟨w.heap.size, 0, none⟩ (by simp; omega)]; simp)
  have st := rl_setE t ⟨w.heap.size + 1 + 1 + 1, 0, none⟩ k old ((((w.alloc (.cells #[.pointer (some t)] 202)).alloc (.cells #[.pointer (some ⟨1, 202, none⟩), .pointer (some ⟨w.heap.size, 0, none⟩), .int .u64 150] 246)).alloc (.cells #[.pointer (some ⟨1, 202, none⟩), .pointer (some ⟨w.heap.size, 0, none⟩), .int .u64 150] 246)).alloc (.cells #[.int .i64 k] 111))
    (by rw [World.cell?_alloc_at _ _ _ _ (by simp)]; rfl)
    (by rw [World.cell?_alloc_lt _ _ t (by simp; omega), World.cell?_alloc_lt _ _ t (by simp; omega), World.cell?_alloc_lt _ _ t (by simp; omega), World.cell?_alloc_lt _ _ t htl]; exact ht0)
    (by rw [World.frozen?_alloc_old _ _ t (by simp; omega), World.frozen?_alloc_old _ _ t (by simp; omega), World.frozen?_alloc_old _ _ t (by simp; omega), World.frozen?_alloc_old _ _ t (Nat.ne_of_lt htl)]; exact hf0)
  go_enter Tryz.func140, Tryz.ntmps140
  go_wp2
  refine wp_loop_rounds 1 ?_
  rw [rounds_succ]
  go_wp2
  go_ret
  exact ⟨rfl, rfl⟩
end Go.Proofs.YtbnobjlphmkgeaaGreatDoor
/- The contracts of plain.Told and of vaultsame.Error. -/
namespace Go.Proofs.YtbnobjlphmkgeaaGreatDoor
open Go.RowKit

theorem told_nil (w : World) : Calls Tryz.prog 58 #[.nilIface] w fun e w' => e = .returned (.int .i64 0) ∧ w = w' := by
  go_enter Tryz.func58, Tryz.ntmps58
  go_wp2_with fail
  go_ret
  exact ⟨rfl, rfl⟩
theorem told_errno (k : Int) (w : World) (hg : HasType w) : Calls Tryz.prog 58 #[.iface 111 (.int .i64 k)] w fun e w' => e = .returned (.int .i64 k) ∧ Below w.heap.size w w' := by
  have hW : Below w.heap.size w (w.alloc (.cells #[.int .i64 0] 111)) := (Below.refl _ _).alloc (Nat.le_refl _) _
  have hg1 := hg.below hg.lt hW
  have HC := Hidden.mk (as_errno k ⟨w.heap.size, 0, none⟩ (.int .i64 0) _ hg1 (by simp) (by simp))
  clear hg1
  go_enter Tryz.func58, Tryz.ntmps58
  go_wp2_with fail
  refine HC.out.mono ?_
  rintro e w' ⟨rfl, hw'⟩
  have hB : Below w.heap.size w w' := by
    rw [hw']
    exact ((((hW.alloc hW.size _).alloc (by simp; omega) _).alloc (by simp; omega) _).alloc (by simp; omega) _).setCell (p := ⟨w.heap.size, 0, none⟩) (Nat.le_refl _) _
  have hc : w'.cell? ⟨w.heap.size, 0, none⟩ = some (.int .i64 k) := by
    rw [hw']
    refine World.cell?_setCell_same' _ _ _ ?_
    rw [(((((Below.refl _ (w.alloc (.cells #[.int .i64 0] 111))).alloc (Nat.le_refl _) _).alloc (by simp) _).alloc (by simp) _).alloc (by simp) _).cell (p := ⟨w.heap.size, 0, none⟩) (by simp)]
    simp
  clear hw' HC hW
  go_wp2_with fail
  go_ret
  exact ⟨rfl, hB⟩
theorem err_nil (x : Int) (w : World) : Calls Tryz.prog 10 #[.nilIface, .int .i64 x] w fun e w' => e = .returned (.bool ((0 : Int) == x)) ∧ Below w.heap.size w w' := by
  go_enter Tryz.func10, Tryz.ntmps10
  go_wp2_with fail
  refine (told_nil _).mono ?_
  rintro e w' ⟨rfl, rfl⟩
  go_wp2_with fail
  go_ret
  exact ⟨rfl, Below.refl _ _⟩
theorem err_some (k x : Int) (w : World) (hg : HasType w) : Calls Tryz.prog 10 #[.iface 111 (.int .i64 k), .int .i64 x] w fun e w' => e = .returned (.bool (k == x)) ∧ Below w.heap.size w w' := by
  go_enter Tryz.func10, Tryz.ntmps10
  go_wp2_with fail
  refine (told_errno k _ hg).mono ?_
  rintro e w' ⟨rfl, hb⟩
  go_wp2_with fail
  go_ret
  exact ⟨rfl, hb⟩
/-- .. of an error that is nil or a number -/
theorem err_any (n : Nat) (x : Int) (w : World) (hg : HasType w) : Calls Tryz.prog 10 #[errV n, .int .i64 x] w fun e w' => e = .returned (.bool ((n : Int) == x)) ∧ Below w.heap.size w w' := by
  unfold errV
  by_cases h : n = 0
  · rw [if_pos h, h]; exact err_nil x w
  · rw [if_neg h]; exact err_some n x w hg
end Go.Proofs.YtbnobjlphmkgeaaGreatDoor
/- PlayDoes: what the law has at hand. -/
namespace Go.Proofs.YtbnobjlphmkgeaaGreatDoor
open Go.RowKit Go.Maps Go.ChangeMaps

/-- bytes that lie beside it -/
structure RdO (w : World) (X : Nat → Prop) (g o : Nat) (x : Bytes) : Prop where
  rd : Rd w (some ⟨g, o, none⟩) x
  nx : ¬ X g
  ne : 0 < x.length
section
variable {w w' w0 : World} {X X' F GH F' GH' : Nat → Prop} {g o s p d h nn n : Nat} {x y : Bytes} {S : Sto}
theorem RdO.lt (a : RdO w X g o x) : g < w.heap.size := by
  obtain ⟨q, off, e, hl⟩ := a.rd.lt a.ne
  obtain ⟨rfl, -⟩ : g = q ∧ o = off := by simpa using e
  exact hl
theorem RdO.below (a : RdO w X g o x) (hb : Below w.heap.size w w') : RdO w' X g o x := ⟨a.rd.below hb, a.nx, a.ne⟩
theorem RdO.turn (a : RdO w X g o x) (hk : Keep X w w') (hX : ∀ q, X' q → X q ∨ w.heap.size ≤ q) : RdO w' X' g o x :=
  ⟨hk.rd a.rd (fun ad e => by obtain rfl := Option.some.inj e; exact a.nx), fun hx => by
    rcases hX g hx with h' | h'
    · exact a.nx h'
    · have := a.lt; omega, a.ne⟩
theorem RdO.cong (a : RdO w X g o x) (e : x = y) : RdO w X g o y := e ▸ a
end
section
variable {W wx : World} {X : Nat → Prop} {n gk ok ck : Nat} {K Lx : Bytes}
end
end Go.Proofs.YtbnobjlphmkgeaaGreatDoor
/- Plain words: what two images have alike. No walk here. -/
namespace Go.Proofs.YtbnobjlphmkgeaaGreatDoor
open Go.RowKit Go.Maps Go.ChangeMaps

end Go.Proofs.YtbnobjlphmkgeaaGreatDoor
/- When the reference calls two images the same: the plain law, and its contract. -/
namespace Go.Proofs.YtbnobjlphmkgeaaGreatDoor
open Go.RowKit

/-- names that differ -/
def NamesD (L : List (Bytes × Nat)) : Prop := L.Pairwise fun a b => a.1 ≠ b.1
theorem NamesD.inj {L : List (Bytes × Nat)} (h : NamesD L) {x y : Bytes × Nat} (hx : x ∈ L) (hy : y ∈ L) (e : x.1 = y.1) : x = y := by
  obtain ⟨i, hi, rfl⟩ := List.getElem_of_mem hx
  obtain ⟨j, hj, rfl⟩ := List.getElem_of_mem hy
  have hp := List.pairwise_iff_getElem.1 h
  rcases Nat.lt_trichotomy i j with hij | rfl | hij
  · exact absurd e (hp i j hi hj hij)
  · rfl
  · exact absurd e.symm (hp j i hj hi hij)
theorem Good.names {l : Bytes} (h : Good l) : NamesD (rootsL l) := by
  unfold NamesD rootsL rootsF
  rw [List.pairwise_map]
  have hp : (List.range 8).Pairwise (fun a b => a < b) := List.pairwise_lt_range
  refine (hp.filter (fun i => !zeroE (rawR l i))).imp_of_mem ?_
  intro a b ha hb hab
  have ha := List.mem_filter.1 ha
  have hb := List.mem_filter.1 hb
  have z1 : zeroE (rawR l a) = false := by simpa using ha.2
  have z2 : zeroE (rawR l b) = false := by simpa using hb.2
  have a8 := List.mem_range.1 ha.1
  have b8 := List.mem_range.1 hb.1
  have g : ∀ i, i < 8 → zeroE (rawR l i) = false → gotName ((rawR l i).take 8) = true := fun i hi hz => by
    have := h.s.root i hi hz
    unfold badR at this
    simp only [Bool.or_eq_false_iff] at this
    simpa using this.1.1.1
  unfold rootP
  rw [if_pos (g a a8 z1), if_pos (g b b8 z2)]
  exact fun e => h.s.name b b8 a hab z2 z1 e.symm
end Go.Proofs.YtbnobjlphmkgeaaGreatDoor
/- HeapPlays: what the law has at hand; heap.Load of an image that is not right. -/
namespace Go.Proofs.YtbnobjlphmkgeaaGreatDoor
open Go.RowKit Go.Maps Go.ChangeMaps

theorem hload_err (A : Option Addr) (n c : Nat) (l : Bytes) (w : World) (hn : l.length = n) (hnc : n ≤ c) (hrd : Rd w A l) (he : fineE l ≠ 0) :
    Calls Tryz.prog 9 #[.slice A n c] w fun e w' => e = .returned (.tuple #[.pointer none, .iface 111 (.int .i64 (fineE l : Int))]) ∧ Below w.heap.size w w' := by
  have HF : Hidden (Calls Tryz.prog 56 #[.slice A n c] w fun e w' => e = .returned (.iface 111 (.int .i64 (fineE l : Int))) ∧ Below w.heap.size w w') := ⟨by
    cases hr : rightB n with
    | false =>
      have : fineE l = 3 := by unfold fineE; rw [hn, if_pos hr]
      rw [this]
      exact (fine_no A n c w hr).mono fun e w' ⟨h1, h2⟩ => ⟨h1, by subst h2; exact Below.refl _ _⟩
    | true =>
      have h6 : checkL l ≠ [] := fun h => he (by unfold fineE; rw [hn, hr, if_neg (by decide), if_pos h])
      have : fineE l = 6 := by unfold fineE; rw [hn, hr, if_neg (by decide), if_neg h6]
      rw [this]
      exact fine_f A n c l w hn hr hnc hrd h6⟩
  generalize fineE l = fe at *
  clear hn hnc hrd he
  go_enter Tryz.func9, Tryz.ntmps9
  go_wp2_with fail
  refine HF.out.mono ?_
  rintro e w1 ⟨rfl, hb1⟩
  have HB1 := Hidden.mk hb1
  clear hb1 HF
  go_wp2_with fail
  go_ret2
  exact ⟨rfl, HB1.out⟩
theorem good_fine {l : Bytes} (h : fineE l = 0) : Good l := by
  unfold fineE at h
  cases hr : rightB l.length with
  | false => rw [hr] at h; cases h
  | true =>
    rw [hr, if_neg (by decide)] at h
    by_cases hc : checkL l = []
    · exact ⟨hr, hc⟩
    · rw [if_neg hc] at h; cases h
theorem hload_any (A : Option Addr) (n c : Nat) (l : Bytes) (w0 w : World) (hn : l.length = n) (hnc : n ≤ c) (hrd : Rd w A l) (hb0 : Below w0.heap.size w0 w) :
    Calls Tryz.prog 9 #[.slice A n c] w fun e w' => ∃ hv, e = .returned (.tuple #[hv, errV (fineE l)]) ∧ Below w.heap.size w w' ∧ (fineE l = 0 → ∃ h F, hv = .pointer (some ⟨h, 0, none⟩) ∧ Hp w0 w' F h l ∧ ∀ k, F k → w.heap.size ≤ k) := by
  by_cases h0 : fineE l = 0
  · refine (hload_ok A n c l w0 w hn (good_fine h0) hnc hrd hb0).mono ?_
    rintro e w1 ⟨h, F, rfl, h1, h2, h3⟩
    exact ⟨_, by rw [h0]; rfl, h2, fun _ => ⟨h, F, rfl, h1, h3⟩⟩
  · refine (hload_err A n c l w hn hnc hrd h0).mono ?_
    rintro e w1 ⟨rfl, h2⟩
    exact ⟨_, by rw [errV_pos h0], h2, fun h => absurd h h0⟩
structure HpCut (w0 wx : World) (F2 : Nat → Prop) (h gb ob NL E : Nat) (l l2 : Bytes) (nv : Value) : Prop where
  hp : Hp w0 wx F2 h l2
  good : Good l2
  len : l2.length = NL
  rb : RdO wx F2 gb ob l
  nx : E = 0 → ∃ gn on cn, nv = .slice (some ⟨gn, on, none⟩) NL cn ∧ NL ≤ cn ∧ RdO wx F2 gn on l2
  ft : E ≠ 0 → l2 = l
section
variable {w0 w w5 w6 wx : World} {F F2 : Nat → Prop} {h gb ob NL E g5 o5 c5 : Nat} {l l2 : Bytes} {nv : Value}
theorem hpc_ok (hm : HpM w0 w5 w6 F F2 h l2) (hg : Good l2) (hl : l2.length = NL) (hrb : RdO w5 F gb ob l) (hc : NL ≤ c5) (hr : RdO w5 F g5 o5 l2) : HpCut w0 w6 F2 h gb ob NL 0 l l2 (.slice (some ⟨g5, o5, none⟩) NL c5) :=
  ⟨hm.hp, hg, hl, hrb.turn hm.kp hm.nw, fun _ => ⟨g5, o5, c5, rfl, hc, hr.turn hm.kp hm.nw⟩, fun h => absurd rfl h⟩
theorem hpc_bad (hm : HpM w0 w5 w6 F F2 h l2) (he : l2 = l) (hg : Good l) (hl : l.length = NL) (hrb : RdO w5 F gb ob l) (hE : E ≠ 0) : HpCut w0 w6 F2 h gb ob NL E l l2 nv :=
  ⟨hm.hp, he ▸ hg, he ▸ hl, hrb.turn hm.kp hm.nw, fun h => absurd h hE, fun _ => he⟩
theorem HpCut.below {w7 : World} (a : HpCut w0 wx F2 h gb ob NL E l l2 nv) (hb : Below wx.heap.size wx w7) : HpCut w0 w7 F2 h gb ob NL E l l2 nv :=
  ⟨a.hp.below hb, a.good, a.len, a.rb.below hb, fun h => by
    obtain ⟨gn, on, cn, e, hc, hr⟩ := a.nx h
    exact ⟨gn, on, cn, e, hc, hr.below hb⟩, a.ft⟩
end
end Go.Proofs.YtbnobjlphmkgeaaGreatDoor
/- HeapPlays: the code of the loop and of its switch, taken out of the translation; what the law keeps. -/
namespace Go.Proofs.YtbnobjlphmkgeaaGreatDoor
open Go.RowKit Go.Maps Go.ChangeMaps

def findBlk (id : Nat) : Code → Option Code
  | .block i c => if i = id then some (.block i c) else findBlk id c
  | .seq a b => match findBlk id a with
    | some c => some c
    | none => findBlk id b
  | .cond _ a b => match findBlk id a with
    | some c => some c
    | none => findBlk id b
  | .loop c => findBlk id c
  | .scope c => findBlk id c
  | _ => none
noncomputable def hpSw : Code := ((Tryz.f3.body.bind (findBlk 2)).getD .skip)
noncomputable def hpLoop : Code := ((Tryz.f3.body.bind (findBlk 0)).getD .skip)
structure HpLp (w0 w : World) (F : Nat → Prop) (h gb ob cb NL : Nat) (l : Bytes) : Prop where
  hp : Hp w0 w F h l
  good : Good l
  len : l.length = NL
  rb : RdO w F gb ob l
  cb : NL ≤ cb
theorem RdO.fresh {w w' : World} {F : Nat → Prop} {g : Nat} {x : Bytes} (hf : ∀ k, F k → k < w.heap.size) (hg : w.heap.size ≤ g) (hr : Rd w' (some ⟨g, 0, none⟩) x) (hl : 0 < x.length) : RdO w' F g 0 x := ⟨hr, fun h => by have := hf g h; omega, hl⟩
end Go.Proofs.YtbnobjlphmkgeaaGreatDoor
/- HeapPlays: the case 1 of the switch. -/
namespace Go.Proofs.YtbnobjlphmkgeaaGreatDoor
open Go.RowKit Go.Maps Go.ChangeMaps

set_option maxRecDepth 1000000 in
set_option maxHeartbeats 8000000 in
theorem hp_case1 (Q : Exit → Act → World → Prop) (u1 u2 u3 u4 u5 u8 u9 u10 u13 u14 u15 u16 u17 u18 u19 u20 u21 u22 u23 u24 u25 u26 u27 u28 u29 u30 u31 u32 u33 u34 u35 u36 u37 u38 u39 u40 u41 u42 u43 u44 u45 u46 u47 u48 u49 u50 u51 u52 u53 u54 u55 u56 u57 u58 u59 u60 u61 u62 u63 u64 u65 u66 u67 u68 u69 u70 u71 u72 u73 u74 u75 u76 u77 u78 u79 u80 u81 u82 u83 u84 u86 u87 u88 u89 u90 u91 u92 u93 u94 u95 u96 u97 u98 u99 u100 u101 u102 u103 u104 u105 u106 u107 u108 u109 u110 u111 u112 u113 u114 u115 u116 u117 u118 u119 u120 u121 u122 u123 u124 u125 u126 u127 u128 u129 u130 u131 u132 u133 u134 u135 u136 u137 u138 u139 u140 u141 u142 u143 u144 u145 u146 u147 u148 u149 u150 u151 u152 u153 u154 u155 u156 u157 u158 u159 u160 u161 u162 u163 u164 u165 u166 u167 u168 u169 u170 u171 u172 u173 u174 u175 u176 u177 u178 u179 u180 u181 u182 u183 u184 u185 u186 u187 u188 u189 u190 u191 u192 u193 u194 u195 u196 u197 u198 u199 u200 u201 u202 u203 u204 u205 u206 u207 u208 u209 u210 u211 u212 u213 u214 u215 u216 u217 u218 u219 u220 u221 u222 u223 u224 u225 u226 u227 u228 u229 u230 u231 u232 u233 u234 u235 u236 u237 u238 u239 u240 u241 u242 u243 u244 u245 u246 u247 u248 u249 u250 u251 u252 u253 u254 u255 u256 u257 u258 u259 u260 u261 u262 u263 u264 u265 u266 u267 u268 u269 u270 u271 u272 u273 u274 u275 u276 u277 u278 u279 u280 u281 u282 u283 u284 u285 u286 u287 u288 u289 u290 u291 u292 u293 u294 u295 u296 u297 u298 u299 u300 u301 u302 u303 u304 u305 u306 u307 u308 u309 u310 u311 u312 u313 u314 u315 u316 u317 u318 u319 u320 u321 u322 u323 u324 u325 u326 u327 u328 u329 u330 u331 u332 u333 u334 u335 u336 u337 u338 u339 u340 u341 u342 u343 u344 u345 u346 u347 u348 u349 u350 u351 u352 u353 u354 u355 u356 u357 u358 u359 u360 u361 u362 u363 u364 u365 u366 u367 u368 u369 u370 u371 u372 u373 : Value) (w W1 : World) (F : Nat → Prop) (h gb ob cb NL bx : Nat) (l : Bytes) (what handle at_ len : Int) (name : Bytes) (bA : Option Addr) (bc : Nat) (body : Bytes) (HTY : Hidden (HasType w)) (hcb : NL ≤ cb) (hl0 : 0 < l.length) (hNb : 288 ≤ NL ∧ NL ≤ 6400) (HP1 : Hidden (Hp w W1 F h l)) (HRB : Hidden (RdO W1 F gb ob l)) (HLL : Hidden (l.length = NL ∧ Good l)) (H6 : Hidden (Six6 W1 bx (.int .i64 what) (.int .i64 handle) (.int .i64 at_) (.int .i64 len) (sv name) (.slice bA body.length bc) ∧ bx < W1.heap.size)) (HBO : Hidden (body.length ≤ bc ∧ bc ≤ 140737488351232 ∧ name.length ≤ 140737488351232 ∧ Rd W1 bA body)) (HLB : Hidden (-9223372036854775808 ≤ len ∧ len ≤ 9223372036854775807))
    (HER : Hidden (∀ (E : Nat) W, Below w.heap.size w W → Calls Tryz.prog 10 #[errV E, .int .i64 (E : Int)] W fun e w' => e = .returned (.bool true) ∧ Below W.heap.size W w')) (HER0 : Hidden (∀ W, Below w.heap.size w W → Calls Tryz.prog 10 #[.nilIface, .int .i64 0] W fun e w' => e = .returned (.bool true) ∧ Below W.heap.size W w')) (z1 : what = 1)
    (hfin : ∀ (x13 x14 x15 x16 x17 x18 x19 x20 x21 x22 x23 x24 x25 x26 x27 x28 x29 x30 x31 x32 x33 x34 x35 x36 x37 x38 x39 x40 x41 x42 x43 x44 x86 x87 x88 x89 x90 x91 x92 x93 x94 x95 x96 x97 x98 x99 x100 x101 x102 x103 x104 x105 x106 x107 x108 x109 x110 x111 x112 x113 x114 x115 x116 x117 x118 x119 x120 x121 x122 x123 x124 x125 x126 x127 x128 x129 x130 x131 x132 x133 x134 x135 x136 x137 x138 x139 x140 x141 x142 x143 x144 x145 x146 x147 x148 x149 x150 x151 x152 x153 x154 x155 x156 x157 x158 x159 x160 x161 x162 x163 x164 x165 x166 x167 x168 x169 x170 x171 x172 x173 x174 x175 x176 x177 x178 x179 x180 x181 x182 x183 x184 x185 x186 x187 x188 x189 x190 x191 x192 x193 x194 x195 x196 x197 x198 x199 x200 x201 x202 x203 x204 x205 x206 x207 x208 x209 x210 x211 x212 x213 x214 x215 x216 x217 x218 x219 x220 x221 x222 x223 x224 x225 x226 x227 x228 x229 x230 x231 x232 x233 x234 x235 x236 x237 x238 x239 x240 x241 x242 x243 x244 x245 x246 x247 x248 x249 x250 x251 x252 x253 x254 x255 x256 x257 x258 x259 x260 x261 x262 x263 x264 x265 x266 x267 x268 x269 x270 x271 x272 x273 x274 x275 x276 x277 x278 x279 x280 x281 x282 x283 x284 x285 x286 x287 x288 x289 x290 x291 x292 x293 x294 x295 x296 x297 x298 x299 x300 x301 x302 x303 x304 x305 x306 x307 x308 x309 x310 x311 x312 x313 x314 x315 x316 x317 x318 x319 x320 x321 x322 x323 x324 x325 x326 x327 x328 x329 x330 x331 x332 x333 x334 x335 x336 x337 x338 x339 x340 x341 x342 x343 x344 x345 x346 x347 x348 x349 x350 x351 x352 x353 x354 x355 x356 x357 x358 x359 x360 : Value) (E : Nat) (F2 : Nat → Prop) (l2 : Bytes) (nv : Value) (wx : World), Hidden (HpCut w wx F2 h gb ob NL E l l2 nv) → Q .normal ⟨#[.slice (some ⟨gb, ob, none⟩) NL cb, u1, u2, u3, u4, u5, .int .i64 (E : Int), .pointer (some ⟨h, 0, none⟩), u8, .bool true, u10, .pointer (some ⟨bx, 0, none⟩), nv, x13, x14, x15, x16, x17, x18, x19, x20, x21, x22, x23, x24, x25, x26, x27, x28, x29, x30, x31, x32, x33, x34, x35, x36, x37, x38, x39, x40, x41, x42, x43, x44, u45, u46, u47, u48, u49, u50, u51, u52, u53, u54, u55, u56, u57, u58, u59, u60, u61, u62, u63, u64, u65, u66, u67, u68, u69, u70, u71, u72, u73, u74, u75, u76, u77, u78, u79, u80, u81, u82, u83, u84, .int .i64 what, x86, x87, x88, x89, x90, x91, x92, x93, x94, x95, x96, x97, x98, x99, x100, x101, x102, x103, x104, x105, x106, x107, x108, x109, x110, x111, x112, x113, x114, x115, x116, x117, x118, x119, x120, x121, x122, x123, x124, x125, x126, x127, x128, x129, x130, x131, x132, x133, x134, x135, x136, x137, x138, x139, x140, x141, x142, x143, x144, x145, x146, x147, x148, x149, x150, x151, x152, x153, x154, x155, x156, x157, x158, x159, x160, x161, x162, x163, x164, x165, x166, x167, x168, x169, x170, x171, x172, x173, x174, x175, x176, x177, x178, x179, x180, x181, x182, x183, x184, x185, x186, x187, x188, x189, x190, x191, x192, x193, x194, x195, x196, x197, x198, x199, x200, x201, x202, x203, x204, x205, x206, x207, x208, x209, x210, x211, x212, x213, x214, x215, x216, x217, x218, x219, x220, x221, x222, x223, x224, x225, x226, x227, x228, x229, x230, x231, x232, x233, x234, x235, x236, x237, x238, x239, x240, x241, x242, x243, x244, x245, x246, x247, x248, x249, x250, x251, x252, x253, x254, x255, x256, x257, x258, x259, x260, x261, x262, x263, x264, x265, x266, x267, x268, x269, x270, x271, x272, x273, x274, x275, x276, x277, x278, x279, x280, x281, x282, x283, x284, x285, x286, x287, x288, x289, x290, x291, x292, x293, x294, x295, x296, x297, x298, x299, x300, x301, x302, x303, x304, x305, x306, x307, x308, x309, x310, x311, x312, x313, x314, x315, x316, x317, x318, x319, x320, x321, x322, x323, x324, x325, x326, x327, x328, x329, x330, x331, x332, x333, x334, x335, x336, x337, x338, x339, x340, x341, x342, x343, x344, x345, x346, x347, x348, x349, x350, x351, x352, x353, x354, x355, x356, x357, x358, x359, x360, u361, u362, u363, u364, u365, u366, u367, u368, u369, u370, u371, u372, u373], []⟩ wx) :
    Code.wp Tryz.prog hpSw Q ⟨#[.slice (some ⟨gb, ob, none⟩) NL cb, u1, u2, u3, u4, u5, .int .i64 0, .pointer (some ⟨h, 0, none⟩), u8, u9, u10, .pointer (some ⟨bx, 0, none⟩), .slice none 0 0, u13, u14, u15, u16, u17, u18, u19, u20, u21, u22, u23, u24, u25, u26, u27, u28, u29, u30, u31, u32, u33, u34, u35, u36, u37, u38, u39, u40, u41, u42, u43, u44, u45, u46, u47, u48, u49, u50, u51, u52, u53, u54, u55, u56, u57, u58, u59, u60, u61, u62, u63, u64, u65, u66, u67, u68, u69, u70, u71, u72, u73, u74, u75, u76, u77, u78, u79, u80, u81, u82, u83, u84, .int .i64 what, u86, u87, u88, u89, u90, u91, u92, u93, u94, u95, u96, u97, u98, u99, u100, u101, u102, u103, u104, u105, u106, u107, u108, u109, u110, u111, u112, u113, u114, u115, u116, u117, u118, u119, u120, u121, u122, u123, u124, u125, u126, u127, u128, u129, u130, u131, u132, u133, u134, u135, u136, u137, u138, u139, u140, u141, u142, u143, u144, u145, u146, u147, u148, u149, u150, u151, u152, u153, u154, u155, u156, u157, u158, u159, u160, u161, u162, u163, u164, u165, u166, u167, u168, u169, u170, u171, u172, u173, u174, u175, u176, u177, u178, u179, u180, u181, u182, u183, u184, u185, u186, u187, u188, u189, u190, u191, u192, u193, u194, u195, u196, u197, u198, u199, u200, u201, u202, u203, u204, u205, u206, u207, u208, u209, u210, u211, u212, u213, u214, u215, u216, u217, u218, u219, u220, u221, u222, u223, u224, u225, u226, u227, u228, u229, u230, u231, u232, u233, u234, u235, u236, u237, u238, u239, u240, u241, u242, u243, u244, u245, u246, u247, u248, u249, u250, u251, u252, u253, u254, u255, u256, u257, u258, u259, u260, u261, u262, u263, u264, u265, u266, u267, u268, u269, u270, u271, u272, u273, u274, u275, u276, u277, u278, u279, u280, u281, u282, u283, u284, u285, u286, u287, u288, u289, u290, u291, u292, u293, u294, u295, u296, u297, u298, u299, u300, u301, u302, u303, u304, u305, u306, u307, u308, u309, u310, u311, u312, u313, u314, u315, u316, u317, u318, u319, u320, u321, u322, u323, u324, u325, u326, u327, u328, u329, u330, u331, u332, u333, u334, u335, u336, u337, u338, u339, u340, u341, u342, u343, u344, u345, u346, u347, u348, u349, u350, u351, u352, u353, u354, u355, u356, u357, u358, u359, u360, u361, u362, u363, u364, u365, u366, u367, u368, u369, u370, u371, u372, u373], []⟩ W1 := by
  conv => arg 2; whnf
  obtain ⟨c0, c1, c2, c3', c4, c5⟩ := H6.out.1
  subst z1
  have HC := Hidden.mk (ralloc_all gb ob NL cb l len at_ W1 HLL.out.1 HLL.out.2 hcb HRB.out.rd)
  clear HLB
  try dsimp only
  go_wp2_with fail
  refine HC.out.mono ?_
  rintro e w5 ⟨hb5, ⟨h0, g5, c5', rfl, hc5, hg5, hr5⟩ | ⟨h0, rfl⟩⟩
  · have HB5 := Hidden.mk hb5
    have HP5 := Hidden.mk (HP1.out.below hb5)
    have HG2 : Hidden (Good (allocL l len at_) ∧ (allocL l len at_).length = NL) := ⟨(stepR_alloc HLL.out.2 len at_).good, (stepR_alloc HLL.out.2 len at_).len.trans HLL.out.1⟩
    have HRD : Hidden (RdO w5 F g5 0 (allocL l len at_) ∧ RdO w5 F gb ob l ∧ NL ≤ c5') := ⟨RdO.fresh HP1.out.flt hg5 hr5 (by rw [HG2.out.2]; omega), HRB.out.below hb5, hc5⟩
    have HPR := Hidden.mk (halloc_any len at_ HP5.out)
    generalize hAH : allocH l len at_ = AH at *
    clear hAH
    rw [h0, errV0] at HPR
    obtain ⟨c0, c1, c2, c3', c4, c5⟩ := H6.out.1.below HB5.out H6.out.2
    clear hb5 h0 hc5 hg5 hr5 HC
    generalize allocL l len at_ = l2 at *
    try dsimp only
    go_wp2_with fail
    refine HPR.out.mono ?_
    rintro e w6 ⟨rfl, F6, hm6⟩
    have HF6 := Hidden.mk (hpc_ok hm6 HG2.out.1 HG2.out.2 HRD.out.2.1 HRD.out.2.2 HRD.out.1)
    clear hm6 HPR HRD HG2 HP5 HB5 c0 c1 c2 c3' c4 c5
    try dsimp only
    go_wp2_with fail
    refine (HER0.out _ HF6.out.hp.bel).mono ?_
    rintro e w7 ⟨rfl, hb7⟩
    have HF7 := Hidden.mk (HF6.out.below hb7)
    clear hb7 HF6
    try dsimp only
    go_wp2_with fail
    all_goals
      exact hfin _ _ _ _ _ _ _ _ _ _ _ _ _ _ _ _ _ _ _ _ _ _ _ _ _ _ _ _ _ _ _ _ _ _ _ _ _ _ _ _ _ _ _ _ _ _ _ _ _ _ _ _ _ _ _ _ _ _ _ _ _ _ _ _ _ _ _ _ _ _ _ _ _ _ _ _ _ _ _ _ _ _ _ _ _ _ _ _ _ _ _ _ _ _ _ _ _ _ _ _ _ _ _ _ _ _ _ _ _ _ _ _ _ _ _ _ _ _ _ _ _ _ _ _ _ _ _ _ _ _ _ _ _ _ _ _ _ _ _ _ _ _ _ _ _ _ _ _ _ _ _ _ _ _ _ _ _ _ _ _ _ _ _ _ _ _ _ _ _ _ _ _ _ _ _ _ _ _ _ _ _ _ _ _ _ _ _ _ _ _ _ _ _ _ _ _ _ _ _ _ _ _ _ _ _ _ _ _ _ _ _ _ _ _ _ _ _ _ _ _ _ _ _ _ _ _ _ _ _ _ _ _ _ _ _ _ _ _ _ _ _ _ _ _ _ _ _ _ _ _ _ _ _ _ _ _ _ _ _ _ _ _ _ _ _ _ _ _ _ _ _ _ _ _ _ _ _ _ _ _ _ _ _ _ _ _ _ _ _ _ _ _ _ _ _ _ _ _ _ _ _ _ _ _ _ _ _ 0 _ _ _ _ HF7
  · have HB5 := Hidden.mk hb5
    have HP5 := Hidden.mk (HP1.out.below hb5)
    have HPR := Hidden.mk (halloc_any len at_ HP5.out)
    have HEQ : Hidden (allocL l len at_ = l) := ⟨by unfold allocL; rw [if_neg h0]⟩
    rw [show allocH l len at_ = 0 by unfold allocH; rw [if_neg h0]] at HPR
    have HRD := Hidden.mk (HRB.out.below hb5)
    have HZ := Hidden.mk h0
    obtain ⟨c0, c1, c2, c3', c4, c5⟩ := H6.out.1.below HB5.out H6.out.2
    clear hb5 h0 HC
    generalize allocL l len at_ = l2 at *
    generalize allocE l len at_ = E at *
    try dsimp only
    go_wp2_with fail
    refine HPR.out.mono ?_
    rintro e w6 ⟨rfl, F6, hm6⟩
    have HF6 := Hidden.mk (hpc_bad (nv := .slice none 0 0) (E := E) hm6 HEQ.out HLL.out.2 HLL.out.1 HRD.out HZ.out)
    clear hm6 HPR HRD HP5 HB5 c0 c1 c2 c3' c4 c5
    try dsimp only
    go_wp2_with fail
    refine (HER.out E _ HF6.out.hp.bel).mono ?_
    rintro e w7 ⟨rfl, hb7⟩
    have HF7 := Hidden.mk (HF6.out.below hb7)
    clear hb7 HF6
    try dsimp only
    go_wp2_with fail
    exact hfin _ _ _ _ _ _ _ _ _ _ _ _ _ _ _ _ _ _ _ _ _ _ _ _ _ _ _ _ _ _ _ _ _ _ _ _ _ _ _ _ _ _ _ _ _ _ _ _ _ _ _ _ _ _ _ _ _ _ _ _ _ _ _ _ _ _ _ _ _ _ _ _ _ _ _ _ _ _ _ _ _ _ _ _ _ _ _ _ _ _ _ _ _ _ _ _ _ _ _ _ _ _ _ _ _ _ _ _ _ _ _ _ _ _ _ _ _ _ _ _ _ _ _ _ _ _ _ _ _ _ _ _ _ _ _ _ _ _ _ _ _ _ _ _ _ _ _ _ _ _ _ _ _ _ _ _ _ _ _ _ _ _ _ _ _ _ _ _ _ _ _ _ _ _ _ _ _ _ _ _ _ _ _ _ _ _ _ _ _ _ _ _ _ _ _ _ _ _ _ _ _ _ _ _ _ _ _ _ _ _ _ _ _ _ _ _ _ _ _ _ _ _ _ _ _ _ _ _ _ _ _ _ _ _ _ _ _ _ _ _ _ _ _ _ _ _ _ _ _ _ _ _ _ _ _ _ _ _ _ _ _ _ _ _ _ _ _ _ _ _ _ _ _ _ _ _ _ _ _ _ _ _ _ _ _ _ _ _ _ _ _ _ _ _ _ _ _ _ _ _ _ _ _ _ _ _ _ E _ _ _ _ HF7
end Go.Proofs.YtbnobjlphmkgeaaGreatDoor
/- HeapPlays: the case 2 of the switch. -/
namespace Go.Proofs.YtbnobjlphmkgeaaGreatDoor
open Go.RowKit Go.Maps Go.ChangeMaps

set_option maxRecDepth 1000000 in
set_option maxHeartbeats 8000000 in
theorem hp_case2 (Q : Exit → Act → World → Prop) (u1 u2 u3 u4 u5 u8 u9 u10 u13 u14 u15 u16 u17 u18 u19 u20 u21 u22 u23 u24 u25 u26 u27 u28 u29 u30 u31 u32 u33 u34 u35 u36 u37 u38 u39 u40 u41 u42 u43 u44 u45 u46 u47 u48 u49 u50 u51 u52 u53 u54 u55 u56 u57 u58 u59 u60 u61 u62 u63 u64 u65 u66 u67 u68 u69 u70 u71 u72 u73 u74 u75 u76 u77 u78 u79 u80 u81 u82 u83 u84 u86 u87 u88 u89 u90 u91 u92 u93 u94 u95 u96 u97 u98 u99 u100 u101 u102 u103 u104 u105 u106 u107 u108 u109 u110 u111 u112 u113 u114 u115 u116 u117 u118 u119 u120 u121 u122 u123 u124 u125 u126 u127 u128 u129 u130 u131 u132 u133 u134 u135 u136 u137 u138 u139 u140 u141 u142 u143 u144 u145 u146 u147 u148 u149 u150 u151 u152 u153 u154 u155 u156 u157 u158 u159 u160 u161 u162 u163 u164 u165 u166 u167 u168 u169 u170 u171 u172 u173 u174 u175 u176 u177 u178 u179 u180 u181 u182 u183 u184 u185 u186 u187 u188 u189 u190 u191 u192 u193 u194 u195 u196 u197 u198 u199 u200 u201 u202 u203 u204 u205 u206 u207 u208 u209 u210 u211 u212 u213 u214 u215 u216 u217 u218 u219 u220 u221 u222 u223 u224 u225 u226 u227 u228 u229 u230 u231 u232 u233 u234 u235 u236 u237 u238 u239 u240 u241 u242 u243 u244 u245 u246 u247 u248 u249 u250 u251 u252 u253 u254 u255 u256 u257 u258 u259 u260 u261 u262 u263 u264 u265 u266 u267 u268 u269 u270 u271 u272 u273 u274 u275 u276 u277 u278 u279 u280 u281 u282 u283 u284 u285 u286 u287 u288 u289 u290 u291 u292 u293 u294 u295 u296 u297 u298 u299 u300 u301 u302 u303 u304 u305 u306 u307 u308 u309 u310 u311 u312 u313 u314 u315 u316 u317 u318 u319 u320 u321 u322 u323 u324 u325 u326 u327 u328 u329 u330 u331 u332 u333 u334 u335 u336 u337 u338 u339 u340 u341 u342 u343 u344 u345 u346 u347 u348 u349 u350 u351 u352 u353 u354 u355 u356 u357 u358 u359 u360 u361 u362 u363 u364 u365 u366 u367 u368 u369 u370 u371 u372 u373 : Value) (w W1 : World) (F : Nat → Prop) (h gb ob cb NL bx : Nat) (l : Bytes) (what handle at_ len : Int) (name : Bytes) (bA : Option Addr) (bc : Nat) (body : Bytes) (HTY : Hidden (HasType w)) (hcb : NL ≤ cb) (hl0 : 0 < l.length) (hNb : 288 ≤ NL ∧ NL ≤ 6400) (HP1 : Hidden (Hp w W1 F h l)) (HRB : Hidden (RdO W1 F gb ob l)) (HLL : Hidden (l.length = NL ∧ Good l)) (H6 : Hidden (Six6 W1 bx (.int .i64 what) (.int .i64 handle) (.int .i64 at_) (.int .i64 len) (sv name) (.slice bA body.length bc) ∧ bx < W1.heap.size)) (HBO : Hidden (body.length ≤ bc ∧ bc ≤ 140737488351232 ∧ name.length ≤ 140737488351232 ∧ Rd W1 bA body)) (HLB : Hidden (-9223372036854775808 ≤ len ∧ len ≤ 9223372036854775807))
    (HER : Hidden (∀ (E : Nat) W, Below w.heap.size w W → Calls Tryz.prog 10 #[errV E, .int .i64 (E : Int)] W fun e w' => e = .returned (.bool true) ∧ Below W.heap.size W w')) (HER0 : Hidden (∀ W, Below w.heap.size w W → Calls Tryz.prog 10 #[.nilIface, .int .i64 0] W fun e w' => e = .returned (.bool true) ∧ Below W.heap.size W w')) (z2 : what = 2)
    (hfin : ∀ (x13 x14 x15 x16 x17 x18 x19 x20 x21 x22 x23 x24 x25 x26 x27 x28 x29 x30 x31 x32 x33 x34 x35 x36 x37 x38 x39 x40 x41 x42 x43 x44 x86 x87 x88 x89 x90 x91 x92 x93 x94 x95 x96 x97 x98 x99 x100 x101 x102 x103 x104 x105 x106 x107 x108 x109 x110 x111 x112 x113 x114 x115 x116 x117 x118 x119 x120 x121 x122 x123 x124 x125 x126 x127 x128 x129 x130 x131 x132 x133 x134 x135 x136 x137 x138 x139 x140 x141 x142 x143 x144 x145 x146 x147 x148 x149 x150 x151 x152 x153 x154 x155 x156 x157 x158 x159 x160 x161 x162 x163 x164 x165 x166 x167 x168 x169 x170 x171 x172 x173 x174 x175 x176 x177 x178 x179 x180 x181 x182 x183 x184 x185 x186 x187 x188 x189 x190 x191 x192 x193 x194 x195 x196 x197 x198 x199 x200 x201 x202 x203 x204 x205 x206 x207 x208 x209 x210 x211 x212 x213 x214 x215 x216 x217 x218 x219 x220 x221 x222 x223 x224 x225 x226 x227 x228 x229 x230 x231 x232 x233 x234 x235 x236 x237 x238 x239 x240 x241 x242 x243 x244 x245 x246 x247 x248 x249 x250 x251 x252 x253 x254 x255 x256 x257 x258 x259 x260 x261 x262 x263 x264 x265 x266 x267 x268 x269 x270 x271 x272 x273 x274 x275 x276 x277 x278 x279 x280 x281 x282 x283 x284 x285 x286 x287 x288 x289 x290 x291 x292 x293 x294 x295 x296 x297 x298 x299 x300 x301 x302 x303 x304 x305 x306 x307 x308 x309 x310 x311 x312 x313 x314 x315 x316 x317 x318 x319 x320 x321 x322 x323 x324 x325 x326 x327 x328 x329 x330 x331 x332 x333 x334 x335 x336 x337 x338 x339 x340 x341 x342 x343 x344 x345 x346 x347 x348 x349 x350 x351 x352 x353 x354 x355 x356 x357 x358 x359 x360 : Value) (E : Nat) (F2 : Nat → Prop) (l2 : Bytes) (nv : Value) (wx : World), Hidden (HpCut w wx F2 h gb ob NL E l l2 nv) → Q .normal ⟨#[.slice (some ⟨gb, ob, none⟩) NL cb, u1, u2, u3, u4, u5, .int .i64 (E : Int), .pointer (some ⟨h, 0, none⟩), u8, .bool true, u10, .pointer (some ⟨bx, 0, none⟩), nv, x13, x14, x15, x16, x17, x18, x19, x20, x21, x22, x23, x24, x25, x26, x27, x28, x29, x30, x31, x32, x33, x34, x35, x36, x37, x38, x39, x40, x41, x42, x43, x44, u45, u46, u47, u48, u49, u50, u51, u52, u53, u54, u55, u56, u57, u58, u59, u60, u61, u62, u63, u64, u65, u66, u67, u68, u69, u70, u71, u72, u73, u74, u75, u76, u77, u78, u79, u80, u81, u82, u83, u84, .int .i64 what, x86, x87, x88, x89, x90, x91, x92, x93, x94, x95, x96, x97, x98, x99, x100, x101, x102, x103, x104, x105, x106, x107, x108, x109, x110, x111, x112, x113, x114, x115, x116, x117, x118, x119, x120, x121, x122, x123, x124, x125, x126, x127, x128, x129, x130, x131, x132, x133, x134, x135, x136, x137, x138, x139, x140, x141, x142, x143, x144, x145, x146, x147, x148, x149, x150, x151, x152, x153, x154, x155, x156, x157, x158, x159, x160, x161, x162, x163, x164, x165, x166, x167, x168, x169, x170, x171, x172, x173, x174, x175, x176, x177, x178, x179, x180, x181, x182, x183, x184, x185, x186, x187, x188, x189, x190, x191, x192, x193, x194, x195, x196, x197, x198, x199, x200, x201, x202, x203, x204, x205, x206, x207, x208, x209, x210, x211, x212, x213, x214, x215, x216, x217, x218, x219, x220, x221, x222, x223, x224, x225, x226, x227, x228, x229, x230, x231, x232, x233, x234, x235, x236, x237, x238, x239, x240, x241, x242, x243, x244, x245, x246, x247, x248, x249, x250, x251, x252, x253, x254, x255, x256, x257, x258, x259, x260, x261, x262, x263, x264, x265, x266, x267, x268, x269, x270, x271, x272, x273, x274, x275, x276, x277, x278, x279, x280, x281, x282, x283, x284, x285, x286, x287, x288, x289, x290, x291, x292, x293, x294, x295, x296, x297, x298, x299, x300, x301, x302, x303, x304, x305, x306, x307, x308, x309, x310, x311, x312, x313, x314, x315, x316, x317, x318, x319, x320, x321, x322, x323, x324, x325, x326, x327, x328, x329, x330, x331, x332, x333, x334, x335, x336, x337, x338, x339, x340, x341, x342, x343, x344, x345, x346, x347, x348, x349, x350, x351, x352, x353, x354, x355, x356, x357, x358, x359, x360, u361, u362, u363, u364, u365, u366, u367, u368, u369, u370, u371, u372, u373], []⟩ wx) :
    Code.wp Tryz.prog hpSw Q ⟨#[.slice (some ⟨gb, ob, none⟩) NL cb, u1, u2, u3, u4, u5, .int .i64 0, .pointer (some ⟨h, 0, none⟩), u8, u9, u10, .pointer (some ⟨bx, 0, none⟩), .slice none 0 0, u13, u14, u15, u16, u17, u18, u19, u20, u21, u22, u23, u24, u25, u26, u27, u28, u29, u30, u31, u32, u33, u34, u35, u36, u37, u38, u39, u40, u41, u42, u43, u44, u45, u46, u47, u48, u49, u50, u51, u52, u53, u54, u55, u56, u57, u58, u59, u60, u61, u62, u63, u64, u65, u66, u67, u68, u69, u70, u71, u72, u73, u74, u75, u76, u77, u78, u79, u80, u81, u82, u83, u84, .int .i64 what, u86, u87, u88, u89, u90, u91, u92, u93, u94, u95, u96, u97, u98, u99, u100, u101, u102, u103, u104, u105, u106, u107, u108, u109, u110, u111, u112, u113, u114, u115, u116, u117, u118, u119, u120, u121, u122, u123, u124, u125, u126, u127, u128, u129, u130, u131, u132, u133, u134, u135, u136, u137, u138, u139, u140, u141, u142, u143, u144, u145, u146, u147, u148, u149, u150, u151, u152, u153, u154, u155, u156, u157, u158, u159, u160, u161, u162, u163, u164, u165, u166, u167, u168, u169, u170, u171, u172, u173, u174, u175, u176, u177, u178, u179, u180, u181, u182, u183, u184, u185, u186, u187, u188, u189, u190, u191, u192, u193, u194, u195, u196, u197, u198, u199, u200, u201, u202, u203, u204, u205, u206, u207, u208, u209, u210, u211, u212, u213, u214, u215, u216, u217, u218, u219, u220, u221, u222, u223, u224, u225, u226, u227, u228, u229, u230, u231, u232, u233, u234, u235, u236, u237, u238, u239, u240, u241, u242, u243, u244, u245, u246, u247, u248, u249, u250, u251, u252, u253, u254, u255, u256, u257, u258, u259, u260, u261, u262, u263, u264, u265, u266, u267, u268, u269, u270, u271, u272, u273, u274, u275, u276, u277, u278, u279, u280, u281, u282, u283, u284, u285, u286, u287, u288, u289, u290, u291, u292, u293, u294, u295, u296, u297, u298, u299, u300, u301, u302, u303, u304, u305, u306, u307, u308, u309, u310, u311, u312, u313, u314, u315, u316, u317, u318, u319, u320, u321, u322, u323, u324, u325, u326, u327, u328, u329, u330, u331, u332, u333, u334, u335, u336, u337, u338, u339, u340, u341, u342, u343, u344, u345, u346, u347, u348, u349, u350, u351, u352, u353, u354, u355, u356, u357, u358, u359, u360, u361, u362, u363, u364, u365, u366, u367, u368, u369, u370, u371, u372, u373], []⟩ W1 := by
  conv => arg 2; whnf
  obtain ⟨c0, c1, c2, c3', c4, c5⟩ := H6.out.1
  subst z2
  have HC := Hidden.mk (rfree_all gb ob NL cb l handle W1 HLL.out.1 HLL.out.2 hcb HRB.out.rd)
  clear HLB
  try dsimp only
  go_wp2_with fail
  refine HC.out.mono ?_
  rintro e w5 ⟨hb5, ⟨h0, g5, c5', rfl, hc5, hg5, hr5⟩ | ⟨h0, rfl⟩⟩
  · have HB5 := Hidden.mk hb5
    have HP5 := Hidden.mk (HP1.out.below hb5)
    have HG2 : Hidden (Good (freeL l handle) ∧ (freeL l handle).length = NL) := ⟨(stepR_free HLL.out.2 handle).good, (stepR_free HLL.out.2 handle).len.trans HLL.out.1⟩
    have HRD : Hidden (RdO w5 F g5 0 (freeL l handle) ∧ RdO w5 F gb ob l ∧ NL ≤ c5') := ⟨RdO.fresh HP1.out.flt hg5 hr5 (by rw [HG2.out.2]; omega), HRB.out.below hb5, hc5⟩
    have HPR := Hidden.mk (hfree_any handle HP5.out)
    rw [h0, errV0] at HPR
    obtain ⟨c0, c1, c2, c3', c4, c5⟩ := H6.out.1.below HB5.out H6.out.2
    clear hb5 h0 hc5 hg5 hr5 HC
    generalize freeL l handle = l2 at *
    try dsimp only
    go_wp2_with fail
    refine HPR.out.mono ?_
    rintro e w6 ⟨rfl, F6, hm6⟩
    have HF6 := Hidden.mk (hpc_ok hm6 HG2.out.1 HG2.out.2 HRD.out.2.1 HRD.out.2.2 HRD.out.1)
    clear hm6 HPR HRD HG2 HP5 HB5 c0 c1 c2 c3' c4 c5
    try dsimp only
    go_wp2_with fail
    refine (HER0.out _ HF6.out.hp.bel).mono ?_
    rintro e w7 ⟨rfl, hb7⟩
    have HF7 := Hidden.mk (HF6.out.below hb7)
    clear hb7 HF6
    try dsimp only
    go_wp2_with fail
    all_goals
      exact hfin _ _ _ _ _ _ _ _ _ _ _ _ _ _ _ _ _ _ _ _ _ _ _ _ _ _ _ _ _ _ _ _ _ _ _ _ _ _ _ _ _ _ _ _ _ _ _ _ _ _ _ _ _ _ _ _ _ _ _ _ _ _ _ _ _ _ _ _ _ _ _ _ _ _ _ _ _ _ _ _ _ _ _ _ _ _ _ _ _ _ _ _ _ _ _ _ _ _ _ _ _ _ _ _ _ _ _ _ _ _ _ _ _ _ _ _ _ _ _ _ _ _ _ _ _ _ _ _ _ _ _ _ _ _ _ _ _ _ _ _ _ _ _ _ _ _ _ _ _ _ _ _ _ _ _ _ _ _ _ _ _ _ _ _ _ _ _ _ _ _ _ _ _ _ _ _ _ _ _ _ _ _ _ _ _ _ _ _ _ _ _ _ _ _ _ _ _ _ _ _ _ _ _ _ _ _ _ _ _ _ _ _ _ _ _ _ _ _ _ _ _ _ _ _ _ _ _ _ _ _ _ _ _ _ _ _ _ _ _ _ _ _ _ _ _ _ _ _ _ _ _ _ _ _ _ _ _ _ _ _ _ _ _ _ _ _ _ _ _ _ _ _ _ _ _ _ _ _ _ _ _ _ _ _ _ _ _ _ _ _ _ _ _ _ _ _ _ _ _ _ _ _ _ _ _ _ _ 0 _ _ _ _ HF7
  · have HB5 := Hidden.mk hb5
    have HP5 := Hidden.mk (HP1.out.below hb5)
    have HPR := Hidden.mk (hfree_any handle HP5.out)
    have HEQ : Hidden (freeL l handle = l) := ⟨by unfold freeL; rw [if_neg h0]⟩
    have HRD := Hidden.mk (HRB.out.below hb5)
    have HZ := Hidden.mk h0
    obtain ⟨c0, c1, c2, c3', c4, c5⟩ := H6.out.1.below HB5.out H6.out.2
    clear hb5 h0 HC
    generalize freeL l handle = l2 at *
    generalize freeE l handle = E at *
    try dsimp only
    go_wp2_with fail
    refine HPR.out.mono ?_
    rintro e w6 ⟨rfl, F6, hm6⟩
    have HF6 := Hidden.mk (hpc_bad (nv := .slice none 0 0) (E := E) hm6 HEQ.out HLL.out.2 HLL.out.1 HRD.out HZ.out)
    clear hm6 HPR HRD HP5 HB5 c0 c1 c2 c3' c4 c5
    try dsimp only
    go_wp2_with fail
    refine (HER.out E _ HF6.out.hp.bel).mono ?_
    rintro e w7 ⟨rfl, hb7⟩
    have HF7 := Hidden.mk (HF6.out.below hb7)
    clear hb7 HF6
    try dsimp only
    go_wp2_with fail
    exact hfin _ _ _ _ _ _ _ _ _ _ _ _ _ _ _ _ _ _ _ _ _ _ _ _ _ _ _ _ _ _ _ _ _ _ _ _ _ _ _ _ _ _ _ _ _ _ _ _ _ _ _ _ _ _ _ _ _ _ _ _ _ _ _ _ _ _ _ _ _ _ _ _ _ _ _ _ _ _ _ _ _ _ _ _ _ _ _ _ _ _ _ _ _ _ _ _ _ _ _ _ _ _ _ _ _ _ _ _ _ _ _ _ _ _ _ _ _ _ _ _ _ _ _ _ _ _ _ _ _ _ _ _ _ _ _ _ _ _ _ _ _ _ _ _ _ _ _ _ _ _ _ _ _ _ _ _ _ _ _ _ _ _ _ _ _ _ _ _ _ _ _ _ _ _ _ _ _ _ _ _ _ _ _ _ _ _ _ _ _ _ _ _ _ _ _ _ _ _ _ _ _ _ _ _ _ _ _ _ _ _ _ _ _ _ _ _ _ _ _ _ _ _ _ _ _ _ _ _ _ _ _ _ _ _ _ _ _ _ _ _ _ _ _ _ _ _ _ _ _ _ _ _ _ _ _ _ _ _ _ _ _ _ _ _ _ _ _ _ _ _ _ _ _ _ _ _ _ _ _ _ _ _ _ _ _ _ _ _ _ _ _ _ _ _ _ _ _ _ _ _ _ _ _ _ _ _ _ E _ _ _ _ HF7
end Go.Proofs.YtbnobjlphmkgeaaGreatDoor
/- HeapPlays: the case 3 of the switch. -/
namespace Go.Proofs.YtbnobjlphmkgeaaGreatDoor
open Go.RowKit Go.Maps Go.ChangeMaps

set_option maxRecDepth 1000000 in
set_option maxHeartbeats 8000000 in
theorem hp_case3 (Q : Exit → Act → World → Prop) (u1 u2 u3 u4 u5 u8 u9 u10 u13 u14 u15 u16 u17 u18 u19 u20 u21 u22 u23 u24 u25 u26 u27 u28 u29 u30 u31 u32 u33 u34 u35 u36 u37 u38 u39 u40 u41 u42 u43 u44 u45 u46 u47 u48 u49 u50 u51 u52 u53 u54 u55 u56 u57 u58 u59 u60 u61 u62 u63 u64 u65 u66 u67 u68 u69 u70 u71 u72 u73 u74 u75 u76 u77 u78 u79 u80 u81 u82 u83 u84 u86 u87 u88 u89 u90 u91 u92 u93 u94 u95 u96 u97 u98 u99 u100 u101 u102 u103 u104 u105 u106 u107 u108 u109 u110 u111 u112 u113 u114 u115 u116 u117 u118 u119 u120 u121 u122 u123 u124 u125 u126 u127 u128 u129 u130 u131 u132 u133 u134 u135 u136 u137 u138 u139 u140 u141 u142 u143 u144 u145 u146 u147 u148 u149 u150 u151 u152 u153 u154 u155 u156 u157 u158 u159 u160 u161 u162 u163 u164 u165 u166 u167 u168 u169 u170 u171 u172 u173 u174 u175 u176 u177 u178 u179 u180 u181 u182 u183 u184 u185 u186 u187 u188 u189 u190 u191 u192 u193 u194 u195 u196 u197 u198 u199 u200 u201 u202 u203 u204 u205 u206 u207 u208 u209 u210 u211 u212 u213 u214 u215 u216 u217 u218 u219 u220 u221 u222 u223 u224 u225 u226 u227 u228 u229 u230 u231 u232 u233 u234 u235 u236 u237 u238 u239 u240 u241 u242 u243 u244 u245 u246 u247 u248 u249 u250 u251 u252 u253 u254 u255 u256 u257 u258 u259 u260 u261 u262 u263 u264 u265 u266 u267 u268 u269 u270 u271 u272 u273 u274 u275 u276 u277 u278 u279 u280 u281 u282 u283 u284 u285 u286 u287 u288 u289 u290 u291 u292 u293 u294 u295 u296 u297 u298 u299 u300 u301 u302 u303 u304 u305 u306 u307 u308 u309 u310 u311 u312 u313 u314 u315 u316 u317 u318 u319 u320 u321 u322 u323 u324 u325 u326 u327 u328 u329 u330 u331 u332 u333 u334 u335 u336 u337 u338 u339 u340 u341 u342 u343 u344 u345 u346 u347 u348 u349 u350 u351 u352 u353 u354 u355 u356 u357 u358 u359 u360 u361 u362 u363 u364 u365 u366 u367 u368 u369 u370 u371 u372 u373 : Value) (w W1 : World) (F : Nat → Prop) (h gb ob cb NL bx : Nat) (l : Bytes) (what handle at_ len : Int) (name : Bytes) (bA : Option Addr) (bc : Nat) (body : Bytes) (HTY : Hidden (HasType w)) (hcb : NL ≤ cb) (hl0 : 0 < l.length) (hNb : 288 ≤ NL ∧ NL ≤ 6400) (HP1 : Hidden (Hp w W1 F h l)) (HRB : Hidden (RdO W1 F gb ob l)) (HLL : Hidden (l.length = NL ∧ Good l)) (H6 : Hidden (Six6 W1 bx (.int .i64 what) (.int .i64 handle) (.int .i64 at_) (.int .i64 len) (sv name) (.slice bA body.length bc) ∧ bx < W1.heap.size)) (HBO : Hidden (body.length ≤ bc ∧ bc ≤ 140737488351232 ∧ name.length ≤ 140737488351232 ∧ Rd W1 bA body)) (HLB : Hidden (-9223372036854775808 ≤ len ∧ len ≤ 9223372036854775807))
    (HER : Hidden (∀ (E : Nat) W, Below w.heap.size w W → Calls Tryz.prog 10 #[errV E, .int .i64 (E : Int)] W fun e w' => e = .returned (.bool true) ∧ Below W.heap.size W w')) (HER0 : Hidden (∀ W, Below w.heap.size w W → Calls Tryz.prog 10 #[.nilIface, .int .i64 0] W fun e w' => e = .returned (.bool true) ∧ Below W.heap.size W w')) (z3 : what = 3)
    (hfin : ∀ (x13 x14 x15 x16 x17 x18 x19 x20 x21 x22 x23 x24 x25 x26 x27 x28 x29 x30 x31 x32 x33 x34 x35 x36 x37 x38 x39 x40 x41 x42 x43 x44 x86 x87 x88 x89 x90 x91 x92 x93 x94 x95 x96 x97 x98 x99 x100 x101 x102 x103 x104 x105 x106 x107 x108 x109 x110 x111 x112 x113 x114 x115 x116 x117 x118 x119 x120 x121 x122 x123 x124 x125 x126 x127 x128 x129 x130 x131 x132 x133 x134 x135 x136 x137 x138 x139 x140 x141 x142 x143 x144 x145 x146 x147 x148 x149 x150 x151 x152 x153 x154 x155 x156 x157 x158 x159 x160 x161 x162 x163 x164 x165 x166 x167 x168 x169 x170 x171 x172 x173 x174 x175 x176 x177 x178 x179 x180 x181 x182 x183 x184 x185 x186 x187 x188 x189 x190 x191 x192 x193 x194 x195 x196 x197 x198 x199 x200 x201 x202 x203 x204 x205 x206 x207 x208 x209 x210 x211 x212 x213 x214 x215 x216 x217 x218 x219 x220 x221 x222 x223 x224 x225 x226 x227 x228 x229 x230 x231 x232 x233 x234 x235 x236 x237 x238 x239 x240 x241 x242 x243 x244 x245 x246 x247 x248 x249 x250 x251 x252 x253 x254 x255 x256 x257 x258 x259 x260 x261 x262 x263 x264 x265 x266 x267 x268 x269 x270 x271 x272 x273 x274 x275 x276 x277 x278 x279 x280 x281 x282 x283 x284 x285 x286 x287 x288 x289 x290 x291 x292 x293 x294 x295 x296 x297 x298 x299 x300 x301 x302 x303 x304 x305 x306 x307 x308 x309 x310 x311 x312 x313 x314 x315 x316 x317 x318 x319 x320 x321 x322 x323 x324 x325 x326 x327 x328 x329 x330 x331 x332 x333 x334 x335 x336 x337 x338 x339 x340 x341 x342 x343 x344 x345 x346 x347 x348 x349 x350 x351 x352 x353 x354 x355 x356 x357 x358 x359 x360 : Value) (E : Nat) (F2 : Nat → Prop) (l2 : Bytes) (nv : Value) (wx : World), Hidden (HpCut w wx F2 h gb ob NL E l l2 nv) → Q .normal ⟨#[.slice (some ⟨gb, ob, none⟩) NL cb, u1, u2, u3, u4, u5, .int .i64 (E : Int), .pointer (some ⟨h, 0, none⟩), u8, .bool true, u10, .pointer (some ⟨bx, 0, none⟩), nv, x13, x14, x15, x16, x17, x18, x19, x20, x21, x22, x23, x24, x25, x26, x27, x28, x29, x30, x31, x32, x33, x34, x35, x36, x37, x38, x39, x40, x41, x42, x43, x44, u45, u46, u47, u48, u49, u50, u51, u52, u53, u54, u55, u56, u57, u58, u59, u60, u61, u62, u63, u64, u65, u66, u67, u68, u69, u70, u71, u72, u73, u74, u75, u76, u77, u78, u79, u80, u81, u82, u83, u84, .int .i64 what, x86, x87, x88, x89, x90, x91, x92, x93, x94, x95, x96, x97, x98, x99, x100, x101, x102, x103, x104, x105, x106, x107, x108, x109, x110, x111, x112, x113, x114, x115, x116, x117, x118, x119, x120, x121, x122, x123, x124, x125, x126, x127, x128, x129, x130, x131, x132, x133, x134, x135, x136, x137, x138, x139, x140, x141, x142, x143, x144, x145, x146, x147, x148, x149, x150, x151, x152, x153, x154, x155, x156, x157, x158, x159, x160, x161, x162, x163, x164, x165, x166, x167, x168, x169, x170, x171, x172, x173, x174, x175, x176, x177, x178, x179, x180, x181, x182, x183, x184, x185, x186, x187, x188, x189, x190, x191, x192, x193, x194, x195, x196, x197, x198, x199, x200, x201, x202, x203, x204, x205, x206, x207, x208, x209, x210, x211, x212, x213, x214, x215, x216, x217, x218, x219, x220, x221, x222, x223, x224, x225, x226, x227, x228, x229, x230, x231, x232, x233, x234, x235, x236, x237, x238, x239, x240, x241, x242, x243, x244, x245, x246, x247, x248, x249, x250, x251, x252, x253, x254, x255, x256, x257, x258, x259, x260, x261, x262, x263, x264, x265, x266, x267, x268, x269, x270, x271, x272, x273, x274, x275, x276, x277, x278, x279, x280, x281, x282, x283, x284, x285, x286, x287, x288, x289, x290, x291, x292, x293, x294, x295, x296, x297, x298, x299, x300, x301, x302, x303, x304, x305, x306, x307, x308, x309, x310, x311, x312, x313, x314, x315, x316, x317, x318, x319, x320, x321, x322, x323, x324, x325, x326, x327, x328, x329, x330, x331, x332, x333, x334, x335, x336, x337, x338, x339, x340, x341, x342, x343, x344, x345, x346, x347, x348, x349, x350, x351, x352, x353, x354, x355, x356, x357, x358, x359, x360, u361, u362, u363, u364, u365, u366, u367, u368, u369, u370, u371, u372, u373], []⟩ wx) :
    Code.wp Tryz.prog hpSw Q ⟨#[.slice (some ⟨gb, ob, none⟩) NL cb, u1, u2, u3, u4, u5, .int .i64 0, .pointer (some ⟨h, 0, none⟩), u8, u9, u10, .pointer (some ⟨bx, 0, none⟩), .slice none 0 0, u13, u14, u15, u16, u17, u18, u19, u20, u21, u22, u23, u24, u25, u26, u27, u28, u29, u30, u31, u32, u33, u34, u35, u36, u37, u38, u39, u40, u41, u42, u43, u44, u45, u46, u47, u48, u49, u50, u51, u52, u53, u54, u55, u56, u57, u58, u59, u60, u61, u62, u63, u64, u65, u66, u67, u68, u69, u70, u71, u72, u73, u74, u75, u76, u77, u78, u79, u80, u81, u82, u83, u84, .int .i64 what, u86, u87, u88, u89, u90, u91, u92, u93, u94, u95, u96, u97, u98, u99, u100, u101, u102, u103, u104, u105, u106, u107, u108, u109, u110, u111, u112, u113, u114, u115, u116, u117, u118, u119, u120, u121, u122, u123, u124, u125, u126, u127, u128, u129, u130, u131, u132, u133, u134, u135, u136, u137, u138, u139, u140, u141, u142, u143, u144, u145, u146, u147, u148, u149, u150, u151, u152, u153, u154, u155, u156, u157, u158, u159, u160, u161, u162, u163, u164, u165, u166, u167, u168, u169, u170, u171, u172, u173, u174, u175, u176, u177, u178, u179, u180, u181, u182, u183, u184, u185, u186, u187, u188, u189, u190, u191, u192, u193, u194, u195, u196, u197, u198, u199, u200, u201, u202, u203, u204, u205, u206, u207, u208, u209, u210, u211, u212, u213, u214, u215, u216, u217, u218, u219, u220, u221, u222, u223, u224, u225, u226, u227, u228, u229, u230, u231, u232, u233, u234, u235, u236, u237, u238, u239, u240, u241, u242, u243, u244, u245, u246, u247, u248, u249, u250, u251, u252, u253, u254, u255, u256, u257, u258, u259, u260, u261, u262, u263, u264, u265, u266, u267, u268, u269, u270, u271, u272, u273, u274, u275, u276, u277, u278, u279, u280, u281, u282, u283, u284, u285, u286, u287, u288, u289, u290, u291, u292, u293, u294, u295, u296, u297, u298, u299, u300, u301, u302, u303, u304, u305, u306, u307, u308, u309, u310, u311, u312, u313, u314, u315, u316, u317, u318, u319, u320, u321, u322, u323, u324, u325, u326, u327, u328, u329, u330, u331, u332, u333, u334, u335, u336, u337, u338, u339, u340, u341, u342, u343, u344, u345, u346, u347, u348, u349, u350, u351, u352, u353, u354, u355, u356, u357, u358, u359, u360, u361, u362, u363, u364, u365, u366, u367, u368, u369, u370, u371, u372, u373], []⟩ W1 := by
  conv => arg 2; whnf
  obtain ⟨c0, c1, c2, c3', c4, c5⟩ := H6.out.1
  subst z3
  have HC := Hidden.mk (rwrite_all gb ob NL cb l handle at_ bA body.length bc body W1 HLL.out.1 HLL.out.2 hcb HRB.out.rd rfl (Nat.le_trans HBO.out.1 HBO.out.2.1) HBO.out.2.2.2)
  clear HLB
  try dsimp only
  go_wp2_with fail
  refine HC.out.mono ?_
  rintro e w5 ⟨hb5, ⟨h0, g5, c5', rfl, hc5, hg5, hr5⟩ | ⟨h0, rfl⟩⟩
  · have HB5 := Hidden.mk hb5
    have HP5 := Hidden.mk (HP1.out.below hb5)
    have HG2 : Hidden (Good (writeL l handle at_ body) ∧ (writeL l handle at_ body).length = NL) := ⟨(stepR_write HLL.out.2 handle at_ body).good, (stepR_write HLL.out.2 handle at_ body).len.trans HLL.out.1⟩
    have HRD : Hidden (RdO w5 F g5 0 (writeL l handle at_ body) ∧ RdO w5 F gb ob l ∧ NL ≤ c5') := ⟨RdO.fresh HP1.out.flt hg5 hr5 (by rw [HG2.out.2]; omega), HRB.out.below hb5, hc5⟩
    have HPR := Hidden.mk (hwrite_any handle at_ bA body.length bc body HP5.out HLL.out.2 rfl (Nat.le_trans HBO.out.1 HBO.out.2.1) (HBO.out.2.2.2.below HB5.out))
    rw [h0, errV0] at HPR
    obtain ⟨c0, c1, c2, c3', c4, c5⟩ := H6.out.1.below HB5.out H6.out.2
    clear hb5 h0 hc5 hg5 hr5 HC
    generalize writeL l handle at_ body = l2 at *
    try dsimp only
    go_wp2_with fail
    refine HPR.out.mono ?_
    rintro e w6 ⟨rfl, hm6⟩
    have HF6 := Hidden.mk (hpc_ok hm6 HG2.out.1 HG2.out.2 HRD.out.2.1 HRD.out.2.2 HRD.out.1)
    clear hm6 HPR HRD HG2 HP5 HB5 c0 c1 c2 c3' c4 c5
    try dsimp only
    go_wp2_with fail
    refine (HER0.out _ HF6.out.hp.bel).mono ?_
    rintro e w7 ⟨rfl, hb7⟩
    have HF7 := Hidden.mk (HF6.out.below hb7)
    clear hb7 HF6
    try dsimp only
    go_wp2_with fail
    all_goals
      exact hfin _ _ _ _ _ _ _ _ _ _ _ _ _ _ _ _ _ _ _ _ _ _ _ _ _ _ _ _ _ _ _ _ _ _ _ _ _ _ _ _ _ _ _ _ _ _ _ _ _ _ _ _ _ _ _ _ _ _ _ _ _ _ _ _ _ _ _ _ _ _ _ _ _ _ _ _ _ _ _ _ _ _ _ _ _ _ _ _ _ _ _ _ _ _ _ _ _ _ _ _ _ _ _ _ _ _ _ _ _ _ _ _ _ _ _ _ _ _ _ _ _ _ _ _ _ _ _ _ _ _ _ _ _ _ _ _ _ _ _ _ _ _ _ _ _ _ _ _ _ _ _ _ _ _ _ _ _ _ _ _ _ _ _ _ _ _ _ _ _ _ _ _ _ _ _ _ _ _ _ _ _ _ _ _ _ _ _ _ _ _ _ _ _ _ _ _ _ _ _ _ _ _ _ _ _ _ _ _ _ _ _ _ _ _ _ _ _ _ _ _ _ _ _ _ _ _ _ _ _ _ _ _ _ _ _ _ _ _ _ _ _ _ _ _ _ _ _ _ _ _ _ _ _ _ _ _ _ _ _ _ _ _ _ _ _ _ _ _ _ _ _ _ _ _ _ _ _ _ _ _ _ _ _ _ _ _ _ _ _ _ _ _ _ _ _ _ _ _ _ _ _ _ _ _ _ _ _ 0 _ _ _ _ HF7
  · have HB5 := Hidden.mk hb5
    have HP5 := Hidden.mk (HP1.out.below hb5)
    have HPR := Hidden.mk (hwrite_any handle at_ bA body.length bc body HP5.out HLL.out.2 rfl (Nat.le_trans HBO.out.1 HBO.out.2.1) (HBO.out.2.2.2.below HB5.out))
    have HEQ : Hidden (writeL l handle at_ body = l) := ⟨by unfold writeL; rw [if_neg h0]⟩
    have HRD := Hidden.mk (HRB.out.below hb5)
    have HZ := Hidden.mk h0
    obtain ⟨c0, c1, c2, c3', c4, c5⟩ := H6.out.1.below HB5.out H6.out.2
    clear hb5 h0 HC
    generalize writeL l handle at_ body = l2 at *
    generalize someE l handle at_ body.length = E at *
    try dsimp only
    go_wp2_with fail
    refine HPR.out.mono ?_
    rintro e w6 ⟨rfl, hm6⟩
    have HF6 := Hidden.mk (hpc_bad (nv := .slice none 0 0) (E := E) hm6 HEQ.out HLL.out.2 HLL.out.1 HRD.out HZ.out)
    clear hm6 HPR HRD HP5 HB5 c0 c1 c2 c3' c4 c5
    try dsimp only
    go_wp2_with fail
    refine (HER.out E _ HF6.out.hp.bel).mono ?_
    rintro e w7 ⟨rfl, hb7⟩
    have HF7 := Hidden.mk (HF6.out.below hb7)
    clear hb7 HF6
    try dsimp only
    go_wp2_with fail
    exact hfin _ _ _ _ _ _ _ _ _ _ _ _ _ _ _ _ _ _ _ _ _ _ _ _ _ _ _ _ _ _ _ _ _ _ _ _ _ _ _ _ _ _ _ _ _ _ _ _ _ _ _ _ _ _ _ _ _ _ _ _ _ _ _ _ _ _ _ _ _ _ _ _ _ _ _ _ _ _ _ _ _ _ _ _ _ _ _ _ _ _ _ _ _ _ _ _ _ _ _ _ _ _ _ _ _ _ _ _ _ _ _ _ _ _ _ _ _ _ _ _ _ _ _ _ _ _ _ _ _ _ _ _ _ _ _ _ _ _ _ _ _ _ _ _ _ _ _ _ _ _ _ _ _ _ _ _ _ _ _ _ _ _ _ _ _ _ _ _ _ _ _ _ _ _ _ _ _ _ _ _ _ _ _ _ _ _ _ _ _ _ _ _ _ _ _ _ _ _ _ _ _ _ _ _ _ _ _ _ _ _ _ _ _ _ _ _ _ _ _ _ _ _ _ _ _ _ _ _ _ _ _ _ _ _ _ _ _ _ _ _ _ _ _ _ _ _ _ _ _ _ _ _ _ _ _ _ _ _ _ _ _ _ _ _ _ _ _ _ _ _ _ _ _ _ _ _ _ _ _ _ _ _ _ _ _ _ _ _ _ _ _ _ _ _ _ _ _ _ _ _ _ _ _ _ _ _ _ E _ _ _ _ HF7
end Go.Proofs.YtbnobjlphmkgeaaGreatDoor
