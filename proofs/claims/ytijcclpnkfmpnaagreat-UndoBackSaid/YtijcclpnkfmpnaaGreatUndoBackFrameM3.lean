/- Contracts and plain laws, put together: Heap5, Ext4, ExtP, Heap6, LayK, MapI, Dev0, Dev1, Dev2, Keys1, LayM, Keys2, LayDf, Undo1, Diff0, Diff1, Undo2, RowSet, Stamp2, RefS, RefN, RefP, RefM, RefNm. -/
import Derived.Test.YtijcclpnkfmpnaaGreatUndoBackFrameM2
import Derived.Test.YtijcclpnkfmpnaaGreatUndoBackFrameM1
import Derived.StillTailTactics
import Derived.Shelf.SlGeneric
import Derived.Shelf.SlIterI.Nil
import Derived.Shelf.SortM.Plain
import Derived.Shelf.SortM.SortNone
import Derived.Ground.GgzProg
import Derived.Ground.SlgmProg
import Derived.Maps.Own
import Derived.Maps.OwnSet
import Derived.Maps.RangeWalk
import Derived.Deep.RegionHeld3
import Derived.Shelf.SlMaps.DeleteFunc
import Derived.Ground.SlmdProg
import Derived.Deep.AppendLies
import Derived.BigQuiet
/- The heap: put, PutRoot, Free, Load. -/
namespace Go.Proofs.YtijcclpnkfmpnaaGreat
open Go.RowKit

section
variable {w0 w : World} {F : Nat → Prop} {h : Nat} {l : Bytes}
/-- what a heap's block is, for a walk that stores into it -/
theorem Hp.head (hp : Hp w0 w F h l) : ∃ g cap, w.cell? ⟨h, 0, none⟩ = some (.slice (some ⟨g, 0, none⟩) l.length cap) ∧ w.frozen? ⟨h, 0, none⟩ = false ∧ l.length ≤ cap ∧ cap ≤ maxLen ∧ Row w 5 g cap l ∧ F g := by
  obtain ⟨g, cap, h1, h2, h3⟩ := hp.hd
  exact ⟨g, cap, by simp [World.cell?, h1], frozen_of_row _ h 0 _ _ h1, h2.le.1, h2.le.2, h2, h3⟩
set_option maxRecDepth 100000 in
theorem hput_ok (x : Int) (a m t : Int) (hp : Hp w0 w F h l) (hx : handleB x = true) (ht : tagB t = true) (hm : lenB m = true) (hw : withinB l.length a m = true) :
    Calls Tryz.prog 45 #[.pointer (some ⟨h, 0, none⟩), .agg #[.int .i64 x, .int .i64 a, .int .i64 m, .int .i64 t]] w fun e w' => e = .returned .nilIface ∧ ∃ F', HpM w0 w w' F F' h (putEnt l x a m t) := by
  obtain ⟨g, cap, c0, -, hcap, -, hrow, hF⟩ := hp.head
  have hb := rightB_true.1 hp.len
  have hhb := handleB_true.1 hx
  have hal := (Below.refl w.heap.size w).alloc (Nat.le_refl _) (.cells #[.int .i64 x, .int .i64 a, .int .i64 m, .int .i64 t] 85)
  have hlen : (putEnt l x a m t).length = l.length := putEnt_len l x a m t hhb.1 hhb.2 (by omega)
  have HC := Hidden.mk (fun (W : World) (hW : Below w.heap.size w W) => iput_ok (some ⟨g, 0, none⟩) l.length cap l x a m t W rfl hcap (hrow.rd.below hW) hp.len hx ht hm hw)
  have hf := fourAt_one w x a m t 85
  have hc1 := (hal.cell (p := ⟨h, 0, none⟩) (block_lt_of_cell c0)).trans c0
  have HP := Hidden.mk hp
  have HAL := Hidden.mk hal
  have HLEN := Hidden.mk hlen
  generalize putEnt l x a m t = l' at *
  clear hp hrow hal hlen hx ht hm hw c0
  unfold entV at HC
  go_enter Tryz.func45, Tryz.ntmps45
  go_wp2_with fail
  generalize w.alloc (.cells #[.int .i64 x, .int .i64 a, .int .i64 m, .int .i64 t] 85) = w1 at *
  have KF := Hidden.mk hf
  have KC := Hidden.mk hc1
  have KL := Hidden.mk (And.intro (block_lt_of_cell hc1) (block_lt_of_cell hf.1))
  clear hf hc1
  go_region_held3 (fun W => W.cell? ⟨h, 0, none⟩ = some (.slice (some ⟨g, 0, none⟩) l.length cap) ∧ W.cell? ⟨w.heap.size, 0, none⟩ = some (.int .i64 x) ∧ W.cell? ⟨w.heap.size, 1, none⟩ = some (.int .i64 a) ∧ W.cell? ⟨w.heap.size, 2, none⟩ = some (.int .i64 m) ∧ W.cell? ⟨w.heap.size, 3, none⟩ = some (.int .i64 t)) (first | exact ⟨KC.out, KF.out⟩ | exact ⟨(hb2.cell (p := ⟨h, 0, none⟩) KL.out.1).trans KC.out, (hb2.cell (p := ⟨w.heap.size, 0, none⟩) KL.out.2).trans KF.out.1, (hb2.cell (p := ⟨w.heap.size, 1, none⟩) KL.out.2).trans KF.out.2.1, (hb2.cell (p := ⟨w.heap.size, 2, none⟩) KL.out.2).trans KF.out.2.2.1, (hb2.cell (p := ⟨w.heap.size, 3, none⟩) KL.out.2).trans KF.out.2.2.2⟩)
    ((go_at_call 82; refine (HC.out _ (HAL.out.trans ((Below.refl _ _).drew.mono HAL.out.size))).mono ?_; rintro e w2 ⟨g', cap', rfl, hg', hrow', hb2⟩))
  all_goals
    have hb2 : Below w1.heap.size w1 w2 := ((Below.refl _ _).drew).trans hb2
    have hB2 := HAL.out.trans (hb2.mono HAL.out.size)
    have hP2 := HP.out.below hB2
    obtain ⟨g2, cap2, y0, yf, -, -, -, -⟩ := hP2.head
    have hs := hP2.set hrow' (by rw [HLEN.out]; exact HP.out.len) (Nat.le_trans HP.out.bel.size (Nat.le_trans HAL.out.size hg'))
    rw [HLEN.out] at hs
    have HS := Hidden.mk (HpM.mk hs.1 ((Keep.of_below (F := F) hB2).trans hs.2 (fun k hk => .inl hk)) (fun k hk => by
      rcases hk with hk | rfl
      · exact .inl hk
      · exact .inr (Nat.le_trans HAL.out.size hg')))
    clear hs hP2 hB2 hb2 hrow' HC
    go_wp2_with fail
    go_ret
    exact ⟨rfl, _, HS.out⟩
/-- a root as it is put: what stands there then -/
def putRo (s : Bytes) (x : Int) : Bytes := if s = [] ∧ x = 0 then List.replicate 11 0 else rootB s x
set_option maxRecDepth 100000 in
theorem hroot_ok (i : Nat) (s : Bytes) (x : Int) (hp : Hp w0 w F h l) (hi : i < 8) (hs : (s = [] ∧ x = 0) ∨ (handleB x = true ∧ isName s = true)) :
    Calls Tryz.prog 55 #[.pointer (some ⟨h, 0, none⟩), .int .i64 (i : Int), .agg #[sv s, .int .i64 x]] w fun e w' => e = .returned .nilIface ∧ ∃ F', HpM w0 w w' F F' h (splice l (200 + 11 * i) (putRo s x)) := by
  obtain ⟨g, cap, c0, -, hcap, -, hrow, hF⟩ := hp.head
  have hb := rightB_true.1 hp.len
  have hal := (Below.refl w.heap.size w).alloc (Nat.le_refl _) (.cells #[sv s, .int .i64 x] 99)
  have hlen : (splice l (200 + 11 * i) (putRo s x)).length = l.length := by
    rw [splice_len]
    have : (putRo s x).length = 11 := by
      unfold putRo
      split
      · simp
      · rename_i hn
        rcases hs with hs | ⟨-, hs⟩
        · exact absurd hs hn
        · unfold rootB; rw [List.length_append, nameB_len s hs]; rfl
    omega
  have HC : Hidden (∀ W, Below w.heap.size w W → Calls Tryz.prog 90 #[.slice (some ⟨g, 0, none⟩) l.length cap, .int .i64 (i : Int), .agg #[sv s, .int .i64 x]] W fun e w' => ∃ g' cap', e = .returned (.tuple #[.slice (some ⟨g', 0, none⟩) l.length cap', .nilIface]) ∧ W.heap.size ≤ g' ∧ Row w' 5 g' cap' (splice l (200 + 11 * i) (putRo s x)) ∧ Below W.heap.size W w') := ⟨fun W hW => by
    unfold putRo
    rcases hs with ⟨rfl, rfl⟩ | ⟨h1, h2⟩
    · rw [if_pos ⟨rfl, rfl⟩, ← rootO_k]
      exact root_zero (some ⟨g, 0, none⟩) l.length cap l i _ rfl hcap (hrow.rd.below hW) hp.len (by omega) (by omega)
    · have hx := handleB_true.1 h1
      rw [if_neg (by omega), ← rootO_k]
      exact root_ok (some ⟨g, 0, none⟩) l.length cap l i s x _ rfl (hrow.rd.below hW) hp.len (by omega) (by omega) h1 h2⟩
  have hbk := heap_alloc_new w (.cells #[sv s, .int .i64 x] 99)
  have hf : (w.alloc (.cells #[sv s, .int .i64 x] 99)).cell? ⟨w.heap.size, 0, none⟩ = some (sv s) ∧ (w.alloc (.cells #[sv s, .int .i64 x] 99)).cell? ⟨w.heap.size, 1, none⟩ = some (.int .i64 x) := ⟨by simp only [World.cell?]; rw [hbk]; rfl, by simp only [World.cell?]; rw [hbk]; rfl⟩
  have hc1 := (hal.cell (p := ⟨h, 0, none⟩) (block_lt_of_cell c0)).trans c0
  have HP := Hidden.mk hp
  have HAL := Hidden.mk hal
  have HLEN := Hidden.mk hlen
  generalize splice l (200 + 11 * i) (putRo s x) = l' at *
  clear hp hrow hal hlen hs c0 hbk
  go_enter Tryz.func55, Tryz.ntmps55
  go_wp2_with fail
  generalize w.alloc (.cells #[sv s, .int .i64 x] 99) = w1 at *
  have KF := Hidden.mk hf
  have KC := Hidden.mk hc1
  have KL := Hidden.mk (And.intro (block_lt_of_cell hc1) (block_lt_of_cell hf.1))
  clear hf hc1
  go_region_held3 (fun W => W.cell? ⟨h, 0, none⟩ = some (.slice (some ⟨g, 0, none⟩) l.length cap) ∧ W.cell? ⟨w.heap.size, 0, none⟩ = some (sv s) ∧ W.cell? ⟨w.heap.size, 1, none⟩ = some (.int .i64 x)) (first | exact ⟨KC.out, KF.out⟩ | exact ⟨(hb2.cell (p := ⟨h, 0, none⟩) KL.out.1).trans KC.out, (hb2.cell (p := ⟨w.heap.size, 0, none⟩) KL.out.2).trans KF.out.1, (hb2.cell (p := ⟨w.heap.size, 1, none⟩) KL.out.2).trans KF.out.2⟩)
    ((go_at_call 90; refine (HC.out _ (HAL.out.trans ((Below.refl _ _).drew.mono HAL.out.size))).mono ?_; rintro e w2 ⟨g', cap', rfl, hg', hrow', hb2⟩))
  all_goals
    have hb2 : Below w1.heap.size w1 w2 := ((Below.refl _ _).drew).trans hb2
    have hB2 := HAL.out.trans (hb2.mono HAL.out.size)
    have hP2 := HP.out.below hB2
    obtain ⟨g2, cap2, y0, yf, -, -, -, -⟩ := hP2.head
    have hs := hP2.set hrow' (by rw [HLEN.out]; exact HP.out.len) (Nat.le_trans HP.out.bel.size (Nat.le_trans HAL.out.size hg'))
    rw [HLEN.out] at hs
    have HS := Hidden.mk (HpM.mk hs.1 ((Keep.of_below (F := F) hB2).trans hs.2 (fun k hk => .inl hk)) (fun k hk => by
      rcases hk with hk | rfl
      · exact .inl hk
      · exact .inr (Nat.le_trans HAL.out.size hg')))
    clear hs hP2 hB2 hb2 hrow' HC
    go_wp2_with fail
    go_ret
    exact ⟨rfl, _, HS.out⟩
/-- the fault of Free; the image behind it -/
def freeE (l : Bytes) (x : Int) : Nat := if hE l x ≠ 0 then hE l x else if (rootsL l).any (fun r => (r.2 : Int) == x) = true then 7 else 0
def freeL (l : Bytes) (x : Int) : Bytes := if freeE l x = 0 then splice l (5 * (x - 1).toNat) (List.replicate 5 0) else l
set_option maxRecDepth 100000 in
theorem hfree_any (x : Int) (hp : Hp w0 w F h l) :
    Calls Tryz.prog 13 #[.pointer (some ⟨h, 0, none⟩), .int .i64 x] w fun e w' => e = .returned (errV (freeE l x)) ∧ ∃ F', HpM w0 w w' F F' h (freeL l x) := by
  obtain ⟨g, cap, c0, -, hcap, -, hrow, hF⟩ := hp.head
  have hb := rightB_true.1 hp.len
  have hal := (Below.refl w.heap.size w).alloc (Nat.le_refl _) (.cells #[.int .i64 x] 3)
  have hbx : (w.alloc (.cells #[.int .i64 x] 3)).heap[w.heap.size]? = some (.cells #[.int .i64 x] 3 (0, 0)) := heap_alloc_new w _
  by_cases h0 : hE l x = 0
  · obtain ⟨k, hk, rfl, hh, hr⟩ := hE_zero h0
    have hlen : (splice l (5 * k) (List.replicate 5 0)).length = l.length := by rw [splice_len]; simp; omega
    have hk1 : ((k : Int) + 1 - 1).toNat = k := by omega
    have HC := Hidden.mk (fun (W : World) (hW : Below w.heap.size w W) => idrop_ok (some ⟨g, 0, none⟩) l.length cap l k W rfl hp.len hcap (hrow.rd.below hW) hk hh)
    have hc1 := (hal.cell (p := ⟨h, 0, none⟩) (block_lt_of_cell c0)).trans c0
    have hf : (w.alloc (.cells #[.int .i64 ((k : Int) + 1)] 3)).cell? ⟨w.heap.size, 0, none⟩ = some (.int .i64 ((k : Int) + 1)) := by simp only [World.cell?]; rw [hbx]; rfl
    have HP := Hidden.mk hp
    have HAL := Hidden.mk hal
    have HLEN := Hidden.mk hlen
    have HBX := Hidden.mk hbx
    have HE : Hidden (freeE l ((k : Int) + 1) = if (rootsL l).any (fun r => (r.2 : Int) == (k : Int) + 1) = true then 7 else 0) := ⟨by unfold freeE; rw [if_neg (by rw [h0]; simp)]⟩
    have HL : Hidden (freeL l ((k : Int) + 1) = if freeE l ((k : Int) + 1) = 0 then splice l (5 * k) (List.replicate 5 0) else l) := ⟨by unfold freeL; rw [hk1]⟩
    have HRL : Hidden ((rootsL l).length ≤ 8) := ⟨rootsF_len _ _⟩
    have HRT : Hidden (∀ W, Hp w0 W F h l → Calls Tryz.prog 49 #[.pointer (some ⟨h, 0, none⟩)] W fun e w' => ∃ v, e = .returned v ∧ w'.ownsRow W.heap.size 99 2 v (rootsL l).length ((rootsL l).flatMap rcells) ∧ Below W.heap.size W w') := ⟨fun W hW => hroots_any hW⟩
    generalize hl' : splice l (5 * k) (List.replicate 5 0) = l' at *
    generalize rootsL l = RL at *
    generalize freeE l ((k : Int) + 1) = fe at *
    generalize freeL l ((k : Int) + 1) = fl at *
    have HK : Hidden (k = k) := ⟨rfl⟩
    clear hp hrow hal hlen hbx hl' hk1 h0 hr c0
    go_enter Tryz.func13, Tryz.ntmps13
    go_wp2_with fail
    generalize w.alloc (.cells #[.int .i64 ((k : Int) + 1)] 3) = w1 at *
    have KF := Hidden.mk hf
    have KC := Hidden.mk hc1
    have KL := Hidden.mk (And.intro (block_lt_of_cell hc1) (block_lt_of_cell hf))
    clear hf hc1
    go_region_held3 (fun W => W.cell? ⟨h, 0, none⟩ = some (.slice (some ⟨g, 0, none⟩) l.length cap) ∧ W.cell? ⟨w.heap.size, 0, none⟩ = some (.int .i64 ((k : Int) + 1))) (first | exact ⟨KC.out, KF.out⟩ | exact ⟨(hb2.cell (p := ⟨h, 0, none⟩) KL.out.1).trans KC.out, (hb2.cell (p := ⟨w.heap.size, 0, none⟩) KL.out.2).trans KF.out⟩)
      ((go_at_call 47; refine (HC.out _ (HAL.out.trans ((Below.refl _ _).drew.mono HAL.out.size))).mono ?_; rintro e w2 ⟨g', cap', rfl, hg', hrow', hb2⟩))
    all_goals
      have hb2 : Below w1.heap.size w1 w2 := ((Below.refl _ _).drew).trans hb2
      have HB2 := Hidden.mk (HAL.out.trans (hb2.mono HAL.out.size))
      have HBX2 := Hidden.mk ((hb2.block _ (Array.getElem?_eq_some_iff.1 HBX.out).1).trans HBX.out)
      have HR2 := Hidden.mk hrow'
      clear hb2 hrow' HBX HC
      go_wp2_with fail
      refine (HRT.out _ (HP.out.below HB2.out)).mono ?_
      rintro e w3 ⟨v, rfl, hown, hb3⟩
      have hB3 := HB2.out.trans (hb3.mono HB2.out.size)
      have hP3 := HP.out.below hB3
      have HBX3 := Hidden.mk ((hb3.block _ (Array.getElem?_eq_some_iff.1 HBX2.out).1).trans HBX2.out)
      have hR3 := HR2.out.block (hb3.block _ HR2.out.lt)
      obtain ⟨A3, c3, rfl, hc3, -⟩ := own_split hown
      have HCF := Hidden.mk (cfR_free (fun r => (r.2 : Int) == (k : Int) + 1) A3 RL.length c3 RL (.pointer (some ⟨w.heap.size, 0, none⟩)) w3 rfl (by have := HRL.out; omega) (own_rdX3 (f := rcells) (fun _ => rfl) rfl hown)
        (fun y _ W hW => root1_free y ((k : Int) + 1) w.heap.size W (by have := (hW.block _ (Array.getElem?_eq_some_iff.1 HBX3.out).1).trans HBX3.out; simp [World.cell?, this])))
      have H3 := Hidden.mk (And.intro hB3 (And.intro hP3 hR3))
      clear hown hb3 hB3 hP3 hR3 HB2 HR2 HBX2
      go_wp2_with fail
      refine HCF.out.mono ?_
      rintro e w4 ⟨rfl, hb4⟩
      have hB4 := H3.out.1.trans (hb4.mono H3.out.1.size)
      have hP4 := H3.out.2.1.below hb4
      have hR4 := H3.out.2.2.block (hb4.block _ H3.out.2.2.lt)
      cases ha : RL.any (fun r => (r.2 : Int) == (k : Int) + 1) with
      | true =>
        have hfe : fe = 7 := by rw [HE.out, if_pos ha]
        have hfl : fl = l := by rw [HL.out, hfe]; rfl
        have HF := Hidden.mk (HP.out.same hB4)
        subst hfe hfl
        clear hb4 hB4 hP4 hR4 HE HL
        go_wp2_with fail
        go_ret
        exact ⟨rfl, _, HF.out⟩
      | false =>
        have hfe : fe = 0 := by rw [HE.out, if_neg (by rw [ha]; decide)]
        have hfl : fl = l' := by rw [HL.out, hfe]; rfl
        obtain ⟨g2, cap2, y0, yf, -, -, -, -⟩ := hP4.head
        have hs := hP4.set hR4 (by rw [HLEN.out]; exact HP.out.len) (Nat.le_trans HP.out.bel.size (Nat.le_trans HAL.out.size hg'))
        rw [HLEN.out] at hs
        have HF := Hidden.mk (HpM.mk hs.1 ((Keep.of_below (F := F) hB4).trans hs.2 (fun k hk => .inl hk)) (fun k hk => by
          rcases hk with hk | rfl
          · exact .inl hk
          · exact .inr (Nat.le_trans HAL.out.size hg')))
        subst hfe hfl
        clear hb4 hB4 hP4 hR4 HE HL hs ha
        go_wp2_with fail
        go_ret
        exact ⟨rfl, _, HF.out⟩
  · have HC : Hidden (∀ W, Below w.heap.size w W → Calls Tryz.prog 47 #[.slice (some ⟨g, 0, none⟩) l.length cap, .int .i64 x] W fun e w' => e = .returned (.tuple #[.slice none 0 0, .iface 76 (.int .i64 (hE l x : Int))]) ∧ Below W.heap.size W w') := ⟨fun W hW => idrop_e _ _ _ _ _ _ ((iget_ans (some ⟨g, 0, none⟩) l.length cap l x _ rfl hp.len hcap (hrow.rd.below hW)).mono fun e w' ⟨he, hb'⟩ => ⟨by
      rw [he]
      unfold gH gA gL gT errV
      rw [if_neg h0, if_neg h0, if_neg h0, if_neg h0, if_neg h0], hb'⟩)⟩
    have hc1 := (hal.cell (p := ⟨h, 0, none⟩) (block_lt_of_cell c0)).trans c0
    have hf : (w.alloc (.cells #[.int .i64 x] 3)).cell? ⟨w.heap.size, 0, none⟩ = some (.int .i64 x) := by simp only [World.cell?]; rw [hbx]; rfl
    have hfe : freeE l x = hE l x := by unfold freeE; rw [if_pos h0]
    have hfl : freeL l x = l := by unfold freeL; rw [if_neg (by rw [hfe]; exact h0)]
    have hev : errV (hE l x) = .iface 76 (.int .i64 (hE l x)) := by unfold errV; rw [if_neg h0]
    rw [hfe, hfl, hev]
    have HP := Hidden.mk hp
    have HAL := Hidden.mk hal
    generalize (hE l x : Int) = q at *
    clear hp hrow hal hbx hfe hfl hev h0 c0
    go_enter Tryz.func13, Tryz.ntmps13
    go_wp2_with fail
    generalize w.alloc (.cells #[.int .i64 x] 3) = w1 at *
    have KF := Hidden.mk hf
    have KC := Hidden.mk hc1
    have KL := Hidden.mk (And.intro (block_lt_of_cell hc1) (block_lt_of_cell hf))
    clear hf hc1
    go_region_held3 (fun W => W.cell? ⟨h, 0, none⟩ = some (.slice (some ⟨g, 0, none⟩) l.length cap) ∧ W.cell? ⟨w.heap.size, 0, none⟩ = some (.int .i64 x)) (first | exact ⟨KC.out, KF.out⟩ | exact ⟨(hb2.cell (p := ⟨h, 0, none⟩) KL.out.1).trans KC.out, (hb2.cell (p := ⟨w.heap.size, 0, none⟩) KL.out.2).trans KF.out⟩)
      ((go_at_call 47; refine (HC.out _ (HAL.out.trans ((Below.refl _ _).drew.mono HAL.out.size))).mono ?_; rintro e w2 ⟨rfl, hb2⟩))
    all_goals
      have hb2 : Below w1.heap.size w1 w2 := ((Below.refl _ _).drew).trans hb2
      have HF := Hidden.mk (HP.out.same (HAL.out.trans (hb2.mono HAL.out.size)))
      clear hb2 HC
      go_wp2_with fail
      go_ret
      exact ⟨rfl, _, HF.out⟩
end
theorem hload_ok (A : Option Addr) (n c : Nat) (l : Bytes) (w0 w : World) (hn : l.length = n) (hg : Good l) (hnc : n ≤ c) (hrd : Rd w A l) (hb0 : Below w0.heap.size w0 w) :
    Calls Tryz.prog 35 #[.slice A n c] w fun e w' => ∃ h F, e = .returned (.tuple #[.pointer (some ⟨h, 0, none⟩), .nilIface]) ∧ Hp w0 w' F h l ∧ Below w.heap.size w w' ∧ ∀ k, F k → w.heap.size ≤ k := by
  subst hn
  have hb := hg.bd
  obtain ⟨p, off, rfl, hlt⟩ := hrd.lt (by omega)
  have HC := Hidden.mk (fine_t (some ⟨p, off, none⟩) l.length c l w rfl hg.len hnc hrd hg.chk)
  have HCL : Hidden (∀ W, Below w.heap.size w W → Calls Tryz.prog 39 #[.slice (some ⟨p, off, none⟩) l.length c] W fun e w' => ∃ g cap, e = .returned (.slice (some ⟨g, 0, none⟩) l.length cap) ∧ W.heap.size ≤ g ∧ Row w' 5 g cap l ∧ Below W.heap.size W w') := ⟨fun W hW => clone_some ⟨p, off, none⟩ l.length c l W rfl (by omega) (hrd.below hW)⟩
  have HR := Hidden.mk hg.len
  have HB0 := Hidden.mk hb0
  clear hrd hg hb0
  go_enter Tryz.func35, Tryz.ntmps35
  go_wp2_with fail
  refine HC.out.mono ?_
  rintro e w1 ⟨rfl, hb1⟩
  have HB1 := Hidden.mk hb1
  clear hb1
  go_wp2_with fail
  refine (HCL.out _ HB1.out).mono ?_
  rintro e w2 ⟨g, cap, rfl, hg, hrow, hb2⟩
  have hB2 := HB1.out.trans (hb2.mono HB1.out.size)
  have hglt := hrow.lt
  have hB02 := HB0.out.trans (hB2.mono HB0.out.size)
  have hgw : w.heap.size ≤ g := Nat.le_trans HB1.out.size hg
  have hP : Hp w0 (w2.alloc (.cells #[.slice (some ⟨g, 0, none⟩) l.length cap] 81)) (fun k => k = w2.heap.size ∨ k = g) w2.heap.size l :=
    ⟨⟨g, cap, heap_alloc_new w2 _, hrow.block (Below.heap_alloc _ _ _ hglt), .inr rfl⟩, .inl rfl, HR.out,
      fun k hk => by rcases hk with rfl | rfl; exact hB02.size; exact Nat.le_trans HB0.out.size hgw, fun k hk => by simp; omega, hB02.alloc hB02.size _⟩
  have HF := Hidden.mk (And.intro hP (And.intro (hB2.alloc hB2.size (.cells #[.slice (some ⟨g, 0, none⟩) l.length cap] 81)) (show ∀ k, (k = w2.heap.size ∨ k = g) → w.heap.size ≤ k from fun k hk => by rcases hk with rfl | rfl; exact hB2.size; exact hgw)))
  clear hP hB2 hb2 hrow hB02 HC HCL
  go_wp2_with fail
  go_ret2
  exact ⟨_, _, rfl, HF.out.1, HF.out.2.1, HF.out.2.2⟩
end Go.Proofs.YtijcclpnkfmpnaaGreat
/- The contract of extent.Stat. -/
namespace Go.Proofs.YtijcclpnkfmpnaaGreat
open Go.RowKit

def statV (o u f m r : Int) : Value := .agg #[.int .i64 o, .int .i64 u, .int .i64 f, .int .i64 m, .int .i64 r]
def sumX (l : List Ext) : Int := l.foldl (fun s e => s + e.2) 0
def mostX (H : List Ext) : Int := H.foldl (fun s e => max s e.2) 0
theorem sumX_succ (l : List Ext) (k : Nat) (hk : k < l.length) : sumX (l.take (k + 1)) = sumX (l.take k) + l[k].2 := by
  unfold sumX; rw [List.take_succ_eq_append_getElem hk, List.foldl_append]; rfl
theorem mostX_succ (l : List Ext) (k : Nat) (hk : k < l.length) : mostX (l.take (k + 1)) = max (mostX (l.take k)) l[k].2 := by
  unfold mostX; rw [List.take_succ_eq_append_getElem hk, List.foldl_append]; rfl
theorem sumX_bd (l : List Ext) (h : OkX l) : ∀ k, k ≤ l.length → 0 ≤ sumX (l.take k) ∧ sumX (l.take k) ≤ 6400 * k
  | 0, _ => by simp [sumX]
  | k + 1, hk => by
    have ih := sumX_bd l h k (by omega)
    have := h l[k] (List.getElem_mem (by omega))
    rw [sumX_succ l k (by omega)]
    omega
/-- what Stat says -/
def statX (n : Int) (l : List Ext) : Value := if chkX n l = 0 then statV l.length (sumX l) (n - sumX l) (mostX (holesX n l)) (holesX n l).length else statV 0 0 0 0 0
end Go.Proofs.YtijcclpnkfmpnaaGreat
/- Extents, the plain law: what is free between extents that are right. No walk here. -/
namespace Go.Proofs.YtijcclpnkfmpnaaGreat
open Go.RowKit

/-- behind each other, from a to n -/
def Tidy : Int → List Ext → Int → Prop
  | a, [], n => a ≤ n
  | a, e :: r, n => a ≤ e.1 ∧ 1 ≤ e.2 ∧ Tidy (e.1 + e.2) r n
theorem hitX_symm (e o : Ext) : hitX e o = hitX o e := by unfold hitX; rw [Bool.and_comm]
theorem chkX_pair {n : Int} {l : List Ext} (h : chkX n l = 0) : l.Pairwise (fun a b => hitX a b = false) := by
  obtain ⟨_, _, _, _, h5⟩ := chkX_ok h
  rw [List.pairwise_iff_getElem]
  intro i j hi hj hij
  have h2 := (h5 j hj).2
  rw [List.any_eq_false] at h2
  have hm : l[i] ∈ l.take j := by
    rw [List.mem_take_iff_getElem]
    exact ⟨i, by omega, rfl⟩
  have := h2 _ hm
  rw [hitX_symm]
  simpa using this
theorem loopX_of (n : Int) (l : List Ext) : ∀ k, k ≤ l.length → (∀ j (hj : j < l.length), j < k → badX n l[j] = false ∧ (l.take j).any (hitX l[j]) = false) → loopX n l k = 0
  | 0, _, _ => rfl
  | k + 1, hk, h => by
    have h0 := loopX_of n l k (by omega) (fun j hj hjk => h j hj (by omega))
    obtain ⟨h1, h2⟩ := h k (by omega) (by omega)
    rw [loopX, if_pos h0]
    have hg : l.getD k (0, 0) = l[k] := by simp [show k < l.length by omega]
    rw [hg]
    unfold faultX
    rw [h1, h2]; rfl
theorem chkX_of {n : Int} {l : List Ext} (h0 : 0 ≤ n) (h1 : n ≤ 6400) (h2 : l.length ≤ 200) (hb : ∀ e ∈ l, badX n e = false) (hp : l.Pairwise (fun a b => hitX a b = false)) : chkX n l = 0 := by
  unfold chkX
  rw [if_neg (by omega), if_neg (by omega)]
  refine loopX_of n l _ (Nat.le_refl _) fun j hj _ => ⟨hb _ (List.getElem_mem hj), ?_⟩
  rw [List.any_eq_false]
  intro x hx
  rw [List.mem_take_iff_getElem] at hx
  obtain ⟨i, hi, rfl⟩ := hx
  rw [List.pairwise_iff_getElem] at hp
  have := hp i j (by omega) hj (by omega)
  rw [hitX_symm]
  simpa using this
theorem badX_of {n : Int} {e : Ext} (h : 1 ≤ e.2 ∧ 0 ≤ e.1 ∧ e.1 + e.2 ≤ n) : badX n e = false := by
  unfold badX
  simp only [Bool.or_eq_false_iff, decide_eq_false_iff_not]
  omega
theorem hitX_false {e o : Ext} : hitX e o = false ↔ (o.1 + o.2 ≤ e.1 ∨ e.1 + e.2 ≤ o.1) := by
  unfold hitX
  simp only [Bool.and_eq_false_iff, decide_eq_false_iff_not]
  omega
theorem tidy_mk (n : Int) : ∀ (S : List Ext) (a : Int), (∀ e ∈ S, a ≤ e.1 ∧ 1 ≤ e.2 ∧ e.1 + e.2 ≤ n) → S.Pairwise (fun x y => x.1 + x.2 ≤ y.1) → a ≤ n → Tidy a S n
  | [], _, _, _, h => h
  | e :: r, a, hb, hp, _ => by
    obtain ⟨h1, h2, h3⟩ := hb e (List.mem_cons_self ..)
    rw [List.pairwise_cons] at hp
    exact ⟨h1, h2, tidy_mk n r _ (fun x hx => by have := hb x (List.mem_cons_of_mem _ hx); have := hp.1 x hx; omega) hp.2 (by omega)⟩
theorem tidy_of {n : Int} {l : List Ext} (h : chkX n l = 0) : Tidy 0 (sortE l) n := by
  obtain ⟨h0, h1, h2, _, h5⟩ := chkX_ok h
  have hbad : ∀ e ∈ sortE l, badX n e = false := fun e he => by
    obtain ⟨j, hj, rfl⟩ := List.getElem_of_mem ((sortE_perm l).mem_iff.1 he)
    exact (h5 j hj).1
  refine tidy_mk n _ 0 (fun e he => by have := badX_false (hbad e he); omega) ?_ h0
  have hp : (sortE l).Pairwise (fun a b => hitX a b = false) := ((sortE_perm l).pairwise_iff (fun {x y} h => by rw [hitX_symm]; exact h)).2 (chkX_pair h)
  rw [List.pairwise_iff_getElem] at hp ⊢
  have hs := sortE_sorted l
  rw [List.pairwise_iff_getElem] at hs
  intro i j hi hj hij
  have a1 := hitX_false.1 (hp i j hi hj hij)
  have a2 := hs i j hi hj hij
  have a3 := badX_false (hbad _ (List.getElem_mem hi))
  have a4 := badX_false (hbad _ (List.getElem_mem hj))
  omega
theorem tidy_le : ∀ {S : List Ext} {a n : Int}, Tidy a S n → a ≤ n
  | [], _, _, h => h
  | e :: r, a, n, ⟨h1, h2, h3⟩ => by have := tidy_le h3; omega
theorem tidy_mem : ∀ {S : List Ext} {a n : Int}, Tidy a S n → ∀ e ∈ S, a ≤ e.1 ∧ 1 ≤ e.2 ∧ e.1 + e.2 ≤ n
  | e :: r, a, n, ⟨h1, h2, h3⟩, x, hx => by
    rcases List.mem_cons.1 hx with rfl | hx
    · exact ⟨h1, h2, tidy_le h3⟩
    · have := tidy_mem h3 x hx; omega
theorem tidy_strict : ∀ {S : List Ext} {a n : Int}, Tidy a S n → S.Pairwise (fun x y => x.1 < y.1)
  | [], _, _, _ => List.Pairwise.nil
  | e :: r, a, n, ⟨h1, h2, h3⟩ => List.Pairwise.cons (fun x hx => by have := tidy_mem h3 x hx; omega) (tidy_strict h3)
/-- holes of a tidy list, with its end -/
def runsX (a : Int) (S : List Ext) (n : Int) : List Ext := holesGo a (S ++ [(n, 0)])
theorem runsX_nil (a n : Int) : runsX a [] n = if a < n then [(a, n - a)] else [] := by
  unfold runsX
  simp [holesGo]
theorem runsX_cons (a : Int) (e : Ext) (r : List Ext) (n : Int) : runsX a (e :: r) n = (if a < e.1 then [(a, e.1 - a)] else []) ++ runsX (e.1 + e.2) r n := rfl
theorem runs_mem : ∀ {S : List Ext} {a n : Int}, Tidy a S n → ∀ h ∈ runsX a S n, a ≤ h.1 ∧ 1 ≤ h.2 ∧ h.1 + h.2 ≤ n ∧ ∀ e ∈ S, h.1 + h.2 ≤ e.1 ∨ e.1 + e.2 ≤ h.1
  | [], a, n, ht, h, hh => by
    rw [runsX_nil] at hh
    split at hh
    · rw [List.mem_singleton.1 hh]
      dsimp only
      exact ⟨by omega, by omega, by omega, fun e he => by cases he⟩
    · cases hh
  | e :: r, a, n, ⟨h1, h2, h3⟩, h, hh => by
    rw [runsX_cons] at hh
    rcases List.mem_append.1 hh with hh | hh
    · split at hh
      · rw [List.mem_singleton.1 hh]
        have := tidy_le h3
        dsimp only
        refine ⟨by omega, by omega, by omega, fun x hx => .inl ?_⟩
        rcases List.mem_cons.1 hx with rfl | hx
        · omega
        · have := tidy_mem h3 x hx; omega
      · cases hh
    · obtain ⟨i1, i2, i3, i4⟩ := runs_mem h3 h hh
      refine ⟨by omega, i2, i3, fun x hx => ?_⟩
      rcases List.mem_cons.1 hx with rfl | hx
      · right; omega
      · exact i4 x hx
theorem runs_pair : ∀ {S : List Ext} {a n : Int}, Tidy a S n → (runsX a S n).Pairwise (fun x y => x.1 + x.2 ≤ y.1)
  | [], a, n, _ => by
    rw [runsX_nil]; split <;> simp
  | e :: r, a, n, ⟨h1, h2, h3⟩ => by
    rw [runsX_cons]
    have ih := runs_pair h3
    split
    · refine List.Pairwise.cons (fun x hx => ?_) ih
      have := runs_mem h3 x hx
      dsimp only
      omega
    · exact ih
theorem foldl_sum (l : List Ext) : ∀ s : Int, l.foldl (fun s e => s + e.2) s = s + l.foldl (fun s e => s + e.2) 0 := by
  induction l with
  | nil => intro s; simp
  | cons x l ih => intro s; rw [List.foldl_cons, ih, List.foldl_cons, ih (0 + x.2)]; omega
theorem sumX_cons (e : Ext) (l : List Ext) : sumX (e :: l) = e.2 + sumX l := by
  unfold sumX; rw [List.foldl_cons, foldl_sum]; omega
theorem sumX_append (l m : List Ext) : sumX (l ++ m) = sumX l + sumX m := by
  induction l with
  | nil => simp [sumX]
  | cons x l ih => rw [List.cons_append, sumX_cons, sumX_cons, ih]; omega
theorem sumX_perm {l m : List Ext} (h : l.Perm m) : sumX l = sumX m := by
  induction h with
  | nil => rfl
  | cons x _ ih => rw [sumX_cons, sumX_cons, ih]
  | swap x y l => rw [sumX_cons, sumX_cons, sumX_cons, sumX_cons]; omega
  | trans _ _ h1 h2 => rw [h1, h2]
theorem runs_sum : ∀ {S : List Ext} {a n : Int}, Tidy a S n → sumX S + sumX (runsX a S n) = n - a
  | [], a, n, h => by
    have : a ≤ n := h
    rw [runsX_nil]; split
    · rw [sumX_cons]; simp [sumX]
    · simp [sumX]; omega
  | e :: r, a, n, ⟨h1, h2, h3⟩ => by
    rw [runsX_cons, sumX_cons, sumX_append]
    have ih := runs_sum h3
    split
    · rw [sumX_cons]
      have : sumX [] = 0 := rfl
      dsimp only
      omega
    · have : sumX [] = 0 := rfl
      omega
/-- one more, where it fits -/
theorem runs_insert : ∀ {S : List Ext} {a n at_ L size : Int}, Tidy a S n → (at_, L) ∈ runsX a S n → 1 ≤ size → size ≤ L →
    ∃ S', S'.Perm ((at_, size) :: S) ∧ Tidy a S' n ∧ (runsX a S' n).length ≤ (runsX a S n).length ∧ ∀ h ∈ runsX a S' n, ∃ h' ∈ runsX a S n, h.2 ≤ h'.2
  | [], a, n, at_, L, size, ht, hm, h1, h2 => by
    rw [runsX_nil] at hm
    split at hm
    · rename_i hlt
      have he := List.mem_singleton.1 hm
      injection he with e1 e2
      subst e1 e2
      refine ⟨[(at_, size)], List.Perm.refl _, ⟨Int.le_refl _, h1, (by omega : at_ + size ≤ n)⟩, ?_, ?_⟩
      · rw [runsX_cons, runsX_nil, runsX_nil, if_neg (by dsimp only; omega), if_pos hlt]
        dsimp only
        split <;> simp
      · intro h hh
        rw [runsX_cons, runsX_nil, if_neg (by dsimp only; omega)] at hh
        dsimp only at hh
        split at hh
        · have hm' : h = (at_ + size, n - (at_ + size)) := by simpa using hh
          rw [hm', runsX_nil, if_pos hlt]
          exact ⟨_, List.mem_singleton.2 rfl, by dsimp only; omega⟩
        · simp at hh
    · cases hm
  | e :: r, a, n, at_, L, size, ⟨t1, t2, t3⟩, hm, h1, h2 => by
    rw [runsX_cons] at hm
    rcases List.mem_append.1 hm with hm | hm
    · split at hm
      · rename_i hlt
        have he := List.mem_singleton.1 hm
        injection he with e1 e2
        subst e1 e2
        refine ⟨(at_, size) :: e :: r, List.Perm.refl _, ⟨Int.le_refl _, h1, (by dsimp only; omega), t2, t3⟩, ?_, ?_⟩
        · rw [runsX_cons, runsX_cons, runsX_cons, if_neg (by dsimp only; omega), if_pos hlt]
          dsimp only
          split <;> simp
        · intro h hh
          rw [runsX_cons, runsX_cons, if_neg (by dsimp only; omega)] at hh
          dsimp only at hh
          rw [runsX_cons, if_pos hlt]
          rw [List.nil_append] at hh
          rcases List.mem_append.1 hh with hh | hh
          · split at hh
            · rw [List.mem_singleton.1 hh]
              exact ⟨_, List.mem_cons_self .., by dsimp only; omega⟩
            · cases hh
          · exact ⟨h, List.mem_cons_of_mem _ hh, Int.le_refl _⟩
      · cases hm
    · obtain ⟨S', p1, p2, p3, p4⟩ := runs_insert t3 hm h1 h2
      refine ⟨e :: S', (List.Perm.cons e p1).trans (List.Perm.swap _ _ _), ⟨t1, t2, p2⟩, ?_, ?_⟩
      · rw [runsX_cons, runsX_cons, List.length_append, List.length_append]; omega
      · intro h hh
        rw [runsX_cons] at hh ⊢
        rcases List.mem_append.1 hh with hh | hh
        · exact ⟨h, List.mem_append_left _ hh, Int.le_refl _⟩
        · obtain ⟨h', m1, m2⟩ := p4 h hh
          exact ⟨h', List.mem_append_right _ m1, m2⟩
theorem sortE_unique {l S : List Ext} {a n : Int} (hp : S.Perm l) (ht : Tidy a S n) : sortE l = S := by
  have h1 : (sortE l).Perm S := (sortE_perm l).trans hp.symm
  have hs := tidy_strict ht
  refine List.Perm.eq_of_pairwise (le := fun x y : Ext => x.1 ≤ y.1) (fun x y hx hy h h' => ?_) (sortE_sorted l) (hs.imp fun h => Int.le_of_lt h) h1
  have hx' : x ∈ S := h1.mem_iff.1 hx
  obtain ⟨i, hi, rfl⟩ := List.getElem_of_mem hx'
  obtain ⟨j, hj, rfl⟩ := List.getElem_of_mem hy
  rw [List.pairwise_iff_getElem] at hs
  rcases Nat.lt_trichotomy i j with hij | rfl | hij
  · have := hs i j hi hj hij; omega
  · rfl
  · have := hs j i hj hi hij; omega
theorem bestX_snoc (size : Int) (H : List Ext) (x : Ext) : bestX size (H ++ [x]) = if size ≤ x.2 ∧ ((bestX size H).2 = 0 ∨ x.2 < (bestX size H).2) then x else bestX size H := by
  unfold bestX; rw [List.foldl_append]; rfl
theorem snocE {p : List Ext → Prop} (h0 : p []) (h1 : ∀ L x, p L → p (L ++ [x])) (L : List Ext) : p L := by
  rw [← List.reverse_reverse L]
  induction L.reverse with
  | nil => exact h0
  | cons x L ih => rw [List.reverse_cons]; exact h1 _ _ ih
theorem best_inv (size : Int) (h1 : 1 ≤ size) (H : List Ext) : (bestX size H = (0, 0) ∧ ∀ h ∈ H, h.2 < size) ∨ (bestX size H ∈ H ∧ size ≤ (bestX size H).2 ∧ ∀ h ∈ H, size ≤ h.2 → (bestX size H).2 ≤ h.2) := by
  induction H using snocE with
  | h0 => exact .inl ⟨rfl, fun h hh => by cases hh⟩
  | h1 L x ih =>
    rw [bestX_snoc]
    rcases ih with ⟨e, hall⟩ | ⟨hm, hs, hall⟩
    · rw [e]
      by_cases hx : size ≤ x.2
      · rw [if_pos ⟨hx, .inl rfl⟩]
        refine .inr ⟨by simp, hx, fun h hh hsz => ?_⟩
        rcases List.mem_append.1 hh with hh | hh
        · have := hall h hh; omega
        · rw [List.mem_singleton.1 hh]; exact Int.le_refl _
      · rw [if_neg (fun h => hx h.1)]
        refine .inl ⟨rfl, fun h hh => ?_⟩
        rcases List.mem_append.1 hh with hh | hh
        · exact hall h hh
        · rw [List.mem_singleton.1 hh]; omega
    · by_cases hx : size ≤ x.2 ∧ ((bestX size L).2 = 0 ∨ x.2 < (bestX size L).2)
      · rw [if_pos hx]
        refine .inr ⟨by simp, hx.1, fun h hh hsz => ?_⟩
        rcases List.mem_append.1 hh with hh | hh
        · have := hall h hh hsz; omega
        · rw [List.mem_singleton.1 hh]; exact Int.le_refl _
      · rw [if_neg hx]
        refine .inr ⟨List.mem_append_left _ hm, hs, fun h hh hsz => ?_⟩
        rcases List.mem_append.1 hh with hh | hh
        · exact hall h hh hsz
        · rw [List.mem_singleton.1 hh] at hsz ⊢; omega
section
variable {n : Int} {l : List Ext}
theorem holes_runs (n : Int) (l : List Ext) : holesX n l = runsX 0 (sortE l) n := rfl
theorem holes_mem (h : chkX n l = 0) : ∀ x ∈ holesX n l, 0 ≤ x.1 ∧ 1 ≤ x.2 ∧ x.1 + x.2 ≤ n ∧ ∀ e ∈ l, x.1 + x.2 ≤ e.1 ∨ e.1 + e.2 ≤ x.1 := fun x hx => by
  obtain ⟨i1, i2, i3, i4⟩ := runs_mem (tidy_of h) x hx
  exact ⟨i1, i2, i3, fun e he => i4 e ((sortE_perm l).mem_iff.2 he)⟩
theorem holds_sum (h : chkX n l = 0) : sumX l + sumX (holesX n l) = n := by
  have h1 := runs_sum (tidy_of h)
  rw [sumX_perm (sortE_perm l)] at h1
  rw [holes_runs]; omega
theorem holds_bad (h : chkX n l = 0) : ∀ e ∈ l, badX n e = false := fun e he => by
  obtain ⟨_, _, _, _, h5⟩ := chkX_ok h
  obtain ⟨j, hj, rfl⟩ := List.getElem_of_mem he
  exact (h5 j hj).1
theorem holds_chk (h : chkX n l = 0) (hl : (l ++ holesX n l).length ≤ 200) : chkX n (l ++ holesX n l) = 0 := by
  obtain ⟨h0, h1, _, _, _⟩ := chkX_ok h
  have hm := holes_mem h
  refine chkX_of h0 h1 hl (fun e he => ?_) ?_
  · rcases List.mem_append.1 he with he | he
    · exact holds_bad h e he
    · have := hm e he; exact badX_of (by omega)
  · rw [List.pairwise_append]
    refine ⟨chkX_pair h, (runs_pair (tidy_of h)).imp fun hxy => hitX_false.2 (.inr hxy), fun e he x hx => ?_⟩
    have := (hm x hx).2.2.2 e he
    exact hitX_false.2 (by omega)
theorem more_chk (h : chkX n l = 0) {at_ L size : Int} (hm : (at_, L) ∈ holesX n l) (h1 : 1 ≤ size) (h2 : size ≤ L) (hl : l.length + 1 ≤ 200) : chkX n (l ++ [(at_, size)]) = 0 ∧ chkX n ((at_, size) :: l) = 0 := by
  obtain ⟨o0, o1, _, _, _⟩ := chkX_ok h
  obtain ⟨m1, m2, m3, m4⟩ := holes_mem h _ hm
  dsimp only at m1 m2 m3 m4
  have hb : ∀ e ∈ (at_, size) :: l, badX n e = false := fun e he => by
    rcases List.mem_cons.1 he with rfl | he
    · exact badX_of (by dsimp only; omega)
    · exact holds_bad h e he
  have hx : ∀ e ∈ l, hitX (at_, size) e = false := fun e he => hitX_false.2 (by have := m4 e he; dsimp only; omega)
  constructor
  · refine chkX_of o0 o1 (by simp; omega) (fun e he => hb e (by simp at he ⊢; rcases he with h | h; exact .inr h; exact .inl h)) ?_
    rw [List.pairwise_append]
    refine ⟨chkX_pair h, by simp, fun e he x hx' => ?_⟩
    rw [List.mem_singleton.1 hx', hitX_symm]
    exact hx e he
  · refine chkX_of o0 o1 (by simp; omega) hb ?_
    exact List.Pairwise.cons hx (chkX_pair h)
theorem fit_none (h : chkX n l = 0) {size : Int} (hf : fitE n l size ≠ 0) : ∀ x ∈ holesX n l, 1 ≤ size → x.2 < size := fun x hx hs => by
  obtain ⟨o0, o1, _, _, _⟩ := chkX_ok h
  have hm := holes_mem h x hx
  unfold fitE at hf
  rw [if_pos h] at hf
  by_cases h1 : size < 1 ∨ 6400 < size
  · omega
  · rw [if_neg h1] at hf
    rcases best_inv size hs (holesX n l) with ⟨e, hall⟩ | ⟨_, h2, _⟩
    · exact hall x hx
    · rw [if_neg (by omega)] at hf; exact absurd rfl hf
theorem fit_some (h : chkX n l = 0) {size : Int} (hf : fitE n l size = 0) : ∃ L, (fitA n l size, L) ∈ holesX n l ∧ 1 ≤ size ∧ size ≤ L ∧ (∀ x ∈ holesX n l, size ≤ x.2 → L ≤ x.2) ∧ (∀ x ∈ holesX n l, x.1 = fitA n l size → x.2 = L) := by
  have hA : fitA n l size = (bestX size (holesX n l)).1 := by unfold fitA; rw [if_pos hf]
  unfold fitE at hf
  rw [if_pos h] at hf
  by_cases h1 : size < 1 ∨ 6400 < size
  · rw [if_pos h1] at hf; cases hf
  · rw [if_neg h1] at hf
    have hs : 1 ≤ size := by omega
    rcases best_inv size hs (holesX n l) with ⟨e, _⟩ | ⟨hm, h2, h3⟩
    · rw [e] at hf; cases hf
    · refine ⟨(bestX size (holesX n l)).2, by rw [hA]; exact hm, hs, h2, h3, fun x hx hxa => ?_⟩
      rw [hA] at hxa
      have hp := runs_pair (tidy_of h)
      rw [← holes_runs, List.pairwise_iff_getElem] at hp
      obtain ⟨i, hi, rfl⟩ := List.getElem_of_mem hx
      obtain ⟨j, hj, hjb⟩ := List.getElem_of_mem hm
      rw [← hjb] at hxa ⊢
      have pi := holes_mem h _ (List.getElem_mem hi)
      have pj := holes_mem h _ (List.getElem_mem hj)
      rcases Nat.lt_trichotomy i j with hij | rfl | hij
      · have := hp i j hi hj hij; omega
      · rfl
      · have := hp j i hj hi hij; omega
theorem mostX_snoc (H : List Ext) (x : Ext) : mostX (H ++ [x]) = max (mostX H) x.2 := by
  unfold mostX; rw [List.foldl_append]; rfl
theorem mostX_mem (H : List Ext) : 0 ≤ mostX H ∧ (∀ x ∈ H, x.2 ≤ mostX H) ∧ ∀ M, 0 ≤ M → (∀ x ∈ H, x.2 ≤ M) → mostX H ≤ M := by
  induction H using snocE with
  | h0 => exact ⟨Int.le_refl _, fun x hx => (by cases hx), fun M hM _ => hM⟩
  | h1 L x ih =>
    obtain ⟨i0, i1, i2⟩ := ih
    rw [mostX_snoc]
    refine ⟨by omega, fun y hy => ?_, fun M hM hall => ?_⟩
    · rcases List.mem_append.1 hy with hy | hy
      · have := i1 y hy; omega
      · rw [List.mem_singleton.1 hy]; omega
    · have := i2 M hM (fun y hy => hall y (List.mem_append_left _ hy))
      have := hall x (by simp)
      omega
theorem sum_mem {H : List Ext} (hp : ∀ x ∈ H, 0 ≤ x.2) : 0 ≤ sumX H ∧ ∀ x ∈ H, x.2 ≤ sumX H := by
  induction H with
  | nil => exact ⟨Int.le_refl _, fun x hx => by cases hx⟩
  | cons y r ih =>
    obtain ⟨i0, i1⟩ := ih (fun x hx => hp x (List.mem_cons_of_mem _ hx))
    have := hp y (List.mem_cons_self ..)
    rw [sumX_cons]
    refine ⟨by omega, fun x hx => ?_⟩
    rcases List.mem_cons.1 hx with rfl | hx
    · omega
    · have := i1 x hx; omega
/-- what is most is free -/
theorem most_free (h : chkX n l = 0) : mostX (holesX n l) ≤ n - sumX l := by
  have hs := holds_sum h
  have hm := sum_mem (H := holesX n l) (fun x hx => by have := holes_mem h x hx; omega)
  exact (mostX_mem _).2.2 _ (by omega) (fun x hx => by have := hm.2 x hx; omega)
theorem fit_most (h : chkX n l = 0) {size : Int} (hf : fitE n l size ≠ 0) : size < 1 ∨ mostX (holesX n l) < size := by
  by_cases h1 : size < 1
  · exact .inl h1
  · right
    have := (mostX_mem (holesX n l)).2.2 (size - 1) (by omega) (fun x hx => by have := fit_none h hf x hx (by omega); omega)
    omega
theorem more_stat (h : chkX n l = 0) {at_ L size : Int} (hm : (at_, L) ∈ holesX n l) (h1 : 1 ≤ size) (h2 : size ≤ L) :
    mostX (holesX n ((at_, size) :: l)) ≤ mostX (holesX n l) ∧ (holesX n ((at_, size) :: l)).length ≤ (holesX n l).length ∧ sumX ((at_, size) :: l) = size + sumX l := by
  obtain ⟨S', p1, p2, p3, p4⟩ := runs_insert (tidy_of h) hm h1 h2
  have hu : sortE ((at_, size) :: l) = S' := sortE_unique (p1.trans (List.Perm.cons _ (sortE_perm l))) p2
  rw [holes_runs n (_ :: l), hu]
  refine ⟨(mostX_mem _).2.2 _ (mostX_mem _).1 (fun x hx => ?_), p3, sumX_cons _ _⟩
  obtain ⟨x', m1, m2⟩ := p4 x hx
  have := (mostX_mem (holesX n l)).2.1 x' m1
  omega
end
end Go.Proofs.YtijcclpnkfmpnaaGreat
/- The heap: Alloc. -/
namespace Go.Proofs.YtijcclpnkfmpnaaGreat
open Go.RowKit

section
variable {w0 w : World} {F : Nat → Prop} {h : Nat} {l : Bytes}
/-- a heap's image, for a walk that writes into it -/
theorem Hp.rowW (hp : Hp w0 w F h l) : ∃ g cap cur, w.cell? ⟨h, 0, none⟩ = some (.slice (some ⟨g, 0, none⟩) l.length cap) ∧ w.heap[g]? = some (.cells cur 5 (0, 0)) ∧ cur.size = cap ∧ l.length ≤ cap ∧ cap ≤ maxLen ∧ Row w 5 g cap l ∧ F g ∧
    ∀ o (bs : Bytes), o + bs.length ≤ l.length → Hp w0 (w.setRow g (setB cur o (bs.map bv))) F h (splice l o bs) ∧ Keep F w (w.setRow g (setB cur o (bs.map bv))) := by
  obtain ⟨g, cap, h1, h2, h3⟩ := hp.hd
  have h2' := h2
  obtain ⟨cur, e1, e2, e3, e4, e5⟩ := h2'
  have hne : h ≠ g := ne_row h1 h2 (by decide)
  refine ⟨g, cap, cur, by simp [World.cell?, h1], e1, e4, e2, e3, h2, h3, fun o bs hb => ?_⟩
  have hl := splice_len l bs o hb
  have hsz : (w.setRow g (setB cur o (bs.map bv))).heap.size = w.heap.size := by simp [World.setRow]
  have hk : Keep F w (w.setRow g (setB cur o (bs.map bv))) := ⟨rfl, rfl, rfl, Nat.le_of_eq hsz.symm, fun k _ hn => setRow_other w g _ _ (fun e => hn (e ▸ h3))⟩
  refine ⟨⟨⟨g, cap, by rw [hl]; exact (setRow_other w g _ _ hne).trans h1, h2.set_ o bs hb cur e1, h3⟩, hp.fh, by rw [hl]; exact hp.len, hp.new, fun k hk' => by rw [hsz]; exact hp.flt k hk', hkeep_below hp.bel hk hp.new⟩, hk⟩
end
/-- the first handle that is free (0: none), of the last j -/
def fH (l : Bytes) : Nat → Nat
  | 0 => 0
  | j + 1 => if hasE (rawE l (39 - j)) = true then fH l j else 40 - j
theorem fH_le (l : Bytes) : ∀ j, j ≤ 40 → fH l j ≤ 40
  | 0, _ => by simp [fH]
  | j + 1, hj => by
    unfold fH; split
    · exact fH_le l j (by omega)
    · omega
theorem fH_spec (l : Bytes) : ∀ j, j ≤ 40 → (fH l j = 0 ∧ ∀ k, 40 - j ≤ k → k < 40 → hasE (rawE l k) = true) ∨ (∃ k, 40 - j ≤ k ∧ k < 40 ∧ fH l j = k + 1 ∧ hasE (rawE l k) = false ∧ ∀ i, 40 - j ≤ i → i < k → hasE (rawE l i) = true)
  | 0, _ => .inl ⟨rfl, fun k h1 h2 => by omega⟩
  | j + 1, hj => by
    cases hh : hasE (rawE l (39 - j)) with
    | true =>
      have e : fH l (j + 1) = fH l j := by simp [fH, hh]
      rw [e]
      rcases fH_spec l j (by omega) with ⟨h0, hall⟩ | ⟨k, k1, k2, k3, k4, k5⟩
      · refine .inl ⟨h0, fun k h1 h2 => ?_⟩
        by_cases hk : k = 39 - j
        · rw [hk]; exact hh
        · exact hall k (by omega) h2
      · refine .inr ⟨k, by omega, k2, k3, k4, fun i h1 h2 => ?_⟩
        by_cases hi : i = 39 - j
        · rw [hi]; exact hh
        · exact k5 i (by omega) h2
    | false =>
      have e : fH l (j + 1) = 40 - j := by simp [fH, hh]
      exact .inr ⟨39 - j, by omega, by omega, by omega, hh, fun i h1 h2 => by omega⟩
/-- the fault of Alloc; where; the handle; the image behind it -/
def allocE (l : Bytes) (n t : Int) : Nat := if lenB n = false ∨ tagB t = false then 1 else if fH l 40 = 0 ∨ fitE ((l.length : Int) - 288) (takenL l) n ≠ 0 then 4 else 0
def allocA (l : Bytes) (n : Int) : Int := fitA ((l.length : Int) - 288) (takenL l) n + 288
def allocH (l : Bytes) (n t : Int) : Int := if allocE l n t = 0 then fH l 40 else 0
def allocL (l : Bytes) (n t : Int) : Bytes := if allocE l n t = 0 then splice (putEnt l (fH l 40) (allocA l n) n t) (allocA l n).toNat (List.replicate n.toNat 0) else l
theorem alloc_in {l : Bytes} {n : Int} (h : fitE ((l.length : Int) - 288) (takenL l) n = 0) : 288 ≤ allocA l n ∧ allocA l n + n ≤ l.length := by
  have hc : chkX ((l.length : Int) - 288) (takenL l) = 0 := by
    unfold fitE at h
    by_cases hc : chkX ((l.length : Int) - 288) (takenL l) = 0
    · exact hc
    · rw [if_neg hc] at h; exact absurd h hc
  obtain ⟨L, m1, m2, m3, _, _⟩ := fit_some hc h
  have := holes_mem hc _ m1
  unfold allocA
  dsimp only at this
  omega
section
variable {w0 w : World} {F : Nat → Prop} {h : Nat} {l : Bytes}
theorem halloc_e1 (n t : Int) (_hp : Hp w0 w F h l) (hbad : lenB n = false ∨ tagB t = false) :
    Calls Tryz.prog 12 #[.pointer (some ⟨h, 0, none⟩), .int .i64 n, .int .i64 t] w fun e w' => e = .returned (.tuple #[.int .i64 0, .iface 76 (.int .i64 1)]) ∧ w = w' := by
  cases h1 : lenB n with
  | false =>
    clear hbad
    go_enter Tryz.func12, Tryz.ntmps12
    go_wp2_with fail
    refine (len_any _ _).mono ?_
    rintro e w' ⟨rfl, rfl⟩
    rw [h1]
    go_wp2_with fail
    go_ret2
    exact ⟨rfl, rfl⟩
  | true =>
    have h2 : tagB t = false := by simpa [h1] using hbad
    clear hbad
    go_enter Tryz.func12, Tryz.ntmps12
    go_wp2_with fail
    refine (len_any _ _).mono ?_
    rintro e w' ⟨rfl, rfl⟩
    rw [h1]
    go_wp2_with fail
    refine (tag_any _ _).mono ?_
    rintro e w' ⟨rfl, rfl⟩
    rw [h2]
    go_wp2_with fail
    go_ret2
    exact ⟨rfl, rfl⟩
set_option maxRecDepth 100000 in
theorem halloc_go (n t : Int) (hp : Hp w0 w F h l) (h1 : lenB n = true) (h2 : tagB t = true) :
    Calls Tryz.prog 12 #[.pointer (some ⟨h, 0, none⟩), .int .i64 n, .int .i64 t] w fun e w' => e = .returned (.tuple #[.int .i64 (allocH l n t), errV (allocE l n t)]) ∧ ∃ F', HpM w0 w w' F F' h (allocL l n t) := by
  have hb := rightB_true.1 hp.len
  have hnb := lenB_true.1 h1
  have HP := Hidden.mk hp
  have HG : Hidden (∀ (j : Nat), j < 40 → ∀ W, Hp w0 W F h l → ∃ g cap, W.cell? ⟨h, 0, none⟩ = some (.slice (some ⟨g, 0, none⟩) l.length cap) ∧ Calls Tryz.prog 42 #[.slice (some ⟨g, 0, none⟩) l.length cap, .int .i64 ((39 - j : Nat) + 1 : Int)] W fun e w' => ∃ a b c d : Int, e = .returned (.tuple #[.agg #[.int .i64 a, .int .i64 b, .int .i64 c, .int .i64 d], errV (if hasE (rawE l (39 - j)) = true then 0 else 5)]) ∧ Below W.heap.size W w') := ⟨fun j hj W hW => by
    obtain ⟨g, cap, c0, hcap, hrow, _⟩ := hW.open_
    refine ⟨g, cap, c0, (iget_ans (some ⟨g, 0, none⟩) l.length cap l _ W rfl hW.len hcap hrow.rd).mono ?_⟩
    rintro e w' ⟨rfl, hb'⟩
    have e : hE l ((39 - j : Nat) + 1 : Int) = if hasE (rawE l (39 - j)) = true then 0 else 5 := by
      cases hh : hasE (rawE l (39 - j)) with
      | true => rw [(hE_has (by omega) hh).1]; rfl
      | false => rw [hE_hasnt (by omega) hh]; rfl
    rw [e]
    exact ⟨_, _, _, _, rfl, hb'⟩⟩
  have HE : Hidden (allocE l n t = if fH l 40 = 0 ∨ fitE ((l.length : Int) - 288) (takenL l) n ≠ 0 then 4 else 0) := ⟨by unfold allocE; rw [if_neg (by simp [h1, h2])]⟩
  have HH : Hidden (allocH l n t = if allocE l n t = 0 then (fH l 40 : Int) else 0) := ⟨rfl⟩
  have HL : Hidden (allocL l n t = if allocE l n t = 0 then splice (putEnt l (fH l 40) (allocA l n) n t) (allocA l n).toNat (List.replicate n.toNat 0) else l) := ⟨rfl⟩
  clear hp
  go_enter Tryz.func12, Tryz.ntmps12
  go_wp2_with fail
  refine (len_any _ _).mono ?_
  rintro e w' ⟨rfl, rfl⟩
  rw [h1]
  go_wp2_with fail
  refine (tag_any _ _).mono ?_
  rintro e w' ⟨rfl, rfl⟩
  rw [h2]
  go_wp2_with fail
  go_loopg [8, 9] 40 (fun q v i wr => ∃ j : Nat, j ≤ 40 ∧ q = 40 - j ∧ i = .int .i64 (40 - (j : Int)) ∧ v = .int .i64 (fH l j : Int) ∧ Hidden (Below w.heap.size w wr))
  case atStart => exact ⟨0, by omega, rfl, rfl, rfl, ⟨Below.refl _ _⟩⟩
  case round =>
    obtain ⟨j, hj, rfl, rfl, rfl, hst⟩ := hrel
    by_cases hlt : j < 40
    · obtain ⟨g, cap, y0, hget⟩ := HG.out j hlt wr (HP.out.below hst.out)
      have e1 : ((39 - j : Nat) + 1 : Int) = 40 - (j : Int) := by omega
      rw [e1] at hget
      have HGT := Hidden.mk hget
      have HS : Hidden (fH l (j + 1) = if hasE (rawE l (39 - j)) = true then fH l j else 40 - j) := ⟨rfl⟩
      have t0 : decide (1 ≤ 40 - (j : Int)) = true := by simp; omega
      have s1 : IntKind.i64.wrap (40 - (j : Int) - 1) = 40 - ((j + 1 : Nat) : Int) := by rw [IntWalk.i64_in _ (by omega)]; omega
      generalize fH l j = fj at *
      clear hget e1
      go_wp2_with fail
      refine HGT.out.mono ?_
      rintro e w1 ⟨a, b, c, d, rfl, hb1⟩
      have hB1 := hst.out.trans (hb1.mono hst.out.size)
      have HB := Hidden.mk (hB1.alloc hB1.size (.cells #[.int .i64 a, .int .i64 b, .int .i64 c, .int .i64 d] 85))
      clear hb1 hB1 hst HGT
      cases hh : hasE (rawE l (39 - j)) with
      | true =>
        rw [if_pos rfl]
        have HS2 : Hidden (fH l (j + 1) = fj) := ⟨by rw [HS.out, if_pos hh]⟩
        rw [show errV 0 = Value.nilIface from rfl]
        clear hh HS
        go_wp2_with fail
        go_roundg (40 - (j + 1))
        case measure => omega
        case rel => exact ⟨j + 1, by omega, rfl, rfl, by rw [HS2.out], HB⟩
      | false =>
        rw [if_neg (by decide)]
        have HS2 : Hidden (fH l (j + 1) = 40 - j) := ⟨by rw [HS.out, if_neg (by rw [hh]; decide)]⟩
        rw [show errV 5 = .iface 76 (.int .i64 5) from rfl]
        clear hh HS
        go_wp2_with fail
        go_roundg (40 - (j + 1))
        case measure => omega
        case rel => exact ⟨j + 1, by omega, rfl, rfl, by rw [HS2.out]; congr 1; omega, HB⟩
    · obtain rfl : j = 40 := by omega
      have HP2 := Hidden.mk (HP.out.below hst.out)
      have HT := Hidden.mk (htaken_any HP2.out)
      have t0 : decide (1 ≤ 40 - ((40 : Nat) : Int)) = false := by decide
      have hfl := fH_le l 40 (Nat.le_refl _)
      have HW1 := Hidden.mk hst.out
      clear hst HG
      go_wp2_with fail
      refine HT.out.mono ?_
      rintro e w1 ⟨A, m, c, rfl, hm, hmc, hrx, hb1⟩
      have HW2 := Hidden.mk (HW1.out.trans (hb1.mono HW1.out.size))
      have HF := Hidden.mk (xfit_any ((l.length : Int) - 288) A m c (takenL l) n w1 hm hmc hrx)
      clear hb1 hrx HT HW1 HP2 t0
      have HIN : Hidden (fitE ((l.length : Int) - 288) (takenL l) n = 0 → 288 ≤ allocA l n ∧ allocA l n + n ≤ l.length) := ⟨alloc_in⟩
      have HAD : Hidden (allocA l n = fitA ((l.length : Int) - 288) (takenL l) n + 288) := ⟨rfl⟩
      generalize fitE ((l.length : Int) - 288) (takenL l) n = fe at *
      generalize fitA ((l.length : Int) - 288) (takenL l) n = fa at *
      generalize allocA l n = aa at *
      generalize fH l 40 = fh at *
      go_wp2_with fail
      refine HF.out.mono ?_
      rintro e w2 ⟨rfl, hb2⟩
      have HW3 := Hidden.mk (HW2.out.trans (hb2.mono HW2.out.size))
      clear hb2 HF HW2
      by_cases hz : fh = 0
      · have hae : allocE l n t = 4 := by rw [HE.out, if_pos (.inl hz)]
        have HAH : Hidden (allocE l n t = 4 ∧ allocH l n t = 0 ∧ allocL l n t = l) := ⟨hae, by rw [HH.out, hae]; rfl, by rw [HL.out, hae]; rfl⟩
        clear hae
        subst hz
        have HFIN := Hidden.mk (HP.out.same HW3.out)
        generalize errV fe = ev at *
        clear HE HH HL
        go_wp2_with fail
        go_ret2
        exact ⟨by rw [HAH.out.1, HAH.out.2.1]; rfl, _, by rw [HAH.out.2.2]; exact HFIN.out⟩
      · by_cases hfe : fe = 0
        · have hae : allocE l n t = 0 := by rw [HE.out, if_neg (by omega)]
          have hah : allocH l n t = fh := by rw [HH.out, hae]; rfl
          have hin := HIN.out hfe
          rw [hfe, show errV 0 = Value.nilIface from rfl]
          have t1 : (fh == 0) = false := by simpa using hz
          have t2 : ((fh : Int) == 0) = false := by simpa using hz
          have s1 : IntKind.i64.wrap (fa + 288) = aa := by rw [HAD.out, IntWalk.i64_in _ (by have := HAD.out; omega)]
          have HLL : Hidden (allocL l n t = splice (putEnt l fh aa n t) aa.toNat (List.replicate n.toNat 0)) := ⟨by rw [HL.out, hae]; rfl⟩
          have HAH := Hidden.mk (And.intro hae hah)
          clear hae hah
          obtain ⟨a, rfl⟩ := Int.eq_ofNat_of_zero_le (show 0 ≤ aa by omega)
          obtain ⟨nn, rfl⟩ := Int.eq_ofNat_of_zero_le (show 0 ≤ n by omega)
          have hal : allocL l nn t = splice (putEnt l fh a nn t) a (List.replicate nn 0) := HLL.out
          have hwb : withinB l.length (a : Int) (nn : Int) = true := withinB_true.2 (by omega)
          have hal1 : Below w2.heap.size w2 (w2.alloc (.cells #[.int .i64 fh, .int .i64 a, .int .i64 nn, .int .i64 t] 85)) := (Below.refl _ _).alloc (Nat.le_refl _) _
          have hp3 := HP.out.below (HW3.out.trans (hal1.mono HW3.out.size))
          have HPUT := Hidden.mk (fun (W : World) (hW : Hp w0 W F h l) => hput_ok (fh : Int) (a : Int) (nn : Int) t hW (handleB_true.2 (by omega)) h2 h1 hwb)
          have hpl : (putEnt l fh a nn t).length = l.length := putEnt_len l fh a nn t (by omega) (by omega) (by omega)
          have HPL := Hidden.mk hpl
          have HALL := Hidden.mk hal
          have hf := fourAt_one w2 fh a nn t 85
          have HW4 := Hidden.mk (HW3.out.trans (hal1.mono HW3.out.size))
          have HP4 := Hidden.mk hp3
          generalize putEnt l fh a nn t = l1 at *
          clear hal hal1 hp3 hwb hpl HE HH HL HIN HAD hfe hz HLL
          go_wp2_with fail
          generalize w2.alloc (.cells #[.int .i64 fh, .int .i64 a, .int .i64 nn, .int .i64 t] 85) = w3 at *
          refine (HPUT.out _ HP4.out).mono ?_
          rintro e w4 ⟨rfl, F4, hm4⟩
          obtain ⟨f0, f1, f2, f3⟩ := hf
          have hfl4 : w2.heap.size < w3.heap.size := block_lt_of_cell f0
          have hno : ¬ F w2.heap.size := fun hk => by have := HP.out.flt _ hk; have := HW3.out.size; omega
          have hk4 := hm4.kp.block _ hfl4 hno
          have g0 := (World.cell?_of_block (w := w3) (a := ⟨w2.heap.size, 0, none⟩) hk4).trans f0
          have g1 := (World.cell?_of_block (w := w3) (a := ⟨w2.heap.size, 1, none⟩) hk4).trans f1
          have g2 := (World.cell?_of_block (w := w3) (a := ⟨w2.heap.size, 2, none⟩) hk4).trans f2
          have g3 := (World.cell?_of_block (w := w3) (a := ⟨w2.heap.size, 3, none⟩) hk4).trans f3
          obtain ⟨gi, ci, cur4, y0, -, -, hci, -, -, -, -⟩ := hm4.hp.rowW
          rw [HPL.out] at y0 hci
          have HOF := Hidden.mk (hof_any (h := h) gi ci a nn fh t w4 ⟨_, y0⟩ (by omega) (by omega) (by omega))
          have HM := Hidden.mk (((HP.out.same HW4.out).trans hm4))
          have HY0 := Hidden.mk y0
          clear f0 f1 f2 f3 hfl4 hno hk4 hm4 HPUT
          go_wp2_with fail
          refine HOF.out.mono ?_
          rintro e w5 ⟨rfl, hb5⟩
          have hm5 := HM.out.trans (HM.out.hp.same hb5)
          obtain ⟨g5, c5, cur5, z0, z1, z2, z3, -, -, -, z4⟩ := hm5.hp.rowW
          have hyz := ((hb5.cell (p := ⟨h, 0, none⟩) (block_lt_of_cell HY0.out)).trans HY0.out).symm.trans z0
          have hyz := Option.some.inj hyz
          injection hyz with q1 q2 q3
          injection q1 with q1
          injection q1 with q1
          subst q1 q3
          rw [HPL.out] at z3
          have hclear := fun ty => run_clear_row w5 gi a nn (ci - a) cur5 _ z1 (by omega) (by omega) ty
          have hz4 := z4 a (List.replicate nn 0) (by rw [HPL.out]; simp; omega)
          have HFIN := Hidden.mk (hm5.trans (HpM.mk hz4.1 hz4.2 (fun k hk => .inl hk)))
          clear z0 z2 z3 z4 hz4 hm5 hb5 HOF HM HY0 y0 q2
          go_wp2_with fail
          go_ret2
          exact ⟨by rw [HAH.out.1, HAH.out.2]; rfl, _, by rw [HALL.out]; have hF := HFIN.out; rw [List.map_replicate] at hF; exact hF⟩
        · have hae : allocE l n t = 4 := by rw [HE.out, if_pos (.inr hfe)]
          have HAH : Hidden (allocE l n t = 4 ∧ allocH l n t = 0 ∧ allocL l n t = l) := ⟨hae, by rw [HH.out, hae]; rfl, by rw [HL.out, hae]; rfl⟩
          clear hae
          have hev : errV fe = .iface 76 (.int .i64 fe) := by unfold errV; rw [if_neg hfe]
          rw [hev]
          have t1 : (fh == 0) = false := by simpa using hz
          have t2 : ((fh : Int) == 0) = false := by simpa using hz
          have HFIN := Hidden.mk (HP.out.same HW3.out)
          clear HE HH HL hfe hz hev
          go_wp2_with fail
          go_ret2
          exact ⟨by rw [HAH.out.1, HAH.out.2.1]; rfl, _, by rw [HAH.out.2.2]; exact HFIN.out⟩
theorem halloc_any (n t : Int) (hp : Hp w0 w F h l) :
    Calls Tryz.prog 12 #[.pointer (some ⟨h, 0, none⟩), .int .i64 n, .int .i64 t] w fun e w' => e = .returned (.tuple #[.int .i64 (allocH l n t), errV (allocE l n t)]) ∧ ∃ F', HpM w0 w w' F F' h (allocL l n t) := by
  by_cases hbad : lenB n = false ∨ tagB t = false
  · have h1 : allocE l n t = 1 := by unfold allocE; rw [if_pos hbad]
    have h2 : allocH l n t = 0 := by unfold allocH; rw [h1]; rfl
    have h3 : allocL l n t = l := by unfold allocL; rw [h1]; rfl
    rw [h1, h2, h3]
    refine (halloc_e1 n t hp hbad).mono ?_
    rintro e w' ⟨rfl, rfl⟩
    exact ⟨rfl, F, hp.same (Below.refl _ _)⟩
  · exact halloc_go n t hp (by cases hx : lenB n <;> simp_all) (by cases hx : tagB t <;> simp_all)
end
end Go.Proofs.YtijcclpnkfmpnaaGreat
/- Laid: library functions whose contracts are proved over whatever program: the table of numbers, and a field a function or a type. -/
namespace Go.Proofs.YtijcclpnkfmpnaaGreat
open Go.Shelf
def sortedI_ren : Go.Shelf.Ren := ⟨fun | 6 => 58 | 8 => 95 | 9 => 96 | 11 => 136 | 13 => 134 | 12 => 137 | 23 => 157 | 24 => 158 | 14 => 159 | 15 => 160 | 16 => 161 | 17 => 162 | 18 => 163 | 19 => 164 | 20 => 165 | 21 => 166 | 22 => 167 | 25 => 190 | 26 => 186 | 27 => 187 | 28 => 191 | 29 => 192 | 30 => 135 | 31 => 202 | n => n, fun | 26 => 3 | 28 => 112 | 24 => 24 | 0 => 0 | 3 => 3 | 37 => 189 | 48 => 212 | 50 => 214 | 4 => 4 | 40 => 206 | 39 => 205 | 45 => 194 | 5 => 5 | 9 => 9 | 51 => 233 | 55 => 237 | 57 => 246 | 58 => 105 | 33 => 68 | n => n, fun | n => n⟩
theorem sortedI : Go.Proofs.SlLaysZI.n6 Tryz.prog sortedI_ren := {
  mixed := by kernel_rfl
  f6 := ⟨Tryz.f58.name, by decide, Tryz.func58.trans (congrArg some (by kernel_rfl))⟩
  f8 := ⟨Tryz.f95.name, by decide, Tryz.func95.trans (congrArg some (by kernel_rfl))⟩
  f11 := ⟨Tryz.f136.name, by decide, Tryz.func136.trans (congrArg some (by kernel_rfl))⟩
  t0 := Tryz.underlying0
  a0 := Tryz.isAgg0
  z0 := Tryz.sizeOf0
  v0 := Tryz.zeroValue0
  t24 := Tryz.underlying24
  a24 := Tryz.isAgg24
  z24 := Tryz.sizeOf24
  v24 := Tryz.zeroValue24
  t26 := Tryz.underlying3
  a26 := Tryz.isAgg3
  z26 := Tryz.sizeOf3
  v26 := Tryz.zeroValue3
  t28 := Tryz.underlying112
  a28 := Tryz.isAgg112
  z28 := Tryz.sizeOf112
  v28 := Tryz.zeroValue112
  i26 := by kernel_rfl }
def sortI_ren : Go.Shelf.Ren := ⟨fun | 5 => 96 | 8 => 134 | 7 => 137 | 19 => 157 | 20 => 158 | 10 => 159 | 11 => 160 | 12 => 161 | 13 => 162 | 14 => 163 | 15 => 164 | 16 => 165 | 17 => 166 | 18 => 167 | 30 => 190 | 31 => 186 | 32 => 187 | 33 => 191 | 34 => 192 | 35 => 135 | 40 => 202 | n => n, fun | 23 => 24 | 25 => 3 | 3 => 3 | 32 => 189 | 22 => 24 | 0 => 0 | 44 => 212 | 46 => 214 | 4 => 4 | 36 => 206 | 35 => 205 | 41 => 194 | 5 => 5 | 9 => 9 | 53 => 233 | 57 => 237 | 63 => 246 | 64 => 105 | n => n, fun | n => n⟩
theorem sortI : Go.Proofs.SlLaysM.n5 Tryz.prog sortI_ren := {
  mixed := by kernel_rfl
  f5 := ⟨Tryz.f96.name, by decide, Tryz.func96.trans (congrArg some (by kernel_rfl))⟩
  f7 := ⟨Tryz.f137.name, by decide, Tryz.func137.trans (congrArg some (by kernel_rfl))⟩
  f8 := Tryz.func134.trans (congrArg some (by kernel_rfl))
  f10 := ⟨Tryz.f159.name, by decide, Tryz.func159.trans (congrArg some (by kernel_rfl))⟩
  f11 := ⟨Tryz.f160.name, by decide, Tryz.func160.trans (congrArg some (by kernel_rfl))⟩
  f12 := ⟨Tryz.f161.name, by decide, Tryz.func161.trans (congrArg some (by kernel_rfl))⟩
  f13 := ⟨Tryz.f162.name, by decide, Tryz.func162.trans (congrArg some (by kernel_rfl))⟩
  f14 := ⟨Tryz.f163.name, by decide, Tryz.func163.trans (congrArg some (by kernel_rfl))⟩
  f15 := ⟨Tryz.f164.name, by decide, Tryz.func164.trans (congrArg some (by kernel_rfl))⟩
  f16 := ⟨Tryz.f165.name, by decide, Tryz.func165.trans (congrArg some (by kernel_rfl))⟩
  f17 := ⟨Tryz.f166.name, by decide, Tryz.func166.trans (congrArg some (by kernel_rfl))⟩
  f18 := ⟨Tryz.f167.name, by decide, Tryz.func167.trans (congrArg some (by kernel_rfl))⟩
  f19 := Tryz.func157.trans (congrArg some (by kernel_rfl))
  f20 := Tryz.func158.trans (congrArg some (by kernel_rfl))
  f30 := ⟨Tryz.f190.name, by decide, Tryz.func190.trans (congrArg some (by kernel_rfl))⟩
  f31 := Tryz.func186.trans (congrArg some (by kernel_rfl))
  f32 := Tryz.func187.trans (congrArg some (by kernel_rfl))
  f33 := ⟨Tryz.f191.name, by decide, Tryz.func191.trans (congrArg some (by kernel_rfl))⟩
  f34 := ⟨Tryz.f192.name, by decide, Tryz.func192.trans (congrArg some (by kernel_rfl))⟩
  f35 := ⟨Tryz.f135.name, by decide, Tryz.func135.trans (congrArg some (by kernel_rfl))⟩
  f40 := ⟨Tryz.f202.name, by decide, Tryz.func202.trans (congrArg some (by kernel_rfl))⟩
  t0 := Tryz.underlying0
  a0 := Tryz.isAgg0
  z0 := Tryz.sizeOf0
  v0 := Tryz.zeroValue0
  t3 := Tryz.underlying3
  a3 := Tryz.isAgg3
  z3 := Tryz.sizeOf3
  v3 := Tryz.zeroValue3
  t4 := Tryz.underlying4
  a4 := Tryz.isAgg4
  z4 := Tryz.sizeOf4
  v4 := Tryz.zeroValue4
  t5 := Tryz.underlying5
  a5 := Tryz.isAgg5
  z5 := Tryz.sizeOf5
  v5 := Tryz.zeroValue5
  t9 := Tryz.underlying9
  a9 := Tryz.isAgg9
  z9 := Tryz.sizeOf9
  v9 := Tryz.zeroValue9
  t22 := Tryz.underlying24
  a22 := Tryz.isAgg24
  z22 := Tryz.sizeOf24
  v22 := Tryz.zeroValue24
  t23 := Tryz.underlying24
  a23 := Tryz.isAgg24
  z23 := Tryz.sizeOf24
  v23 := Tryz.zeroValue24
  t25 := Tryz.underlying3
  a25 := Tryz.isAgg3
  z25 := Tryz.sizeOf3
  v25 := Tryz.zeroValue3
  t32 := Tryz.underlying189
  a32 := Tryz.isAgg189
  z32 := Tryz.sizeOf189
  v32 := Tryz.zeroValue189
  t35 := Tryz.underlying205
  a35 := Tryz.isAgg205
  z35 := Tryz.sizeOf205
  v35 := Tryz.zeroValue205
  t36 := Tryz.underlying206
  a36 := Tryz.isAgg206
  z36 := Tryz.sizeOf206
  v36 := Tryz.zeroValue206
  t41 := Tryz.underlying194
  a41 := Tryz.isAgg194
  z41 := Tryz.sizeOf194
  v41 := Tryz.zeroValue194
  t44 := Tryz.underlying212
  a44 := Tryz.isAgg212
  z44 := Tryz.sizeOf212
  v44 := Tryz.zeroValue212
  t46 := Tryz.underlying214
  a46 := Tryz.isAgg214
  z46 := Tryz.sizeOf214
  v46 := Tryz.zeroValue214
  t53 := Tryz.underlying233
  a53 := Tryz.isAgg233
  z53 := Tryz.sizeOf233
  v53 := Tryz.zeroValue233
  t57 := Tryz.underlying237
  a57 := Tryz.isAgg237
  z57 := Tryz.sizeOf237
  v57 := Tryz.zeroValue237
  t63 := Tryz.underlying246
  a63 := Tryz.isAgg246
  z63 := Tryz.sizeOf246
  v63 := Tryz.zeroValue246
  t64 := Tryz.underlying105
  a64 := Tryz.isAgg105
  z64 := Tryz.sizeOf105
  v64 := Tryz.zeroValue105 }
end Go.Proofs.YtijcclpnkfmpnaaGreat
/- Maps told by a function from keys to values: lookup, store, len, clear as equations; over whatever program. -/
namespace Go.Proofs.YtijcclpnkfmpnaaGreat
open Go.RowKit Go.Maps Go.ChangeMaps

/-- any value, as it stands -/
def heldR (v : Value) : Option (DataW Value × List MemPlace) := some (.held v, [])
section
variable {P : Program} {T K E : TypeId} {κ : Type} {kl : κ → Lit} {w w' : World} {b cnt : Nat} {f : κ → Option Value}
/-- what a datum has at each key -/
def Has (kl : κ → Lit) (D : DataW Value) (f : κ → Option Value) : Prop := (∀ k, (f k = none → Maps.has D (kl k) = false) ∧ ∀ v, f k = some v → Maps.has D (kl k) = true ∧ ∀ z, D.atKey (kl k) z = .held v) ∧ ∀ l, Maps.has D l = true → ∃ k, l = kl k ∧ (f k).isSome = true
/-- block b is a map of cnt entries: at each key what f says -/
def IM (P : Program) (K : TypeId) (kl : κ → Lit) (w : World) (b : Nat) (f : κ → Option Value) (cnt : Nat) : Prop :=
  ∃ D : DataW Value, w.ownsMap P K heldR b cnt D ∧ Maps.size D = cnt ∧ Has kl D f
theorem ownsMap_tight {D : DataW Value} {n : Nat} (h : w.ownsMap P K heldR b n D) : w.ownsMap P K heldR b (Maps.size D) D := by
  obtain ⟨es, clock, hb, F, _, rfl⟩ := h
  refine ⟨es, clock, hb, F, ?_, rfl⟩
  simp [Maps.size, length_sorted]
theorem IM.made (w : World) : IM P K kl (w.alloc (.map #[] 0)) w.heap.size (fun _ => none) 0 :=
  ⟨_, World.ownsMap_made w P K heldR, rfl, fun k => ⟨fun _ => rfl, fun v h => by cases h⟩, fun l h => by cases h⟩
theorem IM.block (h : IM P K kl w b f cnt) (hb : w'.heap[b]? = w.heap[b]?) : IM P K kl w' b f cnt := by
  obtain ⟨D, ⟨es, clock, h1, h2⟩, h3⟩ := h
  exact ⟨D, ⟨es, clock, hb.trans h1, h2⟩, h3⟩
theorem IM.lt (h : IM P K kl w b f cnt) : b < w.heap.size := by
  obtain ⟨D, h, _⟩ := h
  exact h.lt
theorem IM.isMap (h : IM P K kl w b f cnt) : ∃ es clock, w.heap[b]? = some (.map es clock) := by
  obtain ⟨D, ⟨es, clock, hb, _⟩, _⟩ := h
  exact ⟨es, clock, hb⟩
theorem IM.look_some (h : IM P K kl w b f cnt) (KL : Keyed P K) (ht : P.underlying T = some (.map K E)) {z : Value} (hz : (zeroValue E).run P w = .ok z w) {key : Value} {k : κ} (hkey : keyOf P K key = some (kl k)) {v : Value} (hf : f k = some v) :
    (Instr.lookup T (.map (some b)) key true).run P w = .ok (.tuple #[v, .bool true]) w ∧ (Instr.lookup T (.map (some b)) key false).run P w = .ok v w := by
  obtain ⟨D, h, _, hh⟩ := h
  obtain ⟨h1, h2⟩ := (hh.1 k).2 v hf
  constructor
  · obtain ⟨v', ps, hrun, hv⟩ := h.look_ok KL ht hz (zd := .held z) (zp := []) rfl hkey
    rw [h2, heldR] at hv
    simp only [Option.some.injEq, Prod.mk.injEq, DataW.held.injEq] at hv
    rw [h1, hv.1] at hrun
    exact hrun
  · obtain ⟨v', ps, hrun, hv⟩ := h.lookup KL ht hz (zd := .held z) (zp := []) rfl hkey
    rw [h2, heldR] at hv
    simp only [Option.some.injEq, Prod.mk.injEq, DataW.held.injEq] at hv
    rw [hv.1] at hrun
    exact hrun
theorem IM.look_none (h : IM P K kl w b f cnt) (KL : Keyed P K) (ht : P.underlying T = some (.map K E)) {z : Value} (hz : (zeroValue E).run P w = .ok z w) {key : Value} {k : κ} (hkey : keyOf P K key = some (kl k)) (hf : f k = none) :
    (Instr.lookup T (.map (some b)) key true).run P w = .ok (.tuple #[z, .bool false]) w ∧ (Instr.lookup T (.map (some b)) key false).run P w = .ok z w := by
  obtain ⟨D, h, _, hh⟩ := h
  have h1 := (hh.1 k).1 hf
  constructor
  · obtain ⟨v', ps, hrun, hv⟩ := h.look_ok KL ht hz (zd := .held z) (zp := []) rfl hkey
    rw [atKey_of_not_has h1, heldR] at hv
    simp only [Option.some.injEq, Prod.mk.injEq, DataW.held.injEq] at hv
    rw [h1, hv.1] at hrun
    exact hrun
  · obtain ⟨v', ps, hrun, hv⟩ := h.lookup KL ht hz (zd := .held z) (zp := []) rfl hkey
    rw [atKey_of_not_has h1, heldR] at hv
    simp only [Option.some.injEq, Prod.mk.injEq, DataW.held.injEq] at hv
    rw [hv.1] at hrun
    exact hrun
/-- f with another value at one key -/
def upd [DecidableEq κ] (f : κ → Option Value) (k : κ) (v : Value) : κ → Option Value := fun x => if x = k then some v else f x
theorem IM.store [DecidableEq κ] (h : IM P K kl w b f cnt) (KL : Keyed P K) (hinj : ∀ x y, kl x = kl y → x = y) (ht : P.underlying T = some (.map K E)) (hn : cnt < maxLen) {key : Value} {k : κ} (hkey : keyOf P K key = some (kl k)) (v : Value) :
    ∃ w', (Instr.mapUpdate T (.map (some b)) key v).run P w = .ok () w' ∧ IM P K kl w' b (upd f k v) (if (f k).isSome then cnt else cnt + 1) ∧ w.grownBy w' (some b) ∧ w'.heap.size = w.heap.size := by
  obtain ⟨D, h, hs, hh⟩ := h
  obtain ⟨w', hrun, h', ht'⟩ := h.store KL ht hn (d := .held v) (ps := []) hkey rfl
  obtain ⟨w2, hrun2, _, hg⟩ := h.update KL ht hn (d := .held v) (ps := []) hkey rfl
  have e : w' = w2 := by
    rw [hrun] at hrun2
    injection hrun2
  subst e
  have hik : WideAt.IsKeyLit (kl k) := KL.key hkey
  have hsz : Maps.size (D.put (kl k) (.held v)) = if (f k).isSome then cnt else cnt + 1 := by
    rw [size_put (h.tidy KL), hs]
    cases hf : f k with
    | none => rw [(hh.1 k).1 hf]; simp
    | some u => rw [((hh.1 k).2 u hf).1]; simp
  refine ⟨w', hrun, ⟨_, ?_, hsz, fun x => ?_, fun l hl => ?_⟩, hg, ?_⟩
  · rw [← hsz]; exact ownsMap_tight h'
  · unfold upd
    by_cases hx : x = k
    · subst hx
      rw [if_pos rfl]
      refine ⟨(fun h => by cases h), fun u hu => ?_⟩
      obtain rfl := Option.some.inj hu
      exact ⟨has_put_same h.isMap hik _, fun z => atKey_put_same h.isMap hik _ z⟩
    · rw [if_neg hx]
      have hne : kl x ≠ kl k := fun e => hx (hinj _ _ e)
      refine ⟨fun h0 => by rw [has_put_other hne]; exact (hh.1 x).1 h0, fun u hu => ?_⟩
      rw [has_put_other hne]
      exact ⟨((hh.1 x).2 u hu).1, fun z => by rw [atKey_put_other hne]; exact ((hh.1 x).2 u hu).2 z⟩
  · by_cases hx : l = kl k
    · exact ⟨k, hx, by unfold upd; rw [if_pos rfl]; rfl⟩
    · rw [has_put_other hx] at hl
      obtain ⟨x, hx', hfx⟩ := hh.2 l hl
      refine ⟨x, hx', ?_⟩
      unfold upd
      split
      · rfl
      · exact hfx
  · obtain ⟨es, clock, es', clock', _, hw⟩ := ht'
    rw [hw]; simp [setBlock]
theorem IM.len_ (h : IM P K kl w b f cnt) (ht : P.underlying T = some (.map K E)) (ty : TypeId) : (Builtin.len_ #[T] ty #[.map (some b)]).run P w = .ok (.int .i64 cnt) w := by
  obtain ⟨D, h, hs, _⟩ := h
  rw [← hs]
  exact h.len ht ty
theorem IM.clear_ (h : IM P K kl w b f cnt) (ht : P.underlying T = some (.map K E)) (ty : TypeId) :
    ∃ w', (Builtin.clear_ #[T] ty #[.map (some b)]).run P w = .ok (.tuple #[]) w' ∧ IM P K kl w' b (fun _ => none) 0 ∧ w.grownBy w' (some b) ∧ w'.heap.size = w.heap.size := by
  obtain ⟨D, ⟨es, clock, hb, F, _⟩, _⟩ := h
  refine ⟨setBlock w b (.map #[] clock), ?_, ⟨.map [], ⟨#[], clock, heap_setBlock_same hb _, ⟨by simp, ?_, by simp⟩, Nat.le_refl _, rfl⟩, rfl, fun k => ⟨fun _ => rfl, fun v h => by cases h⟩, fun l h => by cases h⟩,
    ⟨rfl, rfl, rfl, by simp [setBlock], fun i _ hi => heap_setBlock_other hb _ (fun e => hi (by rw [e]))⟩, by simp [setBlock]⟩
  · simp [Builtin.clear_, run_underlying ht, MapKept.run_getObj_map hb, MapKept.run_setObj_map _ hb, Result.andThen, setBlock]
  · exact MapKept.stamped_empty _
end
end Go.Proofs.YtijcclpnkfmpnaaGreat
/- A device in memory: what lies where. -/
namespace Go.Proofs.YtijcclpnkfmpnaaGreat
open Go.RowKit

/-- what a device is -/
structure Dv where
  S : List Bytes
  O : List Nat
  M : Nat → Bytes
  left : Int
  down : Bool
/-- where it lies -/
structure Lay where
  gs : Nat
  cs : Nat
  gm : Nat
  vo : Value
  sb : Nat → Nat
  sc : Nat → Nat
  mb : Nat → Nat
  mc : Nat → Nat
def natL (k : Nat) : Lit := .int .i64 k
theorem natL_inj (x y : Nat) (h : natL x = natL y) : x = y := by
  unfold natL at h; injection h with _ h; omega
def rowV (g c : Nat) : Value := .slice (some ⟨g, 0, none⟩) 32 c
def memF (O : List Nat) (Y : Lay) (k : Nat) : Option Value := if k ∈ O then some (rowV (Y.mb k) (Y.mc k)) else none
structure DevIs (w : World) (F : Nat → Prop) (d : Nat) (D : Dv) (Y : Lay) (live : Nat → Prop) : Prop where
  hd : w.heap[d]? = some (.cells #[.slice (some ⟨Y.gs, 0, none⟩) D.S.length Y.cs, .map (some Y.gm), Y.vo, .int .i64 D.left, .bool D.down] 115 (0, 0))
  sec : ∃ cur, w.heap[Y.gs]? = some (.cells cur 22 (0, 0)) ∧ cur.size = Y.cs ∧ ∀ i, i < D.S.length → cur[i]? = some (rowV (Y.sb i) (Y.sc i))
  cap : D.S.length ≤ Y.cs
  row : ∀ i (h : i < D.S.length), Row w 5 (Y.sb i) (Y.sc i) D.S[i] ∧ D.S[i].length = 32
  ord : w.ownsRow 0 3 1 Y.vo D.O.length (D.O.map fun i : Nat => .int .i64 (i : Int))
  mem : IM Tryz.prog 3 natL w Y.gm (memF D.O Y) D.O.length
  mrow : ∀ i, live i → Row w 5 (Y.mb i) (Y.mc i) (D.M i)
  mlen : ∀ i, i ∈ D.O → i < D.S.length ∧ (D.M i).length = 32
  liv : ∀ i, live i → i ∈ D.O
  inj1 : ∀ i j, i < D.S.length → j < D.S.length → Y.sb i = Y.sb j → i = j
  inj2 : ∀ i j, live i → live j → Y.mb i = Y.mb j → i = j
  inj3 : ∀ i j, i < D.S.length → live j → Y.sb i ≠ Y.mb j
  nd : D.O.Nodup
  n0 : 1 ≤ D.S.length
  n1 : D.S.length ≤ 300
  l0 : -1 ≤ D.left
  l1 : D.left ≤ 9223372036854775807
  fd : F d
  fs : F Y.gs
  fm : F Y.gm
  fo : ∀ q, Y.vo.ownBlock = some q → F q
  fr : ∀ i, i < D.S.length → F (Y.sb i)
  fb : ∀ i, live i → F (Y.mb i)
  flt : ∀ k, F k → k < w.heap.size
section
variable {w w' : World} {F F' : Nat → Prop} {d : Nat} {D : Dv} {Y : Lay} {live : Nat → Prop}
/-- a world in which its blocks are as they were -/
theorem DevIs.same (h : DevIs w F d D Y live) (hb : ∀ k, F k → w'.heap[k]? = w.heap[k]?) (hF : ∀ k, F k → F' k) (hl : ∀ k, F' k → k < w'.heap.size) : DevIs w' F' d D Y live where
  hd := (hb _ h.fd).trans h.hd
  sec := by obtain ⟨cur, h0, h1⟩ := h.sec; exact ⟨cur, (hb _ h.fs).trans h0, h1⟩
  cap := h.cap
  row := fun i hi => ⟨(h.row i hi).1.block (hb _ (h.fr i hi)), (h.row i hi).2⟩
  ord := ownsRow_block h.ord fun q hq => hb q (h.fo q hq)
  mem := h.mem.block (hb _ h.fm)
  mrow := fun i hi => (h.mrow i hi).block (hb _ (h.fb i hi))
  mlen := h.mlen
  liv := h.liv
  inj1 := h.inj1
  inj2 := h.inj2
  inj3 := h.inj3
  nd := h.nd
  n0 := h.n0
  n1 := h.n1
  l0 := h.l0
  l1 := h.l1
  fd := hF _ h.fd
  fs := hF _ h.fs
  fm := hF _ h.fm
  fo := fun q hq => hF q (h.fo q hq)
  fr := fun i hi => hF _ (h.fr i hi)
  fb := fun i hi => hF _ (h.fb i hi)
  flt := hl
theorem DevIs.below (h : DevIs w F d D Y live) (hb : Below w.heap.size w w') : DevIs w' F d D Y live :=
  h.same (fun k hk => hb.block k (h.flt k hk)) (fun _ hk => hk) (fun k hk => Nat.lt_of_lt_of_le (h.flt k hk) hb.size)
/-- what is written by others -/
theorem DevIs.keep {G : Nat → Prop} (h : DevIs w F d D Y live) (hk : Keep G w w') (hG : ∀ k, F k → ¬ G k) : DevIs w' F d D Y live :=
  h.same (fun k hf => hk.block k (h.flt k hf) (hG k hf)) (fun _ hk => hk) (fun k hf => Nat.lt_of_lt_of_le (h.flt k hf) hk.size)
theorem DevIs.ne_cells {g : Nat} {cur cur' : Array Value} {t t' : TypeId} (h1 : w.heap[g]? = some (.cells cur t (0, 0))) {g' : Nat} (h2 : w.heap[g']? = some (.cells cur' t' (0, 0))) (hne : t ≠ t') : g ≠ g' := fun e => by
  rw [e, h2] at h1
  injection h1 with h1
  injection h1 with _ h1
  exact hne h1.symm
theorem DevIs.ne_map {g : Nat} {cur : Array Value} {t : TypeId} (h1 : w.heap[g]? = some (.cells cur t (0, 0))) {b cnt : Nat} {f : Nat → Option Value} (h2 : IM Tryz.prog 3 natL w b f cnt) : g ≠ b := fun e => by
  obtain ⟨es, clock, hb⟩ := h2.isMap
  rw [e, hb] at h1
  cases h1
theorem DevIs.ne_row {g : Nat} {cur : Array Value} {t : TypeId} (h1 : w.heap[g]? = some (.cells cur t (0, 0))) {e g' cap : Nat} {l : Bytes} (h2 : Row w e g' cap l) (hne : t ≠ e) : g ≠ g' := by
  obtain ⟨cur', h0, _⟩ := h2
  exact DevIs.ne_cells h1 h0 hne
theorem DevIs.ne_own {g : Nat} {cur : Array Value} {t : TypeId} (h1 : w.heap[g]? = some (.cells cur t (0, 0))) {base : Nat} {e : TypeId} {size : Nat} {v : Value} {n : Nat} {xs : List Value} (h2 : w.ownsRow base e size v n xs) (hne : t ≠ e) : v.ownBlock ≠ some g := fun he => by
  rcases h2.2 with ⟨rfl, _⟩ | ⟨g', cap', cur', rfl, _, hh', _⟩
  · simp [Value.ownBlock] at he
  · obtain rfl : g' = g := by simpa [Value.ownBlock] using he
    exact DevIs.ne_cells h1 hh' hne rfl
/-- the device's own block turned: another order, other steps left, up or down -/
theorem DevIs.head (h : DevIs w F d D Y live) (l' : Int) (b' : Bool)
    (hh : w'.heap[d]? = some (.cells #[.slice (some ⟨Y.gs, 0, none⟩) D.S.length Y.cs, .map (some Y.gm), Y.vo, .int .i64 l', .bool b'] 115 (0, 0)))
    (hb : ∀ k, F k → k ≠ d → w'.heap[k]? = w.heap[k]?) (hs : w.heap.size ≤ w'.heap.size) (h0 : -1 ≤ l') (h1 : l' ≤ 9223372036854775807) : DevIs w' F d { D with left := l', down := b' } Y live where
  hd := hh
  sec := by
    obtain ⟨cur, h0, h1⟩ := h.sec
    exact ⟨cur, (hb _ h.fs (DevIs.ne_cells h.hd h0 (by decide)).symm).trans h0, h1⟩
  cap := h.cap
  row := fun i hi => ⟨(h.row i hi).1.block (hb _ (h.fr i hi) (DevIs.ne_row h.hd (h.row i hi).1 (by decide)).symm), (h.row i hi).2⟩
  ord := ownsRow_block h.ord fun q hq => hb q (h.fo q hq) (fun e => DevIs.ne_own h.hd h.ord (by decide) (by rw [hq, e]))
  mem := h.mem.block (hb _ h.fm (DevIs.ne_map h.hd h.mem).symm)
  mrow := fun i hi => (h.mrow i hi).block (hb _ (h.fb i hi) (DevIs.ne_row h.hd (h.mrow i hi) (by decide)).symm)
  mlen := h.mlen
  liv := h.liv
  inj1 := h.inj1
  inj2 := h.inj2
  inj3 := h.inj3
  nd := h.nd
  n0 := h.n0
  n1 := h.n1
  l0 := h0
  l1 := h1
  fd := h.fd
  fs := h.fs
  fm := h.fm
  fo := h.fo
  fr := h.fr
  fb := h.fb
  flt := fun k hk => Nat.lt_of_lt_of_le (h.flt k hk) hs
end
end Go.Proofs.YtijcclpnkfmpnaaGreat
/- The contracts of package device: Len, Down, step, Fail, forget. -/
namespace Go.Proofs.YtijcclpnkfmpnaaGreat
open Go.RowKit

theorem five {w : World} {d : Nat} {a b c e f : Value} {t : TypeId} (h : w.heap[d]? = some (.cells #[a, b, c, e, f] t (0, 0))) :
    (w.cell? ⟨d, 0, none⟩ = some a ∧ w.cell? ⟨d, 1, none⟩ = some b ∧ w.cell? ⟨d, 2, none⟩ = some c ∧ w.cell? ⟨d, 3, none⟩ = some e ∧ w.cell? ⟨d, 4, none⟩ = some f) ∧ ∀ k, w.frozen? ⟨d, k, none⟩ = false := by
  refine ⟨⟨?_, ?_, ?_, ?_, ?_⟩, fun k => by simp [World.frozen?, h]⟩ <;> simp [World.cell?, h]
theorem heap_set5 {w : World} {d k : Nat} {cur : Array Value} {t : TypeId} (h : w.heap[d]? = some (.cells cur t (0, 0))) (v : Value) : (w.setCell ⟨d, k, none⟩ v).heap[d]? = some (.cells (cur.setIfInBounds k v) t (0, 0)) := by
  rw [setCell_eq_setRow w d k cur t _ _ h]
  exact setRow_heap w d cur _ t _ h
theorem Keep.setCell {F : Nat → Prop} {w w' : World} (h : Keep F w w') {p : Addr} (hp : F p.block ∨ w.heap.size ≤ p.block) (u : Value) : Keep F w (w'.setCell p u) :=
  ⟨h.os, h.tape, h.output, by simpa using h.size, fun k hk hn => by
    have : k ≠ p.block := fun e => by rcases hp with h' | h'; exact hn (e ▸ h'); omega
    exact (Below.heap_setCell w' p u k this).trans (h.block k hk hn)⟩
theorem dlen_any (w : World) (F : Nat → Prop) (d : Nat) (D : Dv) (Y : Lay) (live : Nat → Prop) (h : DevIs w F d D Y live) :
    Calls Tryz.prog 60 #[.pointer (some ⟨d, 0, none⟩)] w fun e w' => e = .returned (.int .i64 D.S.length) ∧ w = w' := by
  obtain ⟨⟨c0, c1, c2, c3, c4⟩, -⟩ := five h.hd
  go_enter Tryz.func60, Tryz.ntmps60
  go_wp2_with fail
  go_ret
  exact ⟨rfl, rfl⟩
theorem ddown_any (w : World) (F : Nat → Prop) (d : Nat) (D : Dv) (Y : Lay) (live : Nat → Prop) (h : DevIs w F d D Y live) :
    Calls Tryz.prog 31 #[.pointer (some ⟨d, 0, none⟩)] w fun e w' => e = .returned (.bool D.down) ∧ w = w' := by
  obtain ⟨⟨c0, c1, c2, c3, c4⟩, -⟩ := five h.hd
  go_enter Tryz.func31, Tryz.ntmps31
  go_wp2_with fail
  go_ret
  exact ⟨rfl, rfl⟩
theorem DevIs.set34 {w : World} {F : Nat → Prop} {d : Nat} {D : Dv} {Y : Lay} {live : Nat → Prop} (h : DevIs w F d D Y live) (l' : Int) (h0 : -1 ≤ l') (h1 : l' ≤ 9223372036854775807) (b : Bool) :
    DevIs ((w.setCell ⟨d, 4, none⟩ (.bool b)).setCell ⟨d, 3, none⟩ (.int .i64 l')) F d { D with left := l', down := b } Y live ∧ Keep F w ((w.setCell ⟨d, 4, none⟩ (.bool b)).setCell ⟨d, 3, none⟩ (.int .i64 l')) ∧
      ((w.setCell ⟨d, 4, none⟩ (.bool b)).setCell ⟨d, 3, none⟩ (.int .i64 l')).heap.size = w.heap.size := by
  refine ⟨h.head l' b (heap_set5 (heap_set5 h.hd _) _) (fun k _ hk => ?_) (by simp) h0 h1, ((Keep.refl F w).setCell (.inl h.fd) _).setCell (.inl h.fd) _, by simp⟩
  exact (Below.heap_setCell _ _ _ k hk).trans (Below.heap_setCell _ _ _ k hk)
theorem DevIs.set3 {w : World} {F : Nat → Prop} {d : Nat} {D : Dv} {Y : Lay} {live : Nat → Prop} (h : DevIs w F d D Y live) (l' : Int) (h0 : -1 ≤ l') (h1 : l' ≤ 9223372036854775807) :
    DevIs (w.setCell ⟨d, 3, none⟩ (.int .i64 l')) F d { D with left := l' } Y live ∧ Keep F w (w.setCell ⟨d, 3, none⟩ (.int .i64 l')) ∧ (w.setCell ⟨d, 3, none⟩ (.int .i64 l')).heap.size = w.heap.size := by
  refine ⟨h.head l' D.down (heap_set5 h.hd _) (fun k _ hk => Below.heap_setCell _ _ _ k hk) (by simp) h0 h1, (Keep.refl F w).setCell (.inl h.fd) _, by simp⟩
/-- one step of the power -/
def stepD (D : Dv) : Dv := { D with left := max (-1) (D.left - 1), down := D.left == 0 }
theorem dstep_any (w : World) (F : Nat → Prop) (d : Nat) (D : Dv) (Y : Lay) (live : Nat → Prop) (h : DevIs w F d D Y live) :
    Calls Tryz.prog 100 #[.pointer (some ⟨d, 0, none⟩)] w fun e w' => e = .returned (.bool (!(D.left == 0))) ∧ DevIs w' F d (stepD D) Y live ∧ Keep F w w' ∧ w'.heap.size = w.heap.size := by
  obtain ⟨⟨c0, c1, c2, c3, c4⟩, ff⟩ := five h.hd
  have f3 := ff 3
  have f4 := ff 4
  have l0 := h.l0
  have l1 := h.l1
  have s1 : IntKind.i64.wrap (D.left - 1) = D.left - 1 := IntWalk.i64_in _ (by omega)
  have HH := Hidden.mk h
  clear h ff
  go_enter Tryz.func100, Tryz.ntmps100
  go_wp2_with fail
  all_goals
    go_ret
    refine ⟨rfl, ?_⟩
    have hm := HH.out.set34 (max (-1) (D.left - 1)) (by omega) (by omega) (D.left == 0)
    obtain ⟨_hc, hx⟩ | ⟨_hc, hx⟩ : (-1 < D.left - 1 ∧ max (-1) (D.left - 1) = D.left - 1) ∨ (D.left - 1 ≤ -1 ∧ max (-1) (D.left - 1) = -1) := by omega
  all_goals
    rw [hx] at hm
    unfold stepD
    rw [hx]
    first
      | exact hm
      | (exfalso; omega)
      | (have hy : D.left - 1 = -1 := (by omega)
         rw [hy] at hm ⊢
         exact hm)
theorem dfail_any (n : Int) (w : World) (F : Nat → Prop) (d : Nat) (D : Dv) (Y : Lay) (live : Nat → Prop) (h : DevIs w F d D Y live) (hn : n ≤ 9223372036854775807) :
    Calls Tryz.prog 30 #[.pointer (some ⟨d, 0, none⟩), .int .i64 n] w fun e w' => e = .returned (.tuple #[]) ∧ DevIs w' F d { D with left := max (-1) n } Y live ∧ Keep F w w' ∧ w'.heap.size = w.heap.size := by
  obtain ⟨⟨c0, c1, c2, c3, c4⟩, ff⟩ := five h.hd
  have f3 := ff 3
  have HH := Hidden.mk h
  clear h ff
  go_enter Tryz.func30, Tryz.ntmps30
  go_wp2_with fail
  all_goals
    go_end0
    obtain ⟨_hc, hx⟩ | ⟨_hc, hx⟩ : (-1 < n ∧ max (-1) n = n) ∨ (n ≤ -1 ∧ max (-1) n = -1) := by omega
  all_goals
    rw [hx]
    first
      | (exfalso; omega)
      | exact ⟨rfl, HH.out.set3 _ (by first | assumption | omega) (by first | assumption | omega)⟩
theorem DevIs.fed {w : World} {F : Nat → Prop} {d : Nat} {D : Dv} {Y : Lay} {live : Nat → Prop} (h : DevIs w F d D Y live) {w' : World}
    (hb : ∀ k, F k → k ≠ d → k ≠ Y.gm → w'.heap[k]? = w.heap[k]?) (hm : IM Tryz.prog 3 natL w' Y.gm (fun _ => none) 0) (hs : w'.heap.size = w.heap.size)
    (hh : w'.heap[d]? = some (.cells #[.slice (some ⟨Y.gs, 0, none⟩) D.S.length Y.cs, .map (some Y.gm), .slice none 0 0, .int .i64 D.left, .bool D.down] 115 (0, 0))) :
    DevIs w' F d { D with O := [] } { Y with vo := .slice none 0 0 } (fun _ => False) where
  hd := hh
  sec := by
    obtain ⟨cur, h0, h1⟩ := h.sec
    exact ⟨cur, (hb _ h.fs (DevIs.ne_cells h.hd h0 (by decide)).symm (DevIs.ne_map h0 h.mem)).trans h0, h1⟩
  cap := h.cap
  row := fun i hi => by
    have hr := (h.row i hi).1
    obtain ⟨cur, h0, _⟩ := id hr
    exact ⟨hr.block (hb _ (h.fr i hi) (DevIs.ne_row h.hd hr (by decide)).symm (DevIs.ne_map h0 h.mem)), (h.row i hi).2⟩
  ord := World.ownsRow_nil _ _ _ _
  mem := by
    have : memF [] { Y with vo := .slice none 0 0 } = fun _ => none := by funext k; simp [memF]
    rw [this]
    exact hm
  mrow := fun i hi => hi.elim
  mlen := fun i hi => by simp at hi
  liv := fun i hi => hi.elim
  inj1 := h.inj1
  inj2 := fun i j hi => hi.elim
  inj3 := fun i j _ hj => hj.elim
  nd := List.nodup_nil
  n0 := h.n0
  n1 := h.n1
  l0 := h.l0
  l1 := h.l1
  fd := h.fd
  fs := h.fs
  fm := h.fm
  fo := fun q hq => by simp [Value.ownBlock] at hq
  fr := h.fr
  fb := fun i hi => hi.elim
  flt := fun k hk => by rw [hs]; exact h.flt k hk
theorem dforget_any (w : World) (F : Nat → Prop) (d : Nat) (D : Dv) (Y : Lay) (live : Nat → Prop) (h : DevIs w F d D Y live) :
    Calls Tryz.prog 73 #[.pointer (some ⟨d, 0, none⟩)] w fun e w' => e = .returned (.tuple #[]) ∧ DevIs w' F d { D with O := [] } { Y with vo := .slice none 0 0 } (fun _ => False) ∧ Keep F w w' ∧ w'.heap.size = w.heap.size := by
  obtain ⟨⟨c0, c1, c2, c3, c4⟩, ff⟩ := five h.hd
  obtain ⟨w1, hclear, him, hg, hsz⟩ := h.mem.clear_ (T := 72) Tryz.underlying72 0
  have hne := DevIs.ne_map h.hd h.mem
  have hdlt := h.flt d h.fd
  have hh1 := (hg.block d hdlt (fun e => hne (Option.some.inj e))).trans h.hd
  obtain ⟨⟨-, -, e2, -, -⟩, fe⟩ := five hh1
  have f2 := fe 2
  have HK : Hidden (DevIs (w1.setCell ⟨d, 2, none⟩ (.slice none 0 0)) F d { D with O := [] } { Y with vo := .slice none 0 0 } (fun _ => False) ∧ Keep F w (w1.setCell ⟨d, 2, none⟩ (.slice none 0 0)) ∧ (w1.setCell ⟨d, 2, none⟩ (.slice none 0 0)).heap.size = w.heap.size) := by
    refine ⟨h.fed (fun k hf hk hkm => (Below.heap_setCell _ _ _ k hk).trans (hg.block k (h.flt k hf) (fun e => hkm (Option.some.inj e)))) (him.block (Below.heap_setCell _ _ _ _ hne.symm)) (by simp [hsz]) (heap_set5 hh1 _), ?_, by simp [hsz]⟩
    refine (⟨hg.os, hg.tape, hg.output, hg.size, fun k hk hn => hg.block k hk (fun e => hn ?_)⟩ : Keep F w w1).setCell (.inl h.fd) _
    have := Option.some.inj e
    rw [this]; exact h.fm
  clear h ff fe hh1 him hg hsz hne hdlt
  go_enter Tryz.func73, Tryz.ntmps73
  go_wp2_with (simp only [hclear])
  go_end0
  exact ⟨rfl, HK.out⟩
end Go.Proofs.YtijcclpnkfmpnaaGreat
/- The contracts of package device: Read and Write. -/
namespace Go.Proofs.YtijcclpnkfmpnaaGreat
open Go.RowKit Go.Maps Go.ChangeMaps

theorem wf_nat {n : Nat} (hn : n ≤ 100000) : (Lit.int .i64 (n : Int)).wf = true := by
  have : (-9223372036854775808 : Int) ≤ n ∧ (n : Int) ≤ 9223372036854775807 := by omega
  simpa [Lit.wf, IntKind.min, IntKind.max, IntKind.bits, IntKind.signed] using this
theorem int_key {n : Nat} (hn : n ≤ 100000) : keyOf Tryz.prog 3 (.int .i64 (n : Int)) = some (natL n) := keyOf_int_mk Tryz.underlying3 (wf_nat hn)
theorem int_keyed : Go.Maps.Keyed Tryz.prog 3 := Go.Maps.int_keyed Tryz.underlying3
theorem zero_bytes (w : World) : (zeroValue 22).run Tryz.prog w = .ok (.slice none 0 0) w := by kernel_rfl
theorem int_info : (Tryz.prog.info? 3).map (fun i => (i.zero, i.size, i.bytes)) = some (some (.int .i64 0), 1, 8) := by kernel_rfl
/-- what a sector reads as -/
def readD (D : Dv) (i : Nat) : Bytes := if i ∈ D.O then D.M i else D.S.getD i []
def InO (D : Dv) (i : Nat) : Prop := i ∈ D.O
theorem dread_e1 (i : Int) (w : World) (F : Nat → Prop) (d : Nat) (D : Dv) (Y : Lay) (live : Nat → Prop) (h : DevIs w F d D Y live) (hi : i < 0 ∨ (D.S.length : Int) ≤ i) :
    Calls Tryz.prog 109 #[.pointer (some ⟨d, 0, none⟩), .int .i64 i] w fun e w' => e = .returned (.tuple #[.slice none 0 0, .iface 76 (.int .i64 1)]) ∧ w = w' := by
  obtain ⟨⟨c0, c1, c2, c3, c4⟩, -⟩ := five h.hd
  rcases hi with hi | hi
  · clear h
    go_enter Tryz.func109, Tryz.ntmps109
    go_wp2_with fail
    go_ret2
    exact ⟨rfl, rfl⟩
  · have h0 := h.n0
    have t1 : decide (i < 0) = false := by simp; omega
    have t2 : decide ((D.S.length : Int) ≤ i) = true := by simpa using hi
    clear h
    go_enter Tryz.func109, Tryz.ntmps109
    go_wp2_with fail
    go_ret2
    exact ⟨rfl, rfl⟩
theorem dread_e9 (i : Nat) (w : World) (F : Nat → Prop) (d : Nat) (D : Dv) (Y : Lay) (live : Nat → Prop) (h : DevIs w F d D Y live) (hi : i < D.S.length) (hd : D.down = true) :
    Calls Tryz.prog 109 #[.pointer (some ⟨d, 0, none⟩), .int .i64 (i : Int)] w fun e w' => e = .returned (.tuple #[.slice none 0 0, .iface 76 (.int .i64 9)]) ∧ w = w' := by
  obtain ⟨⟨c0, c1, c2, c3, c4⟩, -⟩ := five h.hd
  have t2 : decide ((D.S.length : Int) ≤ i) = false := by simp; omega
  have t3 : decide (D.S.length ≤ i) = false := by simp; omega
  rw [hd] at c4
  clear h hd
  go_enter Tryz.func109, Tryz.ntmps109
  go_wp2_with fail
  go_ret2
  exact ⟨rfl, rfl⟩
set_option maxRecDepth 100000 in
theorem dread_ok (i : Nat) (w : World) (F : Nat → Prop) (d : Nat) (D : Dv) (Y : Lay) (h : DevIs w F d D Y (InO D)) (hi : i < D.S.length) (hd : D.down = false) :
    Calls Tryz.prog 109 #[.pointer (some ⟨d, 0, none⟩), .int .i64 (i : Int)] w fun e w' => ∃ g cap, e = .returned (.tuple #[.slice (some ⟨g, 0, none⟩) 32 cap, .nilIface]) ∧ w.heap.size ≤ g ∧ Row w' 5 g cap (readD D i) ∧ (readD D i).length = 32 ∧ Below w.heap.size w w' := by
  obtain ⟨⟨c0, c1, c2, c3, c4⟩, -⟩ := five h.hd
  have t2 : decide ((D.S.length : Int) ≤ i) = false := by simp; omega
  have t3 : decide (D.S.length ≤ i) = false := by simp; omega
  have n1 := h.n1
  rw [hd] at c4
  by_cases hO : i ∈ D.O
  · have hf : memF D.O Y i = some (rowV (Y.mb i) (Y.mc i)) := by unfold memF; rw [if_pos hO]
    have hl := (h.mem.look_some int_keyed (T := 72) Tryz.underlying72 (zero_bytes w) (int_key (n := i) (by omega)) hf).1
    unfold rowV at hl
    have hrow := h.mrow i hO
    have hlen := (h.mlen i hO).2
    have HR : Hidden (readD D i = D.M i) := ⟨by unfold readD; rw [if_pos hO]⟩
    generalize D.M i = b at *
    clear h hf hd hO
    go_enter Tryz.func109, Tryz.ntmps109
    go_wp2_with fail
    refine (clone_some _ _ _ b _ hlen (by omega) hrow.rd).mono ?_
    rintro e w1 ⟨g, cap, rfl, hg, hr, hb⟩
    go_wp2_with fail
    go_ret2
    exact ⟨g, cap, rfl, hg, by rw [HR.out]; exact hr, by rw [HR.out]; exact hlen, hb⟩
  · have hf : memF D.O Y i = none := by unfold memF; rw [if_neg hO]
    have hl := (h.mem.look_none int_keyed (T := 72) Tryz.underlying72 (zero_bytes w) (int_key (n := i) (by omega)) hf).1
    obtain ⟨hrow, hlen⟩ := h.row i hi
    have HR : Hidden (readD D i = D.S[i]) := ⟨by unfold readD; rw [if_neg hO]; simp [hi]⟩
    obtain ⟨cur, hs, hcs, hcur⟩ := h.sec
    have hcell : w.cell? ⟨Y.gs, i, none⟩ = some (.slice (some ⟨Y.sb i, 0, none⟩) 32 (Y.sc i)) := by
      rw [cell_of_row w Y.gs i cur _ _ hs]; exact hcur i hi
    have i0 : (0 : Int) ≤ i := by omega
    have i1 : (i : Int) < D.S.length := by omega
    generalize D.S[i] = b at *
    clear h hf hd hO hs hcs hcur
    go_enter Tryz.func109, Tryz.ntmps109
    go_wp2_with fail
    refine (clone_some _ _ _ b _ hlen (by omega) hrow.rd).mono ?_
    rintro e w1 ⟨g, cap, rfl, hg, hr, hb⟩
    go_wp2_with fail
    go_ret2
    exact ⟨g, cap, rfl, hg, by rw [HR.out]; exact hr, by rw [HR.out]; exact hlen, hb⟩
/-- a device in which something more is pending -/
def putD (D : Dv) (i : Nat) (b : Bytes) : Dv := { D with O := if i ∈ D.O then D.O else D.O ++ [i], M := fun k => if k = i then b else D.M k }
def growF (F : Nat → Prop) (w w' : World) : Nat → Prop := fun k => (F k ∨ w.heap.size ≤ k) ∧ k < w'.heap.size
theorem putD_mem (D : Dv) (i : Nat) (b : Bytes) (k : Nat) : k ∈ (putD D i b).O ↔ k ∈ D.O ∨ k = i := by
  unfold putD
  by_cases hi : i ∈ D.O
  · simp only [if_pos hi]
    exact ⟨.inl, fun h => by rcases h with h | rfl; exact h; exact hi⟩
  · simp [if_neg hi]
theorem DevIs.wrote {w w' : World} {F : Nat → Prop} {d : Nat} {D : Dv} {Y : Lay} (h : DevIs w F d D Y (InO D)) (i : Nat) (hi : i < D.S.length) (b : Bytes) (hbl : b.length = 32) (vo' : Value) (g c cnt : Nat)
    (hh : w'.heap[d]? = some (.cells #[.slice (some ⟨Y.gs, 0, none⟩) D.S.length Y.cs, .map (some Y.gm), vo', .int .i64 D.left, .bool D.down] 115 (0, 0)))
    (ho : w'.ownsRow 0 3 1 vo' (putD D i b).O.length ((putD D i b).O.map fun i : Nat => .int .i64 (i : Int))) (hvo : ∀ q, vo'.ownBlock = some q → growF F w w' q)
    (him : IM Tryz.prog 3 natL w' Y.gm (upd (memF D.O Y) i (rowV g c)) cnt) (hcnt : cnt = (putD D i b).O.length)
    (hrow : Row w' 5 g c b) (hg : w.heap.size ≤ g)
    (hb : ∀ k, F k → k ≠ d → k ≠ Y.gm → Y.vo.ownBlock ≠ some k → w'.heap[k]? = w.heap[k]?) (hs : w.heap.size ≤ w'.heap.size) :
    DevIs w' (growF F w w') d (putD D i b) { Y with vo := vo', mb := fun k => if k = i then g else Y.mb k, mc := fun k => if k = i then c else Y.mc k } (InO (putD D i b)) := by
  have hF : ∀ k, F k → growF F w w' k := fun k hk => ⟨.inl hk, Nat.lt_of_lt_of_le (h.flt k hk) hs⟩
  have hsec := h.sec
  have hmb : ∀ k, k ∈ D.O → Y.mb k < w.heap.size := fun k hk => h.flt _ (h.fb k hk)
  have hsb : ∀ k, k < D.S.length → Y.sb k < w.heap.size := fun k hk => h.flt _ (h.fr k hk)
  have hrowb : ∀ {q cap : Nat} {l : Bytes}, F q → Row w 5 q cap l → Row w' 5 q cap l := fun {q cap l} hf hr => by
    obtain ⟨cur, h0, _⟩ := id hr
    refine hr.block (hb q hf (DevIs.ne_row h.hd hr (by decide)).symm (DevIs.ne_map h0 h.mem) ?_)
    exact DevIs.ne_own h0 h.ord (by decide)
  refine { hd := hh, sec := ?_, cap := h.cap, row := ?_, ord := ho, mem := ?_, mrow := ?_, mlen := ?_, liv := fun _ hi => hi, inj1 := h.inj1, inj2 := ?_, inj3 := ?_, nd := ?_, n0 := h.n0, n1 := h.n1, l0 := h.l0, l1 := h.l1, fd := hF _ h.fd, fs := hF _ h.fs, fm := hF _ h.fm, fo := hvo, fr := fun k hk => hF _ (h.fr k hk), fb := ?_, flt := fun k hk => hk.2 }
  · obtain ⟨cur, h0, h1⟩ := hsec
    exact ⟨cur, (hb _ h.fs (DevIs.ne_cells h.hd h0 (by decide)).symm (DevIs.ne_map h0 h.mem) (DevIs.ne_own h0 h.ord (by decide))).trans h0, h1⟩
  · exact fun k hk => ⟨hrowb (h.fr k hk) (h.row k hk).1, (h.row k hk).2⟩
  · rw [← hcnt]
    refine (?_ : upd (memF D.O Y) i (rowV g c) = memF (putD D i b).O { Y with vo := vo', mb := fun k => if k = i then g else Y.mb k, mc := fun k => if k = i then c else Y.mc k }) ▸ him
    funext k
    unfold upd memF
    by_cases hk : k = i
    · subst hk
      rw [if_pos rfl, if_pos ((putD_mem D k b k).2 (.inr rfl))]
      simp
    · rw [if_neg hk]
      by_cases hko : k ∈ D.O
      · rw [if_pos hko, if_pos ((putD_mem D i b k).2 (.inl hko))]
        simp [hk]
      · rw [if_neg hko, if_neg (fun hx => by rcases (putD_mem D i b k).1 hx with h' | h'; exact hko h'; exact hk h')]
  · intro k hk
    show Row w' 5 (if k = i then g else Y.mb k) (if k = i then c else Y.mc k) (if k = i then b else D.M k)
    by_cases hki : k = i
    · rw [if_pos hki, if_pos hki, if_pos hki]; exact hrow
    · rw [if_neg hki, if_neg hki, if_neg hki]
      have hko : k ∈ D.O := by rcases (putD_mem D i b k).1 hk with h' | h'; exact h'; exact absurd h' hki
      exact hrowb (h.fb k hko) (h.mrow k hko)
  · intro k hk
    show k < D.S.length ∧ (if k = i then b else D.M k).length = 32
    by_cases hki : k = i
    · rw [if_pos hki]; exact ⟨hki ▸ hi, hbl⟩
    · rw [if_neg hki]
      have hko : k ∈ D.O := by rcases (putD_mem D i b k).1 hk with h' | h'; exact h'; exact absurd h' hki
      exact h.mlen k hko
  · intro k j hk hj he
    have hk' := (putD_mem D i b k).1 hk
    have hj' := (putD_mem D i b j).1 hj
    simp only at he
    by_cases hki : k = i
    · by_cases hji : j = i
      · rw [hki, hji]
      · rw [if_pos hki, if_neg hji] at he
        have hjo : j ∈ D.O := by rcases hj' with h' | h'; exact h'; exact absurd h' hji
        have := hmb j hjo; omega
    · have hko : k ∈ D.O := by rcases hk' with h' | h'; exact h'; exact absurd h' hki
      by_cases hji : j = i
      · rw [if_neg hki, if_pos hji] at he
        have := hmb k hko; omega
      · rw [if_neg hki, if_neg hji] at he
        have hjo : j ∈ D.O := by rcases hj' with h' | h'; exact h'; exact absurd h' hji
        exact h.inj2 k j hko hjo he
  · intro k j hk hj
    show Y.sb k ≠ (if j = i then g else Y.mb j)
    by_cases hji : j = i
    · rw [if_pos hji]; have := hsb k hk; omega
    · rw [if_neg hji]
      have hjo : j ∈ D.O := by rcases (putD_mem D i b j).1 hj with h' | h'; exact h'; exact absurd h' hji
      exact h.inj3 k j hk hjo
  · show (if i ∈ D.O then D.O else D.O ++ [i]).Nodup
    by_cases hi : i ∈ D.O
    · rw [if_pos hi]; exact h.nd
    · rw [if_neg hi, List.nodup_append]
      exact ⟨h.nd, by simp, fun x hx y hy e => hi (by simp at hy; rw [← hy, ← e]; exact hx)⟩
  · intro k hk
    show growF F w w' (if k = i then g else Y.mb k)
    by_cases hki : k = i
    · rw [if_pos hki]; exact ⟨.inr hg, hrow.lt⟩
    · rw [if_neg hki]
      have hko : k ∈ D.O := by rcases (putD_mem D i b k).1 hk with h' | h'; exact h'; exact absurd h' hki
      exact hF _ (h.fb k hko)
end Go.Proofs.YtijcclpnkfmpnaaGreat
/- slices.Sorted(maps.Keys(m)) of maps from numbers to booleans. -/
namespace Go.Proofs.YtijcclpnkfmpnaaGreat
open Go.RowKit Go.Maps Go.ChangeMaps Go.Sort Go.Shelf

section
variable {P : Program} {K : TypeId} {w : World} {b cnt : Nat} {f : Nat → Option Value}
/-- the keys of a map that is told by a function -/
theorem IM.keys (h : IM P K natL w b f cnt) (hK : P.underlying K = some (.int .i64)) :
    ∃ D : DataW Value, w.ownsMap P K heldR b cnt D ∧ Maps.size D = cnt ∧ (intKeys D).Nodup ∧ (∀ x ∈ intKeys D, ∃ k : Nat, x = k ∧ (f k).isSome = true) ∧ ∀ k, (f k).isSome = true → (k : Int) ∈ intKeys D := by
  obtain ⟨D, hown, hs, hh⟩ := h
  have hK2 := Go.Maps.int_keyed hK
  refine ⟨D, hown, hs, ?_⟩
  obtain ⟨L, hD, hp, _⟩ := hown.entries hK2
  obtain ⟨L', hD', hko⟩ := hown.keysOf
  obtain rfl : L = L' := by rw [hD] at hD'; simpa using hD'
  subst hD
  have hint : ∀ p ∈ L, ∃ x, p.1 = .int .i64 x := fun p hp => by
    obtain ⟨v, hv⟩ := hko p hp
    obtain ⟨x, _, hx, _⟩ := Maps.keyOf_i64 hK hv
    exact ⟨x, hx⟩
  clear hown hD'
  have hmem : ∀ x : Int, x ∈ intKeys (.map L) ↔ has (.map L) (.int .i64 x) = true := fun x => by
    rw [has_eq, List.any_eq_true]
    show x ∈ L.map (fun p => Go.intOf p.1) ↔ _
    rw [List.mem_map]
    constructor
    · rintro ⟨p, hp', rfl⟩
      obtain ⟨a, ha⟩ := hint p hp'
      exact ⟨p, hp', by rw [ha]; simp [Lit.sameKey, Go.intOf]⟩
    · rintro ⟨p, hp', hs'⟩
      obtain ⟨a, ha⟩ := hint p hp'
      rw [ha] at hs'
      exact ⟨p, hp', by rw [ha]; simpa [Lit.sameKey, Go.intOf] using hs'⟩
  refine ⟨?_, fun x hx => ?_, fun k hk => ?_⟩
  · show (L.map fun p => Go.intOf p.1).Nodup
    refine List.pairwise_map.2 (hp.imp_of_mem fun {p q} hp' hq' hne e => hne ?_)
    obtain ⟨a, ha⟩ := hint p hp'
    obtain ⟨c, hc⟩ := hint q hq'
    rw [ha, hc] at e ⊢
    exact congrArg _ e
  · obtain ⟨k, e, hk⟩ := hh.2 _ ((hmem x).1 hx)
    unfold natL at e
    injection e with _ e
    exact ⟨k, e, hk⟩
  · obtain ⟨v, hv⟩ := Option.isSome_iff_exists.1 hk
    exact (hmem k).2 ((hh.1 k).2 v hv).1
end
/-- a list of numbers that rises, with just the keys of f -/
structure KeysOf (f : Nat → Option Value) (S : List Nat) : Prop where
  up : S.Pairwise (· < ·)
  mem : ∀ k, k ∈ S ↔ (f k).isSome = true
theorem keys_sorted {f : Nat → Option Value} {L ss : List Int} (hp : ss.Perm L) (hn : L.Nodup) (h1 : ∀ x ∈ L, ∃ k : Nat, x = k ∧ (f k).isSome = true) (h2 : ∀ k, (f k).isSome = true → (k : Int) ∈ L) :
    ∃ S : List Nat, ss.mergeSort leI = S.map (fun i : Nat => (i : Int)) ∧ KeysOf f S := by
  have tr : ∀ a b c : Int, leI a b = true → leI b c = true → leI a c = true := fun a b c h1 h2 => by simp only [leI, decide_eq_true_eq] at *; exact Int.le_trans h1 h2
  have tot : ∀ a b : Int, (leI a b || leI b a) = true := fun a b => by simp only [leI, Bool.or_eq_true, decide_eq_true_eq]; exact Int.le_total a b
  have hpm : (ss.mergeSort leI).Perm L := (List.mergeSort_perm ss leI).trans hp
  have hs := List.pairwise_mergeSort tr tot ss
  have hnd : (ss.mergeSort leI).Nodup := hpm.nodup_iff.2 hn
  have hm : ∀ x, x ∈ ss.mergeSort leI ↔ x ∈ L := fun x => hpm.mem_iff
  generalize ss.mergeSort leI = T at *
  have hcast : T = (T.map Int.toNat).map (fun i : Nat => (i : Int)) := by
    rw [List.map_map]
    conv => lhs; rw [← List.map_id T]
    refine List.map_congr_left fun x hx => ?_
    obtain ⟨k, rfl, _⟩ := h1 x ((hm x).1 hx)
    simp
  refine ⟨T.map Int.toNat, hcast, ?_, fun k => ?_⟩
  · refine List.pairwise_map.2 ?_
    refine (hs.and hnd).imp_of_mem fun {a b} ha hb hab => ?_
    obtain ⟨x, rfl, _⟩ := h1 a ((hm a).1 ha)
    obtain ⟨y, rfl, _⟩ := h1 b ((hm b).1 hb)
    have e1 := of_decide_eq_true hab.1
    have e2 := hab.2
    simp only [Int.toNat_natCast]
    omega
  · rw [List.mem_map]
    constructor
    · rintro ⟨x, hx, rfl⟩
      obtain ⟨y, rfl, hy⟩ := h1 x ((hm x).1 hx)
      simpa using hy
    · intro hk
      exact ⟨(k : Int), (hm _).2 (h2 k hk), by simp⟩
theorem sorts_int (m : Nat) : AnyZI.SortsIn Tryz.prog sortedI_ren Fence.wide m :=
  ⟨fun blk off cap ss W hH hblk hsz => callsIn_wide.2 (AnyM.slices_Sort_int sortI blk off cap ss W hH hblk hsz),
   fun p cap W => callsIn_wide.2 (AnyM.slices_Sort_int_none sortI p cap W)⟩
end Go.Proofs.YtijcclpnkfmpnaaGreat
/- Laid: maps.Keys at maps from numbers to rows of bytes. -/
namespace Go.Proofs.YtijcclpnkfmpnaaGreat
open Go.Shelf
def keysR_ren : Go.Shelf.Ren := ⟨fun | 7 => 59 | 10 => 97 | n => n, fun | 23 => 72 | 26 => 3 | 3 => 22 | 28 => 112 | 0 => 0 | 27 => 111 | 33 => 68 | 4 => 4 | n => n, fun | n => n⟩
theorem keysR : Go.Proofs.SlLaysZI.n7 Tryz.prog keysR_ren := {
  mixed := by kernel_rfl
  f7 := ⟨Tryz.f59.name, by decide, Tryz.func59.trans (congrArg some (by kernel_rfl))⟩
  f10 := ⟨Tryz.f97.name, by decide, Tryz.func97.trans (congrArg some (by kernel_rfl))⟩
  t0 := Tryz.underlying0
  a0 := Tryz.isAgg0
  z0 := Tryz.sizeOf0
  v0 := Tryz.zeroValue0
  t4 := Tryz.underlying4
  a4 := Tryz.isAgg4
  z4 := Tryz.sizeOf4
  v4 := Tryz.zeroValue4
  t23 := Tryz.underlying72
  a23 := Tryz.isAgg72
  z23 := Tryz.sizeOf72
  v23 := Tryz.zeroValue72
  t26 := Tryz.underlying3
  a26 := Tryz.isAgg3
  z26 := Tryz.sizeOf3
  v26 := Tryz.zeroValue3
  t27 := Tryz.underlying111
  a27 := Tryz.isAgg111
  z27 := Tryz.sizeOf111
  v27 := Tryz.zeroValue111
  t28 := Tryz.underlying112
  a28 := Tryz.isAgg112
  z28 := Tryz.sizeOf112
  v28 := Tryz.zeroValue112
  t33 := Tryz.underlying68
  a33 := Tryz.isAgg68
  z33 := Tryz.sizeOf68
  v33 := Tryz.zeroValue68 }
end Go.Proofs.YtijcclpnkfmpnaaGreat
/- slices.Sorted(maps.Keys(m)) of maps from numbers to rows of bytes. -/
namespace Go.Proofs.YtijcclpnkfmpnaaGreat
open Go.RowKit Go.Maps Go.ChangeMaps Go.Sort Go.Shelf

theorem keysR_call (b : Nat) (w : World) : Calls Tryz.prog 59 #[.map (some b)] w fun e w' => e = .returned (.func (.func 97) #[] #[.pointer (some ⟨w.heap.size, 0, none⟩)]) ∧ w' = w.alloc (.cells #[.map (some b)] 72) := by
  have cK : CallsIn Fence.wide 5 Tryz.prog 59 #[.map (some b)] w fun e w' => e = .returned (.func (.func 97) #[] #[.pointer (some ⟨w.heap.size, 0, none⟩)]) ∧ w' = w.alloc (.cells #[.map (some b)] 72) := AnyZI.keys_in keysR Fence.wide 5 trivial rfl (some b) w
  exact callsIn_wide.1 cK
theorem sortedR_call (b cnt : Nat) (f : Nat → Option Value) (w : World) (h : IM Tryz.prog 3 natL w b f cnt) (hc : cnt ≤ 100000) :
    Calls Tryz.prog 58 #[.func (.func 97) #[] #[.pointer (some ⟨w.heap.size, 0, none⟩)]] (w.alloc (.cells #[.map (some b)] 72)) fun e w' => ∃ v S, e = .returned v ∧ KeysOf f S ∧
      w'.ownsRow w.heap.size 3 1 v S.length (S.map fun i : Nat => .int .i64 (i : Int)) ∧ Below w.heap.size w w' := by
  obtain ⟨D, hown, hs, hn, h1, h2⟩ := h.keys Tryz.underlying3
  have hbl := hown.lt
  have hseq : SeqGives Fence.wide 2 Tryz.prog 97 #[.pointer (some ⟨w.heap.size, 0, none⟩)] encZ (fun ss => ss.Perm (intKeys D)) (Maps.size D) (w.alloc (.cells #[.map (some b)] 72)) :=
    AnyZI.keys_gives (ρ := keysR_ren) { keysR with } Fence.wide _ trivial rfl (by omega) w.heap.size b cnt D _ (by simp) (by simp) (by
      obtain ⟨es, clock, hb, Ft, hs, hD⟩ := hown
      exact ⟨es, clock, (Below.heap_alloc _ _ b hbl).trans hb, Ft, hs, hD⟩)
  have cS := AnyZI.sorted_in sortedI Fence.wide 5 trivial trivial trivial trivial rfl (by omega) (sorts_int _) (enters_of Tryz.func96 (by kernel_rfl) rfl) 97 #[.pointer (some ⟨w.heap.size, 0, none⟩)] trivial (enters_of Tryz.func97 (by kernel_rfl) rfl) _ _ (by rw [hs]; simp only [maxLen]; omega) (by rw [hs]; omega) _ hseq
  change CallsIn _ _ Tryz.prog 58 _ _ _ at cS
  refine (callsIn_wide.1 cS).mono ?_
  rintro e w' ⟨v, ss, rfl, hS, hrow, -, hb⟩
  obtain ⟨S, e1, e2⟩ := keys_sorted hS hn h1 h2
  have hlen : S.length = ss.length := by
    have := congrArg List.length e1
    rw [List.length_map, List.length_mergeSort] at this
    omega
  refine ⟨v, S, rfl, e2, ?_, ((Below.refl _ w).alloc (Nat.le_refl _) _).trans (hb.mono (by simp))⟩
  have e3 : (ss.mergeSort (fun x y => decide (x ≤ y))).map encZ = S.map fun i : Nat => .int .i64 (i : Int) := by
    show (ss.mergeSort leI).map encZ = _
    rw [e1, List.map_map]; rfl
  rw [e3, ← hlen] at hrow
  exact ownsRow_base_a hrow (by simp)
end Go.Proofs.YtijcclpnkfmpnaaGreat
/- Laid: library functions whose contracts are proved over whatever program: the table of numbers, and a field a function or a type. -/
namespace Go.Proofs.YtijcclpnkfmpnaaGreat
open Go.Shelf
def mapDel_ren : Go.Shelf.Ren := ⟨fun | 5 => 37 | n => n, fun | 23 => 72 | 26 => 3 | 24 => 22 | 27 => 79 | 0 => 0 | 4 => 4 | n => n, fun | n => n⟩
theorem mapDel : Go.Proofs.SlLaysDf.n5 Tryz.prog mapDel_ren := {
  mixed := by kernel_rfl
  f5 := ⟨Tryz.f37.name, by decide, Tryz.func37.trans (congrArg some (by kernel_rfl))⟩
  t0 := Tryz.underlying0
  a0 := Tryz.isAgg0
  z0 := Tryz.sizeOf0
  v0 := Tryz.zeroValue0
  t4 := Tryz.underlying4
  a4 := Tryz.isAgg4
  z4 := Tryz.sizeOf4
  v4 := Tryz.zeroValue4
  t23 := Tryz.underlying72
  a23 := Tryz.isAgg72
  z23 := Tryz.sizeOf72
  v23 := Tryz.zeroValue72
  a24 := Tryz.isAgg22
  z24 := Tryz.sizeOf22
  a26 := Tryz.isAgg3
  z26 := Tryz.sizeOf3
  t27 := Tryz.underlying79
  a27 := Tryz.isAgg79
  z27 := Tryz.sizeOf79
  v27 := Tryz.zeroValue79 }
end Go.Proofs.YtijcclpnkfmpnaaGreat
/- Package undo: a heap with its marks. -/
namespace Go.Proofs.YtijcclpnkfmpnaaGreat
open Go.RowKit Go.Maps Go.ChangeMaps Go.Shelf

section
variable {w0 w w' : World} {F F' : Nat → Prop} {h u mb last : Nat} {l : Bytes} {I : Nat → Option Bytes}
set_option maxRecDepth 100000 in
theorem hreset_ok (g c : Nat) (b : Bytes) (hp : Hp w0 w F h l) (hr : rightB b.length = true) (hrd : Rd w (some ⟨g, 0, none⟩) b) :
    Calls Tryz.prog 36 #[.pointer (some ⟨h, 0, none⟩), .slice (some ⟨g, 0, none⟩) b.length c] w fun e w' => e = .returned (.tuple #[]) ∧ ∃ F', HpM w0 w w' F F' h b := by
  have hb := rightB_true.1 hr
  have HC := Hidden.mk (clone_some ⟨g, 0, none⟩ b.length c b w rfl (by omega) hrd)
  have HP := Hidden.mk hp
  have HR := Hidden.mk hr
  clear hp hr hrd
  go_enter Tryz.func36, Tryz.ntmps36
  go_wp2_with fail
  refine HC.out.mono ?_
  rintro e w1 ⟨g', cap', rfl, hg', hrow', hb1⟩
  have hP2 := HP.out.below hb1
  obtain ⟨g2, cap2, y0, yf, -, -, -, -⟩ := hP2.head
  have hs := hP2.set hrow' HR.out (Nat.le_trans HP.out.bel.size hg')
  have HS := Hidden.mk (HpM.mk hs.1 ((Keep.of_below (F := F) hb1).trans hs.2 (fun k hk => .inl hk)) (fun k hk => by
    rcases hk with hk | rfl
    · exact .inl hk
    · exact .inr hg'))
  clear hs hP2 hb1 hrow' HC
  go_wp2_with fail
  go_end0
  exact ⟨rfl, _, HS.out⟩
/-- an undo at block u over the heap h: its map at mb, its last mark; I: the image of each mark -/
structure UdH (w0 w : World) (F : Nat → Prop) (u h mb last : Nat) (I : Nat → Option Bytes) : Prop where
  blk : w.heap[u]? = some (.cells #[.pointer (some ⟨h, 0, none⟩), .int .i64 (last : Int), .map (some mb)] 74 (0, 0))
  mp : ∃ f cnt, cnt ≤ last ∧ IM Tryz.prog 3 natL w mb f cnt ∧ ∀ k, (I k = none → f k = none) ∧ ∀ b, I k = some b → ∃ g cap, f k = some (.slice (some ⟨g, 0, none⟩) b.length cap) ∧ Row w 5 g cap b ∧ ¬ F g
  nu : ¬ F u
  nm : ¬ F mb
  u0 : w0.heap.size ≤ u
  m0 : w0.heap.size ≤ mb
  top : ∀ k, I k ≠ none → 1 ≤ k ∧ k ≤ last
theorem UdH.lt (hu : UdH w0 w F u h mb last I) : u < w.heap.size ∧ mb < w.heap.size := by
  obtain ⟨f, cnt, -, him, -⟩ := hu.mp
  exact ⟨(Array.getElem?_eq_some_iff.1 hu.blk).1, him.lt⟩
theorem UdH.keep (hu : UdH w0 w F u h mb last I) (hk : ∀ k, k < w.heap.size → ¬ F k → w'.heap[k]? = w.heap[k]?) (hn : ∀ k, F' k → F k ∨ w.heap.size ≤ k) : UdH w0 w' F' u h mb last I := by
  obtain ⟨h1, h2⟩ := hu.lt
  obtain ⟨f, cnt, hc, him, hf⟩ := hu.mp
  have hno : ∀ k, k < w.heap.size → ¬ F k → ¬ F' k := fun k hlt hnf hf' => by rcases hn k hf' with h | h; exact hnf h; omega
  refine ⟨(hk u h1 hu.nu).trans hu.blk, ⟨f, cnt, hc, him.block (hk mb h2 hu.nm), fun k => ⟨(hf k).1, fun b hb => ?_⟩⟩, hno u h1 hu.nu, hno mb h2 hu.nm, hu.u0, hu.m0, hu.top⟩
  obtain ⟨g, cap, e1, e2, e3⟩ := (hf k).2 b hb
  exact ⟨g, cap, e1, e2.block (hk g e2.lt e3), hno g e2.lt e3⟩
theorem UdH.below (hu : UdH w0 w F u h mb last I) (hb : Below w.heap.size w w') : UdH w0 w' F u h mb last I := hu.keep (fun k hk _ => hb.block k hk) (fun _ hk => .inl hk)
theorem UdH.moved (hu : UdH w0 w F u h mb last I) (hm : HpM w0 w w' F F' h l) : UdH w0 w' F' u h mb last I := hu.keep (fun k hk hn => hm.kp.block k hk hn) hm.nw
theorem UdH.cells (hu : UdH w0 w F u h mb last I) : w.cell? ⟨u, 0, none⟩ = some (.pointer (some ⟨h, 0, none⟩)) ∧ w.cell? ⟨u, 1, none⟩ = some (.int .i64 (last : Int)) ∧ w.cell? ⟨u, 2, none⟩ = some (.map (some mb)) ∧ ∀ q, w.frozen? ⟨u, q, none⟩ = false := by
  have := hu.blk
  refine ⟨?_, ?_, ?_, fun q => frozen_of_row _ _ q _ _ this⟩ <;> simp [World.cell?, this]
set_option maxRecDepth 100000 in
theorem unew_ok (hp : Hp w0 w F h l) :
    Calls Tryz.prog 7 #[.pointer (some ⟨h, 0, none⟩)] w fun e w' => ∃ u mb, e = .returned (.pointer (some ⟨u, 0, none⟩)) ∧ UdH w0 w' F u h mb 0 (fun _ => none) ∧ Hp w0 w' F h l := by
  have hal1 := (Below.refl w.heap.size w).alloc (Nat.le_refl _) (.map #[] 0)
  have hal2 := hal1.alloc hal1.size (.cells #[.pointer (some ⟨h, 0, none⟩), .int .i64 0, .map (some w.heap.size)] 74)
  have him : IM Tryz.prog 3 natL (w.alloc (.map #[] 0)) w.heap.size (fun _ => none) 0 := IM.made w
  have HF : Hidden (UdH w0 ((w.alloc (.map #[] 0)).alloc (.cells #[.pointer (some ⟨h, 0, none⟩), .int .i64 0, .map (some w.heap.size)] 74)) F (w.alloc (.map #[] 0)).heap.size h w.heap.size 0 (fun _ => none) ∧ Hp w0 ((w.alloc (.map #[] 0)).alloc (.cells #[.pointer (some ⟨h, 0, none⟩), .int .i64 0, .map (some w.heap.size)] 74)) F h l) :=
    ⟨⟨heap_alloc_new _ _, ⟨_, 0, Nat.le_refl _, him.block (Below.heap_alloc _ _ _ him.lt), fun k => ⟨fun _ => rfl, fun b hb => by cases hb⟩⟩, fun hk => by have := hp.flt _ hk; simp at this; omega, fun hk => by have := hp.flt _ hk; omega, by simp; have := hp.bel.size; omega, hp.bel.size, fun k hk => absurd rfl hk⟩, hp.below hal2⟩
  clear hp hal1 hal2 him
  have hmm := @run_makeMap Tryz.prog
  rw [World.size_alloc] at HF
  go_enter Tryz.func7, Tryz.ntmps7
  go_wp2_with fail
  go_ret
  exact ⟨_, _, rfl, HF.out.1, HF.out.2⟩
/-- the marks with one more -/
def markI (I : Nat → Option Bytes) (k : Nat) (b : Bytes) : Nat → Option Bytes := fun q => if q = k then some b else I q
set_option maxRecDepth 100000 in
theorem umark_ok (hp : Hp w0 w F h l) (hu : UdH w0 w F u h mb last I) (hl : last ≤ 1000) :
    Calls Tryz.prog 8 #[.pointer (some ⟨u, 0, none⟩)] w fun e w' => e = .returned (.int .i64 ((last + 1 : Nat) : Int)) ∧ UdH w0 w' F u h mb (last + 1) (markI I (last + 1) l) ∧ Hp w0 w' F h l ∧ Keep (fun k => k = u ∨ k = mb) w w' := by
  obtain ⟨c0, c1, c2, cf⟩ := hu.cells
  have cf1 := cf 1
  have s1 : IntKind.i64.wrap ((last : Int) + 1) = ((last : Int) + 1) := IntWalk.i64_in _ (by omega)
  have HKEY : Hidden (keyOf Tryz.prog 3 (.int .i64 ((last : Int) + 1)) = some (natL (last + 1))) := ⟨int_key (n := last + 1) (by omega)⟩
  obtain ⟨u1, m1⟩ := hu.lt
  have hblk := heap_setK (k := 1) hu.blk (.int .i64 ((last : Int) + 1))
  have hne : mb ≠ u := fun e => by
    obtain ⟨f, cnt, -, him, -⟩ := hu.mp
    obtain ⟨es, clock, hb⟩ := him.isMap
    rw [e, hu.blk] at hb; cases hb
  have hk1 : ∀ k, k ≠ u → (w.setCell ⟨u, 1, none⟩ (.int .i64 ((last : Int) + 1))).heap[k]? = w.heap[k]? := fun k hk => Below.heap_setCell _ _ _ _ (by dsimp only; exact hk)
  have hsz : (w.setCell ⟨u, 1, none⟩ (.int .i64 ((last : Int) + 1))).heap.size = w.heap.size := by
    rw [setCell_eq_setRow w u 1 _ _ _ _ hu.blk]; simp [World.setRow]
  have hkp : Keep (fun k => k = u) w (w.setCell ⟨u, 1, none⟩ (.int .i64 ((last : Int) + 1))) := ⟨rfl, rfl, rfl, Nat.le_of_eq hsz.symm, fun k _ hn => hk1 k hn⟩
  have hp1 := hp.keep hkp (fun k hf e => hu.nu (e ▸ hf)) (fun k e => e ▸ hu.u0)
  have HP := Hidden.mk hp1
  have HMP : Hidden (∃ f cnt, cnt ≤ last ∧ IM Tryz.prog 3 natL (w.setCell ⟨u, 1, none⟩ (.int .i64 ((last : Int) + 1))) mb f cnt ∧ ∀ k, (I k = none → f k = none) ∧ ∀ b, I k = some b → ∃ g cap, f k = some (.slice (some ⟨g, 0, none⟩) b.length cap) ∧ Row (w.setCell ⟨u, 1, none⟩ (.int .i64 ((last : Int) + 1))) 5 g cap b ∧ ¬ F g) := ⟨by
    obtain ⟨f, cnt, hc, him, hf⟩ := hu.mp
    refine ⟨f, cnt, hc, him.block (hk1 mb hne), fun k => ⟨(hf k).1, fun b hb => ?_⟩⟩
    obtain ⟨g, cap, e1, e2, e3⟩ := (hf k).2 b hb
    exact ⟨g, cap, e1, e2.block (hk1 g (fun e => by obtain ⟨cur, h1, -⟩ := e2; rw [e, hu.blk] at h1; cases h1)), e3⟩⟩
  have HU := Hidden.mk hu
  have HBLK := Hidden.mk hblk
  have HKP : Hidden (Keep (fun k => k = u ∨ k = mb) w (w.setCell ⟨u, 1, none⟩ (.int .i64 ((last : Int) + 1)))) := ⟨hkp.os, hkp.tape, hkp.output, hkp.size, fun k hk' hn => hkp.block k hk' (fun h' => hn (.inl h'))⟩
  have HLT : Hidden (u < (w.setCell ⟨u, 1, none⟩ (.int .i64 ((last : Int) + 1))).heap.size ∧ mb ≠ u) := ⟨by rw [hsz]; exact u1, hne⟩
  clear hp hu cf u1 m1 hblk hne hk1 hsz hkp hp1
  go_enter Tryz.func8, Tryz.ntmps8
  go_upto_region 2 with (fail)
  generalize w.setCell ⟨u, 1, none⟩ (.int .i64 ((last : Int) + 1)) = w1 at *
  clear c0 c1 c2 cf1
  obtain ⟨f, cnt, hc, him, hf⟩ := HMP.out
  have hblk : w1.heap[u]? = some (.cells #[.pointer (some ⟨h, 0, none⟩), .int .i64 ((last : Int) + 1), .map (some mb)] 74 (0, 0)) := HBLK.out
  have HB1 := Hidden.mk hblk
  have d0 : w1.cell? ⟨u, 0, none⟩ = some (.pointer (some ⟨h, 0, none⟩)) := by simp [World.cell?, hblk]
  have d1 : w1.cell? ⟨u, 1, none⟩ = some (.int .i64 ((last : Int) + 1)) := by simp [World.cell?, hblk]
  have d2 : w1.cell? ⟨u, 2, none⟩ = some (.map (some mb)) := by simp [World.cell?, hblk]
  have KC := Hidden.mk (And.intro d0 (And.intro d1 d2))
  have HBY : Hidden (∀ W, Below w1.heap.size w1 W → Calls Tryz.prog 10 #[.pointer (some ⟨h, 0, none⟩)] W fun e w' => ∃ g cap, e = .returned (.slice (some ⟨g, 0, none⟩) l.length cap) ∧ W.heap.size ≤ g ∧ Row w' 5 g cap l ∧ Below W.heap.size W w') := ⟨fun W hW => hbytes_ok _ _ F h l (HP.out.below hW)⟩
  have HIM : Hidden (∀ W, Below w1.heap.size w1 W → IM Tryz.prog 3 natL W mb f cnt) := ⟨fun W hW => him.block (hW.block mb him.lt)⟩
  have HCW : Hidden (∀ W, Below w1.heap.size w1 W → W.cell? ⟨u, 0, none⟩ = some (.pointer (some ⟨h, 0, none⟩)) ∧ W.cell? ⟨u, 1, none⟩ = some (.int .i64 ((last : Int) + 1)) ∧ W.cell? ⟨u, 2, none⟩ = some (.map (some mb))) := ⟨fun W hW => ⟨(hW.cell (p := ⟨u, 0, none⟩) HLT.out.1).trans KC.out.1, (hW.cell (p := ⟨u, 1, none⟩) HLT.out.1).trans KC.out.2.1, (hW.cell (p := ⟨u, 2, none⟩) HLT.out.1).trans KC.out.2.2⟩⟩
  have HX := Hidden.mk (And.intro him (And.intro hc hf))
  clear hblk d0 d1 d2 him hf HMP
  have kd := HCW.out _ ((Below.refl w1.heap.size w1).drew)
  go_region_held3 (fun W => W.cell? ⟨u, 0, none⟩ = some (.pointer (some ⟨h, 0, none⟩)) ∧ W.cell? ⟨u, 1, none⟩ = some (.int .i64 ((last : Int) + 1)) ∧ W.cell? ⟨u, 2, none⟩ = some (.map (some mb))) (first | exact kd | exact HCW.out _ (((Below.refl _ _).drew).trans hb9) | exact ⟨(World.cell?_of_block (a := ⟨u, 0, none⟩) (hg10.block u (Nat.lt_of_lt_of_le HLT.out.1 (((Below.refl _ _).drew).trans hb9).size) (fun e => HLT.out.2 (Option.some.inj e).symm))).trans (HCW.out _ (((Below.refl _ _).drew).trans hb9)).1, (World.cell?_of_block (a := ⟨u, 1, none⟩) (hg10.block u (Nat.lt_of_lt_of_le HLT.out.1 (((Below.refl _ _).drew).trans hb9).size) (fun e => HLT.out.2 (Option.some.inj e).symm))).trans (HCW.out _ (((Below.refl _ _).drew).trans hb9)).2.1, (World.cell?_of_block (a := ⟨u, 2, none⟩) (hg10.block u (Nat.lt_of_lt_of_le HLT.out.1 (((Below.refl _ _).drew).trans hb9).size) (fun e => HLT.out.2 (Option.some.inj e).symm))).trans (HCW.out _ (((Below.refl _ _).drew).trans hb9)).2.2⟩)
    (first
      | (go_at_call 10; refine (HBY.out _ (by exact (Below.refl _ _).drew)).mono ?_; rintro e w9 ⟨g, cap, rfl, hg9, hrow9, hb9⟩)
      | (obtain ⟨w10, hrun10, him10, hg10, hs10⟩ := (HIM.out w9 (((Below.refl _ _).drew).trans hb9)).store int_keyed natL_inj (T := 72) Tryz.underlying72 (by simp only [maxLen]; omega) HKEY.out (.slice (some ⟨g, 0, none⟩) l.length cap); go_simp))
  have hB9 := ((Below.refl _ _).drew).trans hb9
  have hp9 := HP.out.below hB9
  have hgne : ∀ k, k < w9.heap.size → k ≠ mb → w10.heap[k]? = w9.heap[k]? := fun k hk hn => hg10.block k hk (fun e => hn (Option.some.inj e))
  have hFg : ¬ F g := fun hk => by have := HP.out.flt _ hk; have : w1.heap.size ≤ g := hg9; omega
  have hgm : g ≠ mb := fun e => by have := HX.out.1.lt; have : w1.heap.size ≤ g := hg9; omega
  have hkp : Keep (fun k => k = mb) w9 w10 := ⟨hg10.os, hg10.tape, hg10.output, hg10.size, fun k hk hn => hgne k hk hn⟩
  have hp10 := hp9.keep hkp (fun k hf e => HU.out.nm (e ▸ hf)) (fun k e => e ▸ HU.out.m0)
  have hub : w10.heap[u]? = some (.cells #[.pointer (some ⟨h, 0, none⟩), .int .i64 ((last + 1 : Nat) : Int), .map (some mb)] 74 (0, 0)) := (hgne u (Nat.lt_of_lt_of_le HLT.out.1 hB9.size) (fun e => HLT.out.2 e.symm)).trans ((hB9.block u HLT.out.1).trans HB1.out)
  have hud : UdH w0 w10 F u h mb (last + 1) (markI I (last + 1) l) := by
    have hIn : f (last + 1) = none := (HX.out.2.2 (last + 1)).1 (Classical.byContradiction fun hc => by have := HU.out.top _ hc; omega)
    refine ⟨hub, ⟨_, _, ?_, him10, fun k => ?_⟩, HU.out.nu, HU.out.nm, HU.out.u0, HU.out.m0, fun k hk => ?_⟩
    · rw [hIn]; simp; exact HX.out.2.1
    · unfold markI upd
      by_cases e : k = last + 1
      · rw [if_pos e, if_pos e]
        refine ⟨fun h => (by cases h), fun b hb => ?_⟩
        obtain rfl := Option.some.inj hb
        exact ⟨g, cap, rfl, hrow9.block (hgne g hrow9.lt hgm), hFg⟩
      · rw [if_neg e, if_neg e]
        refine ⟨(HX.out.2.2 k).1, fun b hb => ?_⟩
        obtain ⟨g', cap', e1, e2, e3⟩ := (HX.out.2.2 k).2 b hb
        have hg'm : g' ≠ mb := fun e => by
          obtain ⟨cur, h1, -⟩ := e2
          obtain ⟨es, clock, h2⟩ := HX.out.1.isMap
          rw [e, h2] at h1; cases h1
        exact ⟨g', cap', e1, e2.block ((hgne g' (Nat.lt_of_lt_of_le e2.lt hB9.size) hg'm).trans (hB9.block g' e2.lt)), e3⟩
    · unfold markI at hk
      by_cases e : k = last + 1
      · omega
      · rw [if_neg e] at hk; have := HU.out.top _ hk; omega
  have hkk : Keep (fun k => k = u ∨ k = mb) w9 w10 := ⟨hkp.os, hkp.tape, hkp.output, hkp.size, fun k hk' hn => hkp.block k hk' (fun h' => hn (.inr h'))⟩
  have hkq : Keep (fun k => k = u ∨ k = mb) w1 w9 := Keep.of_below hB9
  have HF := Hidden.mk (And.intro hud (And.intro hp10 ((HKP.out.trans hkq (fun _ hk => .inl hk)).trans hkk (fun _ hk => .inl hk))))
  have y1 : w10.cell? ⟨u, 1, none⟩ = some (.int .i64 ((last : Int) + 1)) := by simp [World.cell?, hub]
  clear hud hp10 hub hkp hkk hkq hFg hgm hgne hp9 hB9 him10 hg10 hs10 hrun10 hrow9 hb9 hg9 HX kd
  go_wp2_with fail
  go_ret
  exact ⟨rfl, HF.out⟩
end
end Go.Proofs.YtijcclpnkfmpnaaGreat
/- The region of diff.Diff that appends a change: in whatever order. -/
namespace Go.Proofs.YtijcclpnkfmpnaaGreat
open Go.RowKit

theorem Row.grown {w w' : World} {e g cap : Nat} {l : Bytes} {r : Option Nat} (h : Row w e g cap l) (hg : w.grownBy w' r) (hr : r ≠ some g) : Row w' e g cap l := by
  obtain ⟨cur, h0, h1⟩ := h
  exact ⟨cur, (hg.block g (Array.getElem?_eq_some_iff.1 h0).1 (fun e => hr e.symm)).trans h0, h1⟩
theorem change_info : (Tryz.prog.info? 50).map (fun i => (i.zero, i.size, i.bytes)) = some (some (.agg #[.int .i64 0, .slice none 0 0, .slice none 0 0]), 3, 56) := by kernel_rfl

/-- the region with a number, in a body -/
def findReg (id : Nat) : Code → Option Code
  | .region i ops d => if i = id then some (.region i ops d) else none
  | .seq a b => match findReg id a with
    | some c => some c
    | none => findReg id b
  | .cond _ a b => match findReg id a with
    | some c => some c
    | none => findReg id b
  | .block _ c => findReg id c
  | .loop c => findReg id c
  | .scope c => findReg id c
  | _ => none
noncomputable def diffReg : Code := ((Tryz.f57.body.bind (findReg 12)).getD .skip)

set_option maxRecDepth 100000 in
set_option maxHeartbeats 1000000 in
theorem diff_region (Q : Exit → Act → World → Prop) (p off q off2 n c d i k : Nat) (v : Value) (m : Nat) (xs : List Value) (base : Nat) (a b : Bytes) (w : World) (u2 u3 u4 u5 u9 u10 u11 u12 u13 u14 u15 u16 u17 u18 u19 u20 u21 u22 u23 u24 u25 u26 u27 u28 u29 u30 u31 u32 u33 u34 u35 u36 u37 u38 u39 u40 u41 u42 u43 u44 u45 u46 u47 u48 u49 u50 u51 u52 u53 u54 u55 u56 u57 u58 u59 u60 u61 u62 u63 : Value)
    (han : a.length = n) (hbn : b.length = n) (ha : Rd w (some ⟨p, off, none⟩) a) (hb : Rd w (some ⟨q, off2, none⟩) b) (hik : i < k) (hkn : k ≤ n) (hn : n ≤ 6400) (hkc : k ≤ c) (hkd : k ≤ d) (hci : ¬ c = i) (hdi : ¬ d = i)
    (hown : w.ownsRow base 50 3 v m xs) (hbase : base ≤ w.heap.size) (hm : m ≤ 100000)
    (h : ∀ v' w' g1 c1 g2 c2 (x46 x47 x48 x49 x50 x51 x52 x53 x54 x55 x56 x57 x58 x59 x60 : Value), w'.ownsRow base 50 3 v' (m + 1) (xs ++ [.int .i64 i, .slice (some ⟨g1, 0, none⟩) (k - i) c1, .slice (some ⟨g2, 0, none⟩) (k - i) c2]) →
      w.heap.size ≤ g1 → w.heap.size ≤ g2 → Row w' 5 g1 c1 ((a.drop i).take (k - i)) → Row w' 5 g2 c2 ((b.drop i).take (k - i)) → w.grownBy w' v.ownBlock → Q .normal ⟨#[.slice (some ⟨p, off, none⟩) n c, .slice (some ⟨q, off2, none⟩) n d, u2, u3, u4, u5, v', .int .i64 i, .int .i64 k, u9, u10, u11, u12, u13, u14, u15, u16, u17, u18, u19, u20, u21, u22, u23, u24, u25, u26, u27, u28, u29, u30, u31, u32, u33, u34, u35, u36, u37, u38, u39, u40, u41, u42, u43, u44, u45, x46, x47, x48, x49, x50, x51, x52, x53, x54, x55, x56, x57, x58, x59, x60, u61, u62, u63], []⟩ w') :
    Code.wp Tryz.prog diffReg Q ⟨#[.slice (some ⟨p, off, none⟩) n c, .slice (some ⟨q, off2, none⟩) n d, u2, u3, u4, u5, v, .int .i64 i, .int .i64 k, u9, u10, u11, u12, u13, u14, u15, u16, u17, u18, u19, u20, u21, u22, u23, u24, u25, u26, u27, u28, u29, u30, u31, u32, u33, u34, u35, u36, u37, u38, u39, u40, u41, u42, u43, u44, u45, u46, u47, u48, u49, u50, u51, u52, u53, u54, u55, u56, u57, u58, u59, u60, u61, u62, u63], []⟩ w := by
  obtain ⟨i0, hi0, hz0, hz1, hz2⟩ := info_parts change_info
  have cA : ∀ W, Below w.heap.size w W → Calls Tryz.prog 39 #[.slice (some ⟨p, off + i, none⟩) (k - i) (c - i)] W fun e w' => ∃ g cap, e = .returned (.slice (some ⟨g, 0, none⟩) (k - i) cap) ∧ W.heap.size ≤ g ∧ Row w' 5 g cap ((a.drop i).take (k - i)) ∧ Below W.heap.size W w' := fun W hW =>
    clone_some _ (k - i) _ ((a.drop i).take (k - i)) W (by simp; omega) (by omega) (by have := (ha.below hW).cut i (k - i) (by omega); simpa [Addr.add_lit] using this)
  have cB : ∀ W, Below w.heap.size w W → Calls Tryz.prog 39 #[.slice (some ⟨q, off2 + i, none⟩) (k - i) (d - i)] W fun e w' => ∃ g cap, e = .returned (.slice (some ⟨g, 0, none⟩) (k - i) cap) ∧ W.heap.size ≤ g ∧ Row w' 5 g cap ((b.drop i).take (k - i)) ∧ Below W.heap.size W w' := fun W hW =>
    clone_some _ (k - i) _ ((b.drop i).take (k - i)) W (by simp; omega) (by omega) (by have := (hb.below hW).cut i (k - i) (by omega); simpa [Addr.add_lit] using this)
  have HA := Hidden.mk cA
  have HB := Hidden.mk cB
  have hik' : i ≤ k := by omega
  clear cA cB ha hb han hbn
  conv => arg 2; whnf
  go_region_held3 (fun _ => True) (first | trivial)
    (first
      | (go_at_call 39; refine (HA.out _ (by exact (Below.refl _ _).drew)).mono ?_; rintro e w1 ⟨g1, cap1, rfl, hg1, hrow1, hb1⟩)
      | (go_at_call 39; refine (HB.out w1 (by exact ((Below.refl _ _).drew).trans hb1)).mono ?_; rintro e w2 ⟨g2, cap2, rfl, hg2, hrow2, hb2⟩; have hB2 : Below w.heap.size w w2 := (((Below.refl _ _).drew).trans hb1).trans (hb2.mono hb1.size))
      | (refine step_append_lies _ (by rfl) _ _ _ (by rfl) base 50 i0 _ 3 56 Tryz.underlying46 hi0 hz0 hz1 hz2 rfl (by omega) v m xs (by rfl) (own_below hown (hB2.alloc hB2.size _))
          ⟨w2.heap.size, 0, none⟩ 1 1 [.int .i64 i, .slice (some ⟨g1, 0, none⟩) (k - i) cap1, .slice (some ⟨g2, 0, none⟩) (k - i) cap2] (by rfl) (by rfl) (World.news_of_block (cs := #[.int .i64 i, .slice (some ⟨g1, 0, none⟩) (k - i) cap1, .slice (some ⟨g2, 0, none⟩) (k - i) cap2]) (t := 50) (fr := (0, 0)) (heap_alloc_new w2 _)) (by simp [Value.oneCell'])
          (by omega) (by simp only [maxLen]; omega) (by omega) (by simp; have := hB2.size; omega) (w2.heap.size + 1) (by simp) ?_; intro gg cap w3 hown3 hgrow hat hlt))
  have hal : Below w2.heap.size w2 (w2.alloc (.cells #[.int .i64 i, .slice (some ⟨g1, 0, none⟩) (k - i) cap1, .slice (some ⟨g2, 0, none⟩) (k - i) cap2] 50)) := (Below.refl _ _).alloc (Nat.le_refl _) _
  have hg1' : w.heap.size ≤ g1 := hg1
  have hg2' : w.heap.size ≤ g2 := Nat.le_trans hb1.size hg2
  have hne1 : v.ownBlock ≠ some g1 := fun e => by have := (hown.lt _ e).2; omega
  have hne2 : v.ownBlock ≠ some g2 := fun e => by have := (hown.lt _ e).2; omega
  refine h _ _ g1 cap1 g2 cap2 _ _ _ _ _ _ _ _ _ _ _ _ _ _ _ hown3 hg1' hg2' (((hrow1.below hb2 hrow1.lt).below hal (Nat.lt_of_lt_of_le hrow1.lt hb2.size)).grown hgrow hne1) ((hrow2.below hal hrow2.lt).grown hgrow hne2) (grown_trans' (hB2.trans (hal.mono hB2.size)) hgrow)
end Go.Proofs.YtijcclpnkfmpnaaGreat
/- The contract of diff.Diff. -/
namespace Go.Proofs.YtijcclpnkfmpnaaGreat
open Go.RowKit

/-- one change, as it lies in a row of the call's own -/
def ChAt (w : World) (base : Nat) (xs : List Value) (i : Nat) (c : Chg) : Prop :=
  ∃ go co gn cn, base ≤ go ∧ base ≤ gn ∧ xs[3 * i]? = some (.int .i64 c.at_) ∧ xs[3 * i + 1]? = some (.slice (some ⟨go, 0, none⟩) c.old.length co) ∧ xs[3 * i + 2]? = some (.slice (some ⟨gn, 0, none⟩) c.new.length cn) ∧
    Row w 5 go co c.old ∧ Row w 5 gn cn c.new
/-- the slice v is the call's own, and has the changes L -/
def OwnC (w : World) (base : Nat) (v : Value) (L : List Chg) : Prop :=
  ∃ xs, w.ownsRow base 50 3 v L.length xs ∧ ∀ i (h : i < L.length), ChAt w base xs i L[i]

theorem own_row_ne {w : World} {base : Nat} {e e' : TypeId} {size : Nat} {v : Value} {n : Nat} {xs : List Value} {g cap : Nat} {l : Bytes} (h : w.ownsRow base e size v n xs) (hr : Row w e' g cap l) (hne : e ≠ e') : v.ownBlock ≠ some g := by
  rcases h.2 with ⟨rfl, _⟩ | ⟨g', cap', cur, rfl, _, hh, _⟩
  · simp [Value.ownBlock]
  · intro he
    have : g' = g := by simpa [Value.ownBlock] using he
    subst this
    obtain ⟨cur', h0, _⟩ := hr
    rw [hh] at h0
    injection h0 with h0
    injection h0 with _ ht
    exact hne ht
theorem OwnC.snoc {w w' : World} {base : Nat} {v v' : Value} {L : List Chg} {xs : List Value} {at_ : Int} {g1 c1 g2 c2 n m : Nat} {old new : Bytes} (h : w.ownsRow base 50 3 v L.length xs) (hat : ∀ i (h : i < L.length), ChAt w base xs i L[i])
    (h' : w'.ownsRow base 50 3 v' (L.length + 1) (xs ++ [.int .i64 at_, .slice (some ⟨g1, 0, none⟩) n c1, .slice (some ⟨g2, 0, none⟩) m c2])) (hg : w.grownBy w' v.ownBlock)
    (hr1 : Row w' 5 g1 c1 old) (hr2 : Row w' 5 g2 c2 new) (ho : old.length = n) (hn : new.length = m) (hb1 : base ≤ g1) (hb2 : base ≤ g2) : OwnC w' base v' (L ++ [⟨at_, old, new⟩]) := by
  subst ho hn
  have hlen : xs.length = L.length * 3 := h.1
  refine ⟨_, by simpa using h', fun i hi => ?_⟩
  rw [List.length_append, List.length_singleton] at hi
  by_cases hlt : i < L.length
  · obtain ⟨go, co, gn, cn, h1, h2, e0, e1, e2, r1, r2⟩ := hat i hlt
    rw [List.getElem_append_left hlt]
    refine ⟨go, co, gn, cn, h1, h2, ?_, ?_, ?_, r1.grown hg (own_row_ne h r1 (by decide)), r2.grown hg (own_row_ne h r2 (by decide))⟩
    · rw [List.getElem?_append_left (by omega)]; exact e0
    · rw [List.getElem?_append_left (by omega)]; exact e1
    · rw [List.getElem?_append_left (by omega)]; exact e2
  · obtain rfl : i = L.length := by omega
    rw [List.getElem_append_right (Nat.le_refl _)]
    refine ⟨g1, c1, g2, c2, hb1, hb2, ?_, ?_, ?_, by simpa using hr1, by simpa using hr2⟩
    · rw [List.getElem?_append_right (by omega), show 3 * L.length - xs.length = 0 from by omega]; simp
    · rw [List.getElem?_append_right (by omega), show 3 * L.length + 1 - xs.length = 1 from by omega]; simp
    · rw [List.getElem?_append_right (by omega), show 3 * L.length + 2 - xs.length = 2 from by omega]; simp

theorem diff_e3 (A B : Option Addr) (n m c d : Nat) (w : World) (h : n ≠ m) :
    Calls Tryz.prog 57 #[.slice A n c, .slice B m d] w fun e w' => e = .returned (.tuple #[.slice none 0 0, .iface 76 (.int .i64 3)]) ∧ w = w' := by
  have h' : ((n : Int) != (m : Int)) = true := by simp; omega
  clear h
  go_enter Tryz.func57, Tryz.ntmps57
  go_wp2
  go_ret2
  exact ⟨rfl, rfl⟩
theorem diff_e4 (A B : Option Addr) (n c d : Nat) (w : World) (h : 6400 < n) :
    Calls Tryz.prog 57 #[.slice A n c, .slice B n d] w fun e w' => e = .returned (.tuple #[.slice none 0 0, .iface 76 (.int .i64 4)]) ∧ w = w' := by
  go_enter Tryz.func57, Tryz.ntmps57
  go_wp2
  go_ret2
  exact ⟨rfl, rfl⟩

set_option maxRecDepth 100000 in
theorem diff_ok (A B : Option Addr) (n c d : Nat) (a b : Bytes) (w : World) (hn : a.length = n) (hm : b.length = n) (hle : n ≤ 6400) (hc : n ≤ c) (hd : n ≤ d) (ha : Rd w A a) (hb : Rd w B b) :
    Calls Tryz.prog 57 #[.slice A n c, .slice B n d] w fun e w' => ∃ v, e = .returned (.tuple #[v, .nilIface]) ∧ OwnC w' w.heap.size v (diffL a b) ∧ Below w.heap.size w w' := by
  subst hn
  obtain ⟨i0, hi0, hz0, hz1, hz2⟩ := info_parts change_info
  go_enter Tryz.func57, Tryz.ntmps57
  go_wp2_with fail
  go_loopw [6, 7] (fun v i wr => ∃ (k : Nat) (L : List Chg), k ≤ a.length + 1 ∧ i = .int .i64 k ∧ Below w.heap.size w wr ∧ OwnC wr w.heap.size v L ∧ L.length ≤ k ∧ Hidden (L ++ diffF a b (a.length - k) k = diffL a b)) (fun _ i _ => a.length + 1 - (intOf i).toNat)
  case atStart => exact ⟨0, [], by omega, rfl, Below.refl _ _, ⟨[], World.ownsRow_nil _ _ _ _, by simp⟩, by simp, ⟨by simp [diffL]⟩⟩
  case round =>
    obtain ⟨i, L, hi, rfl, hbel, hown, hLi, HL⟩ := hrel
    by_cases hlt : i < a.length
    · have hrl := runAt_le a b i hm.symm (by omega)
      have hstep := diffF_step a b i hlt
      obtain ⟨wo, rfl⟩ : ∃ wo : World, wo = wr := ⟨_, rfl⟩
      have ha1 := ha.below hbel
      have hb1 := hb.below hbel
      obtain ⟨p, off, rfl, _⟩ := ha1 i hlt
      obtain ⟨q, off2, rfl, _⟩ := hb1 i (by omega)
      have HS := Hidden.mk hstep
      have HI := Hidden.mk hi
      clear hstep
      go_wp2_with fail
      go_loopw [8] (fun kk w2 => (∃ nq, w2 = wo.drewN nq) ∧ ∃ k : Nat, i ≤ k ∧ k ≤ a.length ∧ kk = .int .i64 k ∧ Hidden (∀ j, i ≤ j → j < k → a[j]? ≠ b[j]?)) (fun kk _ => a.length - (intOf kk).toNat)
      case atStart => exact ⟨⟨0, rfl⟩, i, by omega, by omega, rfl, ⟨fun j h1 h2 => by omega⟩⟩
      case round =>
        obtain ⟨⟨nq, rfl⟩, k, hik, hk, rfl, hne⟩ := hrel
        by_cases hk2 : k < a.length
        · have hcp := ha1.at_ k hk2
          have hcq := hb1.at_ k (by omega)
          by_cases he : a[k] = b[k]
          · have hbq : ((a[k].toNat : Int) != (b[k].toNat : Int)) = false := by simp [he]
            have HR : Hidden (runAt a b i = k - i) := ⟨runAt_at a b i k hm.symm hik hk hne.out (.inr (by rw [List.getElem?_eq_getElem hk2, List.getElem?_eq_getElem (by omega), he]))⟩
            clear hne
            go_wp2_with fail
            go_quiet (fail)
            by_cases hki : i < k
            · obtain ⟨xs, hxs, hat⟩ := hown
              go_wp2_with fail
              refine diff_region _ p off q off2 a.length c d i k u6 L.length xs w.heap.size a b _ _ _ _ _ _ _ _ _ _ _ _ _ _ _ _ _ _ _ _ _ _ _ _ _ _ _ _ _ _ _ _ _ _ _ _ _ _ _ _ _ _ _ _ _ _ _ _ _ _ _ _ _ _ _ _ _ _ _ _ rfl hm ha1 hb1 hki hk hle (by omega) (by omega) (by omega) (by omega) hxs hbel.size (by omega) ?_
              intro v' w3 g1 c1 g2 c2 x46 x47 x48 x49 x50 x51 x52 x53 x54 x55 x56 x57 x58 x59 x60 hown3 hg1 hg2 hrow1 hrow2 hgrow
              have hrun := HR.out
              have hst := HS.out
              rw [hrun, if_pos (by omega), show i + (k - i) + 1 = k + 1 from by omega] at hst
              have HL2 : Hidden ((L ++ [⟨i, (a.drop i).take (k - i), (b.drop i).take (k - i)⟩]) ++ diffF a b (a.length - (k + 1)) (k + 1) = diffL a b) := ⟨by rw [List.append_assoc, ← hst]; exact HL.out⟩
              have hOC : OwnC w3 w.heap.size v' (L ++ [⟨i, (a.drop i).take (k - i), (b.drop i).take (k - i)⟩]) := OwnC.snoc (w := wo.drewN _) hxs hat hown3 hgrow hrow1 hrow2 (by simp; omega) (by simp; omega) (Nat.le_trans hbel.size hg1) (Nat.le_trans hbel.size hg2)
              have hB3 : Below w.heap.size w w3 := hbel.trans ((below_drewN (Below.refl _ _) _).grown hgrow hbel.size (fun q hq => (hxs.lt q hq).1))
              clear hrun hst HR HS HL hgrow hown3
              go_wp2_with fail
              go_roundw
              case rel => exact ⟨k + 1, _, by omega, by go_num, hB3, hOC, by simp; omega, HL2⟩
              case measure => simp [intOf]; omega
            · obtain rfl : k = i := by omega
              have hrun : runAt a b k = 0 := by have := HR.out; omega
              have hst := HS.out
              rw [hrun, if_neg (by omega), show k + 0 + 1 = k + 1 from by omega, List.nil_append] at hst
              have HL2 : Hidden (L ++ diffF a b (a.length - (k + 1)) (k + 1) = diffL a b) := ⟨by rw [← hst]; exact HL.out⟩
              have hOC : ∀ N, OwnC (wo.drewN N) w.heap.size u6 L := fun _ => hown
              clear hrun hst HR HS HL
              go_wp2_with fail
              go_roundw
              case rel => exact ⟨k + 1, L, by omega, by go_num, below_drewN hbel _, hOC _, by omega, HL2⟩
              case measure => simp [intOf]; omega
          · have hbq : ((a[k].toNat : Int) != (b[k].toNat : Int)) = true := by
              simp only [bne_iff_ne, ne_eq]; intro h; apply he; rw [← UInt8.toNat_inj]; omega
            have hnk : Hidden (∀ j, i ≤ j → j < k + 1 → a[j]? ≠ b[j]?) := ⟨fun j h1 h2 => by
              rcases Nat.lt_or_ge j k with h | h
              · exact hne.out j h1 h
              · obtain rfl : j = k := by omega
                rw [List.getElem?_eq_getElem hk2, List.getElem?_eq_getElem (by omega)]
                simpa using he⟩
            clear he hne
            go_wp2_with fail
            go_quiet (fail)
            go_wp2_with fail
            go_roundw
            case rel => exact ⟨⟨_, rfl⟩, k + 1, by omega, by omega, by go_num, hnk⟩
            case measure => simp [intOf]; omega
        · have hk2' : decide ((k : Int) < a.length) = false := by simp; omega
          have HR : Hidden (runAt a b i = k - i) := ⟨runAt_at a b i k hm.symm hik hk hne.out (.inl (by omega))⟩
          clear hne
          go_wp2_with fail
          go_quiet (fail)
          by_cases hki : i < k
          · obtain ⟨xs, hxs, hat⟩ := hown
            go_wp2_with fail
            refine diff_region _ p off q off2 a.length c d i k u6 L.length xs w.heap.size a b _ _ _ _ _ _ _ _ _ _ _ _ _ _ _ _ _ _ _ _ _ _ _ _ _ _ _ _ _ _ _ _ _ _ _ _ _ _ _ _ _ _ _ _ _ _ _ _ _ _ _ _ _ _ _ _ _ _ _ _ rfl hm ha1 hb1 hki hk hle (by omega) (by omega) (by omega) (by omega) hxs hbel.size (by omega) ?_
            intro v' w3 g1 c1 g2 c2 x46 x47 x48 x49 x50 x51 x52 x53 x54 x55 x56 x57 x58 x59 x60 hown3 hg1 hg2 hrow1 hrow2 hgrow
            have hrun := HR.out
            have hst := HS.out
            rw [hrun, if_pos (by omega), show i + (k - i) + 1 = k + 1 from by omega] at hst
            have HL2 : Hidden ((L ++ [⟨i, (a.drop i).take (k - i), (b.drop i).take (k - i)⟩]) ++ diffF a b (a.length - (k + 1)) (k + 1) = diffL a b) := ⟨by rw [List.append_assoc, ← hst]; exact HL.out⟩
            have hOC : OwnC w3 w.heap.size v' (L ++ [⟨i, (a.drop i).take (k - i), (b.drop i).take (k - i)⟩]) := OwnC.snoc (w := wo.drewN _) hxs hat hown3 hgrow hrow1 hrow2 (by simp; omega) (by simp; omega) (Nat.le_trans hbel.size hg1) (Nat.le_trans hbel.size hg2)
            have hB3 : Below w.heap.size w w3 := hbel.trans ((below_drewN (Below.refl _ _) _).grown hgrow hbel.size (fun q hq => (hxs.lt q hq).1))
            clear hrun hst HR HS HL hgrow hown3
            go_wp2_with fail
            go_roundw
            case rel => exact ⟨k + 1, _, by omega, by go_num, hB3, hOC, by simp; omega, HL2⟩
            case measure => simp [intOf]; omega
          · obtain rfl : k = i := by omega
            have hrun : runAt a b k = 0 := by have := HR.out; omega
            have hst := HS.out
            rw [hrun, if_neg (by omega), show k + 0 + 1 = k + 1 from by omega, List.nil_append] at hst
            have HL2 : Hidden (L ++ diffF a b (a.length - (k + 1)) (k + 1) = diffL a b) := ⟨by rw [← hst]; exact HL.out⟩
            have hOC : ∀ N, OwnC (wo.drewN N) w.heap.size u6 L := fun _ => hown
            clear hrun hst HR HS HL
            go_wp2_with fail
            go_roundw
            case rel => exact ⟨k + 1, L, by omega, by go_num, below_drewN hbel _, hOC _, by omega, HL2⟩
            case measure => simp [intOf]; omega
    · go_wp2_with fail
      go_ret2
      have hfin : Hidden (L = diffL a b) := ⟨by
        have := HL.out
        rw [show a.length - i = 0 from by omega] at this
        simpa [diffF] using this⟩
      exact ⟨_, rfl, by rw [← hfin.out]; exact hown, hbel⟩
end Go.Proofs.YtijcclpnkfmpnaaGreat
/- Package undo: Back, Changes, Marks. -/
namespace Go.Proofs.YtijcclpnkfmpnaaGreat
open Go.RowKit Go.Maps Go.ChangeMaps Go.Shelf

def litI : Lit → Int
  | .int _ q => q
  | _ => 0
def pdM (mark : Int) (l : Lit) (_ : DataW Value) : Bool := decide (mark < litI l)
theorem same_nat {l : Lit} {k : Nat} (h : l.sameKey (natL k) = true) : l = natL k := by
  unfold natL at *
  cases l <;> simp [Lit.sameKey] at h
  obtain ⟨rfl, rfl⟩ := h; rfl
theorem del_has {f : Nat → Option Value} {es : List (Lit × DataW Value)} (mark : Int) (hh : Has natL (.map es) f) : Has natL (Lib.deleteFuncD (pdM mark) (.map es)) (fun k => if mark < (k : Int) then none else f k) := by
  have hkeep : ∀ k : Nat, ¬ mark < (k : Int) → ∀ p : Lit × DataW Value, p.1.sameKey (natL k) = true → (!pdM mark p.1 p.2) = true := fun k hk p hp => by
    rw [same_nat hp]; unfold pdM litI natL; simpa using hk
  refine ⟨fun k => ?_, fun l hl => ?_⟩
  · by_cases hk : mark < (k : Int)
    · simp only [if_pos hk]
      refine ⟨fun _ => ?_, fun v hv => (by cases hv)⟩
      unfold Lib.deleteFuncD
      rw [has_eq, List.any_eq_false]
      intro p hp hs
      have h1 := (List.mem_filter.1 hp).2
      rw [same_nat hs] at h1
      unfold pdM litI natL at h1
      simp at h1; omega
    · simp only [if_neg hk]
      have hf := find_filter_keep (f := fun p : Lit × DataW Value => p.1.sameKey (natL k)) (g := fun p => !pdM mark p.1 p.2) (hkeep k hk) es
      have ha := any_filter_keep (f := fun p : Lit × DataW Value => p.1.sameKey (natL k)) (g := fun p => !pdM mark p.1 p.2) (hkeep k hk) es
      refine ⟨fun h0 => ?_, fun v hv => ⟨?_, fun z => ?_⟩⟩
      · have := (hh.1 k).1 h0
        unfold Lib.deleteFuncD
        rw [has_eq] at this ⊢
        rw [ha]; exact this
      · have := ((hh.1 k).2 v hv).1
        unfold Lib.deleteFuncD
        rw [has_eq] at this ⊢
        rw [ha]; exact this
      · have := ((hh.1 k).2 v hv).2 z
        unfold Lib.deleteFuncD DataW.atKey
        unfold DataW.atKey at this
        simp only at this ⊢
        rw [hf]; exact this
  · unfold Lib.deleteFuncD at hl
    rw [has_eq, List.any_eq_true] at hl
    obtain ⟨p, hp, hs⟩ := hl
    obtain ⟨hp1, hp2⟩ := List.mem_filter.1 hp
    obtain ⟨k, rfl, hk⟩ := hh.2 l (by rw [has_eq, List.any_eq_true]; exact ⟨p, hp1, hs⟩)
    refine ⟨k, rfl, ?_⟩
    rw [same_nat hs] at hp2
    unfold pdM litI natL at hp2
    have : ¬ mark < (k : Int) := by simpa using hp2
    simp only [if_neg this]; exact hk
theorem closeB (mark x : Int) (v : Value) (bx : Nat) (W : World) (h1 : W.cell? ⟨bx, 0, none⟩ = some (.int .i64 mark)) :
    Calls Tryz.prog 38 #[.int .i64 x, v, .pointer (some ⟨bx, 0, none⟩)] W fun e w' => e = .returned (.bool (decide (mark < x))) ∧ W = w' := by
  go_enter Tryz.func38, Tryz.ntmps38
  go_wp2_with fail
  go_ret
  exact ⟨rfl, rfl⟩
/-- the marks behind one are struck -/
theorem del_call {w : World} {mb cnt bx : Nat} {f : Nat → Option Value} (mark : Int) (h : IM Tryz.prog 3 natL w mb f cnt) (hb : w.heap[bx]? = some (.cells #[.int .i64 mark] 3 (0, 0))) :
    Calls Tryz.prog 37 #[.map (some mb), .func (.func 38) #[] #[.pointer (some ⟨bx, 0, none⟩)]] w fun e w' => e = .returned (.tuple #[]) ∧ (∃ cnt', cnt' ≤ cnt ∧ IM Tryz.prog 3 natL w' mb (fun k => if mark < (k : Int) then none else f k) cnt') ∧ w.grownBy w' (some mb) := by
  have hne : bx ≠ mb := fun e => by
    obtain ⟨es, clock, h2⟩ := h.isMap
    rw [e, h2] at hb; cases hb
  obtain ⟨D, hown, hs, hh⟩ := h
  have hc := AnyDf.maps_DeleteFunc mapDel int_keyed heldR (pdM mark) 38 #[.pointer (some ⟨bx, 0, none⟩)] mb cnt D w (enters_of Tryz.func38 (by kernel_rfl) rfl) hown (fun W key val kl yd yp hg hk hv => by
    obtain ⟨x, hx, hl, _⟩ := Maps.keyOf_i64 Tryz.underlying3 hk
    have hW : W.heap[bx]? = w.heap[bx]? := hg.block bx (Array.getElem?_eq_some_iff.1 hb).1 (fun e => hne (Option.some.inj e))
    have hcl : W.cell? ⟨bx, 0, none⟩ = some (.int .i64 mark) := by simp [World.cell?, hW, hb]
    rw [hx, hl]
    exact (closeB mark x val bx W hcl).mono fun e w' ⟨h1, h2⟩ => ⟨h1, h2 ▸ World.grownBy.refl _ _⟩)
  change Calls Tryz.prog 37 _ _ _ at hc
  obtain ⟨es, hD⟩ : ∃ es, D = .map es := by
    obtain ⟨L, hD, _⟩ := hown.entries int_keyed
    exact ⟨L, hD⟩
  subst hD
  refine hc.mono ?_
  rintro e w' ⟨rfl, ho, hg⟩
  refine ⟨rfl, ⟨_, ?_, _, ownsMap_tight ho, rfl, del_has mark hh⟩, hg⟩
  rw [← hs, size_eq]
  unfold Lib.deleteFuncD
  rw [size_eq]
  exact List.length_filter_le _ _
/-- the marks up to one -/
def cutI (I : Nat → Option Bytes) (x : Int) : Nat → Option Bytes := fun k => if x < (k : Int) then none else I k
/-- the image of a mark, if it is one -/
def Ik (I : Nat → Option Bytes) (x : Int) : Option Bytes := if x < 0 then none else I x.toNat
theorem int_keyZ {x : Int} (h0 : -9223372036854775808 ≤ x) (h1 : x ≤ 9223372036854775807) : keyOf Tryz.prog 3 (.int .i64 x) = some (.int .i64 x) := keyOf_int_mk Tryz.underlying3 (by
  have : (-9223372036854775808 : Int) ≤ x ∧ x ≤ 9223372036854775807 := by omega
  simpa [Lit.wf, IntKind.min, IntKind.max, IntKind.bits, IntKind.signed] using this)
theorem ownC_base {w : World} {b b' : Nat} {v : Value} {L : List Chg} (h : OwnC w b v L) (hb : b' ≤ b) : OwnC w b' v L := by
  obtain ⟨xs, h1, h2⟩ := h
  refine ⟨xs, ownsRow_base_a h1 hb, fun i hi => ?_⟩
  obtain ⟨go, co, gn, cn, e1, e2, e3⟩ := h2 i hi
  exact ⟨go, co, gn, cn, Nat.le_trans hb e1, Nat.le_trans hb e2, e3⟩
section
variable {w0 w w' : World} {F F' : Nat → Prop} {h u mb last : Nat} {l : Bytes} {I : Nat → Option Bytes}
theorem UdH.look (hu : UdH w0 w F u h mb last I) (x : Int) (h0 : -9223372036854775808 ≤ x) (h1 : x ≤ 9223372036854775807) :
    (Ik I x = none → (Instr.lookup 72 (.map (some mb)) (.int .i64 x) true).run Tryz.prog w = .ok (.tuple #[.slice none 0 0, .bool false]) w) ∧
    (∀ b, Ik I x = some b → ∃ g cap, (Instr.lookup 72 (.map (some mb)) (.int .i64 x) true).run Tryz.prog w = .ok (.tuple #[.slice (some ⟨g, 0, none⟩) b.length cap, .bool true]) w ∧ Row w 5 g cap b ∧ ¬ F g) := by
  obtain ⟨f, cnt, hc, him, hf⟩ := hu.mp
  unfold Ik
  by_cases hn : x < 0
  · simp only [if_pos hn]
    refine ⟨fun _ => ?_, fun b hb => (by cases hb)⟩
    obtain ⟨D, hown, _, hh⟩ := him
    have hz : Maps.has D (.int .i64 x) = false := by
      cases hq : Maps.has D (.int .i64 x) with
      | false => rfl
      | true =>
        obtain ⟨k, e, _⟩ := hh.2 _ hq
        unfold natL at e; injection e with _ e; omega
    obtain ⟨v', ps, hrun, hv⟩ := hown.look_ok int_keyed (t := 72) Tryz.underlying72 (zero_bytes w) (zd := .held (.slice none 0 0)) (zp := []) rfl (int_keyZ h0 h1)
    rw [atKey_of_not_has hz, heldR] at hv
    simp only [Option.some.injEq, Prod.mk.injEq, DataW.held.injEq] at hv
    rw [hz, hv.1] at hrun
    exact hrun
  · obtain ⟨k, rfl⟩ := Int.eq_ofNat_of_zero_le (show 0 ≤ x by omega)
    simp only [if_neg hn, Int.toNat_natCast]
    refine ⟨fun h0' => (him.look_none int_keyed (T := 72) Tryz.underlying72 (zero_bytes w) (int_keyZ h0 h1) ((hf k).1 h0')).1, fun b hb => ?_⟩
    obtain ⟨g, cap, e1, e2, e3⟩ := (hf k).2 b hb
    exact ⟨g, cap, (him.look_some int_keyed (T := 72) Tryz.underlying72 (zero_bytes w) (int_keyZ h0 h1) e1).1, e2, e3⟩
set_option maxRecDepth 100000 in
theorem uback_no (x : Int) (_hp : Hp w0 w F h l) (hu : UdH w0 w F u h mb last I) (h0 : -9223372036854775808 ≤ x) (h1 : x ≤ 9223372036854775807) (hI : Ik I x = none) :
    Calls Tryz.prog 9 #[.pointer (some ⟨u, 0, none⟩), .int .i64 x] w fun e w' => e = .returned (.iface 76 (.int .i64 5)) ∧ Below w.heap.size w w' := by
  have hal := (Below.refl w.heap.size w).alloc (Nat.le_refl _) (.cells #[.int .i64 x] 3)
  have hu1 := hu.below hal
  have hlk := ((hu1.below (Below.refl _ _).drew).look x h0 h1).1 hI
  obtain ⟨c0, c1, c2, -⟩ := hu1.cells
  have b0 : (w.alloc (.cells #[.int .i64 x] 3)).cell? ⟨w.heap.size, 0, none⟩ = some (.int .i64 x) := by simp only [World.cell?]; rw [heap_alloc_new w _]; rfl
  have HAL := Hidden.mk hal
  clear _hp hu hu1 hal hI h0 h1
  go_enter Tryz.func9, Tryz.ntmps9
  go_upto_region 1 with (fail)
  generalize w.alloc (.cells #[.int .i64 x] 3) = w1 at *
  generalize hbx : w.heap.size = bx at *
  have HBX := Hidden.mk hbx
  clear hbx
  have KS := Hidden.mk (And.intro c2 (And.intro b0 hlk))
  clear c0 c1 c2 b0 hlk
  go_region_held3 (fun W => W.cell? ⟨u, 2, none⟩ = some (.map (some mb)) ∧ W.cell? ⟨bx, 0, none⟩ = some (.int .i64 x) ∧ (Instr.lookup 72 (.map (some mb)) (.int .i64 x) true).run Tryz.prog W = .ok (.tuple #[.slice none 0 0, .bool false]) W) (first | exact KS.out)
    (first | go_simp)
  have HF := Hidden.mk (HAL.out.drew)
  rw [← HBX.out] at HF
  go_wp2_with fail
  go_ret
  exact ⟨rfl, HF.out⟩
set_option maxRecDepth 100000 in
theorem uback_ok (x : Int) (b : Bytes) (hp : Hp w0 w F h l) (hu : UdH w0 w F u h mb last I) (h0 : -9223372036854775808 ≤ x) (h1 : x ≤ 9223372036854775807) (hI : Ik I x = some b) (hr : rightB b.length = true) :
    Calls Tryz.prog 9 #[.pointer (some ⟨u, 0, none⟩), .int .i64 x] w fun e w' => e = .returned .nilIface ∧ ∃ F', UdH w0 w' F' u h mb last (cutI I x) ∧ HpM w0 w w' (fun k => F k ∨ k = mb) F' h b ∧ Hp w0 w' F' h b := by
  have hal := (Below.refl w.heap.size w).alloc (Nat.le_refl _) (.cells #[.int .i64 x] 3)
  have hu1 := hu.below hal
  have hp1 := hp.below hal
  obtain ⟨g, cap, hlk, hrow, hFg⟩ := ((hu1.below (Below.refl _ _).drew).look x h0 h1).2 b hI
  obtain ⟨c0, c1, c2, -⟩ := hu1.cells
  have hbk := heap_alloc_new w (.cells #[.int .i64 x] 3)
  have b0 : (w.alloc (.cells #[.int .i64 x] 3)).cell? ⟨w.heap.size, 0, none⟩ = some (.int .i64 x) := by simp only [World.cell?]; rw [hbk]; rfl
  have hbF : ¬ F w.heap.size := fun hk => by have := hp.flt _ hk; omega
  have HW := Hidden.mk (And.intro hu1 (And.intro hp1 (And.intro hbk hbF)))
  have HP := Hidden.mk (hp.same hal)
  have HRO := Hidden.mk hrow
  have HR := Hidden.mk hr
  clear hp hu hu1 hp1 hal hI h0 h1 hrow hFg hbk hbF hr
  go_enter Tryz.func9, Tryz.ntmps9
  go_upto_region 1 with (fail)
  generalize w.alloc (.cells #[.int .i64 x] 3) = w1 at *
  generalize hbx : w.heap.size = bx at *
  have HBX := Hidden.mk hbx
  clear hbx
  have KS := Hidden.mk (And.intro c2 (And.intro b0 hlk))
  clear c0 c1 c2 b0 hlk
  go_region_held3 (fun W => W.cell? ⟨u, 2, none⟩ = some (.map (some mb)) ∧ W.cell? ⟨bx, 0, none⟩ = some (.int .i64 x) ∧ (Instr.lookup 72 (.map (some mb)) (.int .i64 x) true).run Tryz.prog W = .ok (.tuple #[.slice (some ⟨g, 0, none⟩) b.length cap, .bool true]) W) (first | exact KS.out)
    (first | go_simp)
  have HW2 : Hidden (UdH w0 w1.drew F u h mb last I ∧ HpM w0 w w1.drew F F h l ∧ w1.drew.heap[bx]? = some (.cells #[.int .i64 x] 3 (0, 0)) ∧ ¬ F bx ∧ Row w1.drew 5 g cap b) := ⟨HW.out.1.keep (fun _ _ _ => rfl) (fun _ hk => .inl hk), HP.out.trans (HP.out.hp.same (Below.refl _ _).drew), HW.out.2.2.1, HW.out.2.2.2, HRO.out⟩
  clear HW HP HRO
  generalize w1.drew = w2 at *
  obtain ⟨c0, c1, c2, -⟩ := HW2.out.1.cells
  have HRS := Hidden.mk (hreset_ok g cap b HW2.out.2.1.hp HR.out HW2.out.2.2.2.2.rd)
  go_wp2_with fail
  refine HRS.out.mono ?_
  rintro e w3 ⟨rfl, F3, hm3⟩
  have hu3 := HW2.out.1.moved hm3
  have hb3 := (hm3.kp.block bx (Array.getElem?_eq_some_iff.1 HW2.out.2.2.1).1 HW2.out.2.2.2.1).trans HW2.out.2.2.1
  obtain ⟨d0, d1, d2, -⟩ := hu3.cells
  have HM3 := Hidden.mk (HW2.out.2.1.trans hm3)
  have HU3 := Hidden.mk hu3
  have HB3 := Hidden.mk hb3
  obtain ⟨f, cnt, hc, him, hf⟩ := hu3.mp
  have HX := Hidden.mk (And.intro hc (And.intro him hf))
  have HDL := Hidden.mk (del_call x him hb3)
  clear c0 c1 c2 HRS hm3 hu3 hb3 him hf hc HW2
  go_wp2_with fail
  refine HDL.out.mono ?_
  rintro e w4 ⟨rfl, ⟨cnt', hc', him4⟩, hg4⟩
  have hk4 : ∀ k, k < w3.heap.size → k ≠ mb → w4.heap[k]? = w3.heap[k]? := fun k hk hn => hg4.block k hk (fun e => hn (Option.some.inj e))
  have hkp : Keep (fun k => k = mb) w3 w4 := ⟨hg4.os, hg4.tape, hg4.output, hg4.size, fun k hk hn => hk4 k hk hn⟩
  have hp4 := HM3.out.hp.keep hkp (fun k hf e => HU3.out.nm (e ▸ hf)) (fun k e => e ▸ HU3.out.m0)
  have hne : u ≠ mb := fun e => by
    obtain ⟨es, clock, h2⟩ := HX.out.2.1.isMap
    have := HU3.out.blk
    rw [e, h2] at this; cases this
  have hU4 : UdH w0 w4 F3 u h mb last (fun k => if x < (k : Int) then none else I k) := by
    refine ⟨(hk4 u HU3.out.lt.1 hne).trans HU3.out.blk, ⟨_, cnt', Nat.le_trans hc' HX.out.1, him4, fun k => ?_⟩, HU3.out.nu, HU3.out.nm, HU3.out.u0, HU3.out.m0, fun k hk => ?_⟩
    · by_cases hxk : x < (k : Int)
      · simp only [if_pos hxk]; exact ⟨fun _ => trivial, fun b hb => (by cases hb)⟩
      · simp only [if_neg hxk]
        refine ⟨(HX.out.2.2 k).1, fun b hb => ?_⟩
        obtain ⟨g', cap', e1, e2, e3⟩ := (HX.out.2.2 k).2 b hb
        have hg'm : g' ≠ mb := fun e => by
          obtain ⟨cur, h1, -⟩ := e2
          obtain ⟨es, clock, h2⟩ := HX.out.2.1.isMap
          rw [e, h2] at h1; cases h1
        exact ⟨g', cap', e1, e2.block (hk4 g' e2.lt hg'm), e3⟩
    · by_cases hxk : x < (k : Int)
      · simp only [if_pos hxk] at hk; exact absurd rfl hk
      · simp only [if_neg hxk] at hk; exact HU3.out.top k hk
  have hKP : Keep (fun k => F k ∨ k = mb) w w4 := (⟨HM3.out.kp.os, HM3.out.kp.tape, HM3.out.kp.output, HM3.out.kp.size, fun k hk' hn => HM3.out.kp.block k hk' (fun h' => hn (.inl h'))⟩ : Keep (fun k => F k ∨ k = mb) w w3).trans hkp (fun k e => .inl (.inr e))
  have HF := Hidden.mk (And.intro hU4 (And.intro (HpM.mk (F := fun k => F k ∨ k = mb) hp4 hKP (fun k hk => (HM3.out.nw k hk).imp .inl id)) hp4))
  clear hU4 hKP hp4 hkp hk4 hg4 him4 HX HDL
  go_wp2_with fail
  go_ret
  exact ⟨rfl, F3, HF.out⟩
set_option maxRecDepth 100000 in
theorem uchanges_ok (x : Int) (b : Bytes) (hp : Hp w0 w F h l) (hu : UdH w0 w F u h mb last I) (h0 : -9223372036854775808 ≤ x) (h1 : x ≤ 9223372036854775807) (hI : Ik I x = some b) (hl : b.length = l.length) :
    Calls Tryz.prog 18 #[.pointer (some ⟨u, 0, none⟩), .int .i64 x] w fun e w' => ∃ v, e = .returned (.tuple #[v, .nilIface]) ∧ OwnC w' w.heap.size v (diffL b l) ∧ Below w.heap.size w w' := by
  obtain ⟨g, cap, hlk, hrow, hFg⟩ := (hu.look x h0 h1).2 b hI
  obtain ⟨c0, c1, c2, -⟩ := hu.cells
  have HP := Hidden.mk hp
  have HU := Hidden.mk hu
  have HRO := Hidden.mk hrow
  have HL := Hidden.mk hl
  clear hp hu hI h0 h1 hrow hFg hl
  go_enter Tryz.func18, Tryz.ntmps18
  have HB := Hidden.mk (Below.refl w.heap.size w)
  have HBY := Hidden.mk (hbytes_ok _ _ F h l HP.out)
  go_wp2_with fail
  refine HBY.out.mono ?_
  rintro e w3 ⟨g3, cap3, rfl, -, hrow3, hb3⟩
  have hbl := HP.out.len
  have hb3' := HB.out.trans (hb3.mono HB.out.size)
  have HB3 := Hidden.mk hb3'
  have HD := Hidden.mk (diff_ok (some ⟨g, 0, none⟩) (some ⟨g3, 0, none⟩) b.length cap cap3 b l w3 rfl HL.out.symm (by have := rightB_true.1 hbl; have := HL.out; omega) HRO.out.le.1 (by rw [HL.out]; exact hrow3.le.1) (HRO.out.below hb3' HRO.out.lt).rd hrow3.rd)
  rw [HL.out] at HD
  rw [HL.out]
  clear hbl hb3' hb3 hrow3 c0 c1 c2 HBY hlk
  go_wp2_with fail
  refine HD.out.mono ?_
  rintro e w4 ⟨v, rfl, hown, hb4⟩
  have HF := Hidden.mk (And.intro (ownC_base hown HB3.out.size) (HB3.out.trans (hb4.mono HB3.out.size)))
  clear hown hb4 HD
  go_wp2_with fail
  go_ret2
  exact ⟨v, rfl, HF.out⟩
set_option maxRecDepth 100000 in
theorem umarks_ok (_hp : Hp w0 w F h l) (hu : UdH w0 w F u h mb last I) (hl : last ≤ 1000) :
    Calls Tryz.prog 20 #[.pointer (some ⟨u, 0, none⟩)] w fun e w' => ∃ (v : Value) (S : List Nat), e = .returned v ∧ S.Pairwise (· < ·) ∧ (∀ k, k ∈ S ↔ I k ≠ none) ∧ w'.ownsRow w.heap.size 3 1 v S.length (S.map fun i : Nat => .int .i64 (i : Int)) ∧ Below w.heap.size w w' := by
  obtain ⟨f, cnt, hc, him, hf⟩ := hu.mp
  obtain ⟨c0, c1, c2, -⟩ := hu.cells
  have HK := Hidden.mk (keysR_call mb w)
  have HS := Hidden.mk (sortedR_call mb cnt f w him (by omega))
  have HI : Hidden (∀ k, (f k).isSome = true ↔ I k ≠ none) := ⟨fun k => by
    cases hk : I k with
    | none => rw [(hf k).1 hk]; simp
    | some b => obtain ⟨g, cap, e1, -⟩ := (hf k).2 b hk; rw [e1]; simp⟩
  clear _hp hu him hf
  go_enter Tryz.func20, Tryz.ntmps20
  go_wp2_with fail
  refine HK.out.mono ?_
  rintro e w1 ⟨rfl, rfl⟩
  clear c0 c1 c2 HK
  go_wp2_with fail
  refine HS.out.mono ?_
  rintro e w2 ⟨v, S, rfl, hS, hown, hb⟩
  have HF := Hidden.mk (And.intro hS.up (And.intro (fun k => (hS.mem k).trans (HI.out k)) (And.intro hown hb)))
  clear hS hown hb HS
  go_wp2_with fail
  go_ret
  exact ⟨v, S, rfl, HF.out⟩
end
end Go.Proofs.YtijcclpnkfmpnaaGreat
/- A byte stored into a row; the bytes of a number one by one. -/
namespace Go.Proofs.YtijcclpnkfmpnaaGreat
open Go.RowKit

theorem Row.store {w : World} {e g cap : Nat} {l : Bytes} (h : Row w e g cap l) (p : Nat) (_hp : p < l.length) (x : UInt8) :
    Row (w.setCell ⟨g, p, none⟩ (bv x)) e g cap (l.set p x) := by
  obtain ⟨cur, hg, h1, h2, h3, h4⟩ := h
  rw [setCell_eq_setRow w g p cur e _ _ hg]
  refine ⟨_, setRow_heap w g cur _ e _ hg, by simpa using h1, h2, by simpa using h3, ?_⟩
  rw [Array.toList_setIfInBounds, List.length_set, List.take_set, h4, List.map_set]
theorem Row.frozen {w : World} {e g cap : Nat} {l : Bytes} (h : Row w e g cap l) (p : Nat) : w.frozen? ⟨g, p, none⟩ = false := by
  obtain ⟨cur, hg, _⟩ := h
  exact frozen_of_row w g p cur e hg
theorem numB_get (s : Nat) : ∀ (n k : Nat), k < s → (numB n s)[k]? = some (UInt8.ofNat (n / 2 ^ (8 * k) % 256)) := by
  induction s with
  | zero => intro n k h; omega
  | succ s ih =>
    intro n k h
    cases k with
    | zero => simp [numB]
    | succ k =>
      simp only [numB, List.getElem?_cons_succ]
      rw [ih _ _ (by omega), Nat.div_div_eq_div_mul, show 8 * (k + 1) = 8 + 8 * k from by omega, Nat.pow_add]
theorem splice_rd (l x : Bytes) (o p : Nat) (h : o + x.length ≤ l.length) : (splice l o x)[p]? = if o ≤ p ∧ p < o + x.length then x[p - o]? else l[p]? := by
  unfold splice
  have hl : (l.take o).length = o := by simp; omega
  by_cases h1 : p < o
  · rw [if_neg (by omega), List.getElem?_append_left (by omega), List.getElem?_take, if_pos h1]
  · rw [List.getElem?_append_right (by omega), hl]
    by_cases h2 : p < o + x.length
    · rw [if_pos (by omega), List.getElem?_append_left (by omega)]
    · rw [if_neg (by omega), List.getElem?_append_right (by omega), List.getElem?_drop]
      congr 1; omega
theorem ofB_inj : ∀ (a b : Bytes), a.length = b.length → ofB a = ofB b → a = b
  | [], [], _, _ => rfl
  | [], _ :: _, h, _ => by simp at h
  | _ :: _, [], h, _ => by simp at h
  | x :: a, y :: b, h, he => by
    simp only [ofB] at he
    have hx := u8_lt x
    have hy := u8_lt y
    have h1 : x.toNat = y.toNat := by omega
    rw [UInt8.toNat_inj.1 h1, ofB_inj a b (by simpa using h) (by omega)]
theorem div_step (n k : Nat) : n / 2 ^ (8 * k) / 256 = n / 2 ^ (8 * (k + 1)) := by
  rw [Nat.div_div_eq_div_mul, show 8 * (k + 1) = 8 * k + 8 from by omega, Nat.pow_add]
end Go.Proofs.YtijcclpnkfmpnaaGreat
/- The contracts of stamp.Open and vaultref1.Zero. -/
namespace Go.Proofs.YtijcclpnkfmpnaaGreat
open Go.RowKit

theorem open_e3 (A : Option Addr) (n c : Nat) (w : World) (h : n ≠ 32) :
    Calls Tryz.prog 140 #[.slice A n c] w fun e w' => e = .returned (.tuple #[.int .i64 0, .slice none 0 0, .iface 76 (.int .i64 3)]) ∧ w = w' := by
  have h' : ((n : Int) != 32) = true := by simp; omega
  clear h
  go_enter Tryz.func140, Tryz.ntmps140
  go_wp2
  go_ret3
  exact ⟨rfl, rfl⟩
def stampOf (l : Bytes) : Nat := ofB (l.take 4)
def bodyOf (l : Bytes) : Bytes := (l.drop 4).take 24
theorem open_e6 (A : Option Addr) (c : Nat) (l : Bytes) (w : World) (hl : l.length = 32) (hc : 32 ≤ c) (hr : Rd w A l) (hne : l.take 4 ≠ l.drop 28) :
    Calls Tryz.prog 140 #[.slice A 32 c] w fun e w' => e = .returned (.tuple #[.int .i64 0, .slice none 0 0, .iface 76 (.int .i64 6)]) ∧ ∃ n, w' = w.drewN n := by
  have hr1 := hr.take 4 (by omega)
  have hr2 := hr.cut 28 4 (by omega)
  rw [List.take_of_length_le (by simp; omega)] at hr2
  have hb : (l.take 4 == l.drop 28) = false := by simpa using hne
  have HB := Hidden.mk hb
  clear hb hne
  go_enter Tryz.func140, Tryz.ntmps140
  go_wp2_with fail
  go_quiet (fail)
  go_wp2_with fail
  refine (of_any _ _ _ (l.take 4) _ (by simp; omega) (by omega) (hr1.drewN _)).mono ?_
  rintro e w1 ⟨rfl, rfl⟩
  go_wp2_with fail
  refine (equal_any _ _ _ _ _ _ (l.take 4) (l.drop 28) _ (by simp; omega) (by simp; omega) (hr1.drewN _) (hr2.drewN _)).mono ?_
  rintro e w1 ⟨rfl, rfl⟩
  rw [HB.out]
  go_wp2_with fail
  go_ret3
  exact ⟨rfl, _, rfl⟩
theorem open_e5 (A : Option Addr) (c : Nat) (l : Bytes) (w : World) (hl : l.length = 32) (hc : 32 ≤ c) (hr : Rd w A l) (he : l.take 4 = l.drop 28) (h0 : stampOf l = 0) :
    Calls Tryz.prog 140 #[.slice A 32 c] w fun e w' => e = .returned (.tuple #[.int .i64 0, .slice none 0 0, .iface 76 (.int .i64 5)]) ∧ ∃ n, w' = w.drewN n := by
  have hr1 := hr.take 4 (by omega)
  have hr2 := hr.cut 28 4 (by omega)
  rw [List.take_of_length_le (by simp; omega)] at hr2
  have hb : (l.take 4 == l.drop 28) = true := by simpa using he
  have HB := Hidden.mk hb
  have H0 := Hidden.mk h0
  clear hb he h0
  go_enter Tryz.func140, Tryz.ntmps140
  go_wp2_with fail
  go_quiet (fail)
  go_wp2_with fail
  refine (of_any _ _ _ (l.take 4) _ (by simp; omega) (by omega) (hr1.drewN _)).mono ?_
  rintro e w1 ⟨rfl, rfl⟩
  rw [show ofB (l.take 4) = 0 from H0.out]
  go_wp2_with fail
  refine (equal_any _ _ _ _ _ _ (l.take 4) (l.drop 28) _ (by simp; omega) (by simp; omega) (hr1.drewN _) (hr2.drewN _)).mono ?_
  rintro e w1 ⟨rfl, rfl⟩
  rw [HB.out]
  go_wp2_with fail
  go_ret3
  exact ⟨rfl, _, rfl⟩
theorem open_ok (A : Option Addr) (c : Nat) (l : Bytes) (w : World) (hl : l.length = 32) (hc : 32 ≤ c) (hr : Rd w A l) (he : l.take 4 = l.drop 28) (h0 : stampOf l ≠ 0) :
    Calls Tryz.prog 140 #[.slice A 32 c] w fun e w' => ∃ g cap, e = .returned (.tuple #[.int .i64 (stampOf l), .slice (some ⟨g, 0, none⟩) 24 cap, .nilIface]) ∧
      w.heap.size ≤ g ∧ Row w' 5 g cap (bodyOf l) ∧ Below w.heap.size w w' := by
  have hr1 := hr.take 4 (by omega)
  have hr2 := hr.cut 28 4 (by omega)
  have hr3 := hr.cut 4 24 (by omega)
  rw [List.take_of_length_le (by simp; omega)] at hr2
  obtain ⟨p, off, rfl, _⟩ := hr.lt (by omega)
  have hb : (l.take 4 == l.drop 28) = true := by simpa using he
  have HB := Hidden.mk hb
  have h0' : ((stampOf l : Int) == 0) = false := by simp; omega
  clear hb he h0
  go_enter Tryz.func140, Tryz.ntmps140
  go_wp2_with fail
  go_quiet (fail)
  go_wp2_with fail
  refine (of_any _ _ _ (l.take 4) _ (by simp; omega) (by omega) (hr1.drewN _)).mono ?_
  rintro e w1 ⟨rfl, rfl⟩
  rw [show ofB (l.take 4) = stampOf l from rfl]
  go_wp2_with fail
  refine (equal_any _ _ _ _ _ _ (l.take 4) (l.drop 28) _ (by simp; omega) (by simp; omega) (hr1.drewN _) (hr2.drewN _)).mono ?_
  rintro e w1 ⟨rfl, rfl⟩
  rw [HB.out]
  go_wp2_with fail
  refine (clone_some _ 24 _ (bodyOf l) _ (by simp [bodyOf]; omega) (by omega) (hr3.drewN _)).mono ?_
  rintro e w1 ⟨g, cap, rfl, hg, hrow, hb⟩
  go_wp2_with fail
  go_ret3
  exact ⟨g, cap, rfl, hg, hrow, (below_drewN (Below.refl _ _) _).trans hb⟩

/-- vaultref1.Zero: are all bytes 0? -/
theorem zero_any (A : Option Addr) (n c : Nat) (l : Bytes) (w : World) (hn : l.length = n) (hl : n ≤ maxLen) (hr : Rd w A l) :
    Calls Tryz.prog 113 #[.slice A n c] w fun e w' => e = .returned (.bool (!l.any nonZero)) ∧ w = w' := by
  subst hn
  unfold maxLen at hl
  go_enter Tryz.func113, Tryz.ntmps113
  go_wp2
  go_loop [3] (fun i => ∃ k : Nat, k ≤ l.length ∧ i = .int .i64 k ∧ Hidden (∀ x ∈ l.take k, nonZero x = false)) (fun i => l.length - (intOf i).toNat)
  case atStart => exact ⟨0, Nat.zero_le _, rfl, ⟨by simp⟩⟩
  case round =>
    obtain ⟨k, hk, rfl, hnot⟩ := hrel
    by_cases hlt : k < l.length
    · obtain ⟨b, off, rfl, hc⟩ := hr k hlt
      have hb := bv_bne l[k]
      cases hz : nonZero l[k] with
      | true =>
        rw [hz] at hb
        have hv : Hidden (false = !l.any nonZero) := ⟨by rw [List.any_eq_true.2 ⟨l[k], List.getElem_mem hlt, hz⟩]; rfl⟩
        clear hz
        go_wp2
        go_ret
        exact ⟨ret_bool hv.out, rfl⟩
      | false =>
        rw [hz] at hb
        have hnk : Hidden (∀ x ∈ l.take (k + 1), nonZero x = false) := ⟨forall_take_succ hlt hnot.out hz⟩
        clear hz hnot
        go_wp2
        go_round
        case rel => exact ⟨k + 1, by omega, by go_num, hnk⟩
        case measure => simp [intOf]; omega
    · have hv : Hidden (true = !l.any nonZero) := ⟨by
        have := hnot.out
        rw [List.take_of_length_le (by omega)] at this
        symm; simpa using this⟩
      go_wp2
      go_ret
      exact ⟨ret_bool hv.out, rfl⟩
end Go.Proofs.YtijcclpnkfmpnaaGreat
/- The contracts of the reference's Number, Make and Open. -/
namespace Go.Proofs.YtijcclpnkfmpnaaGreat
open Go.RowKit

theorem ofB_drop (l : Bytes) (j : Nat) (h : j < l.length) : ofB (l.drop j) = l[j].toNat + 256 * ofB (l.drop (j + 1)) := by
  rw [List.drop_eq_getElem_cons h]; rfl
theorem number_any (A : Option Addr) (n c : Nat) (l : Bytes) (w : World) (hn : l.length = n) (hl : n ≤ 4) (hr : Rd w A l) :
    Calls Tryz.prog 141 #[.slice A n c] w fun e w' => e = .returned (.int .i64 (ofB l)) ∧ w = w' := by
  subst hn
  have s0 : IntKind.i64.wrap ((l.length : Int) - 1) = (l.length : Int) - 1 := IntWalk.i64_in _ (by omega)
  go_enter Tryz.func141, Tryz.ntmps141
  go_wp2
  go_loop [3, 4] (fun n i => ∃ j : Nat, j ≤ l.length ∧ i = .int .i64 ((j : Int) - 1) ∧ n = .int .i64 (ofB (l.drop j))) (fun _ i => (intOf i + 1).toNat)
  case atStart => exact ⟨l.length, Nat.le_refl _, rfl, by simp [ofB]⟩
  case round =>
    obtain ⟨j, hj, rfl, rfl⟩ := hrel
    rcases j with _ | j
    · rw [show (((0 : Nat) : Int) - 1) = (-1 : Int) from rfl, List.drop_zero]
      go_wp2
      go_ret
      exact ⟨rfl, rfl⟩
    · rw [show (((j + 1 : Nat) : Int) - 1) = (j : Int) from by omega]
      obtain ⟨b, off, rfl, hc⟩ := hr j (by omega)
      have hd := ofB_drop l j (by omega)
      have h1 := ofB_lt (l.drop (j + 1))
      have hp : 2 ^ (8 * (l.drop (j + 1)).length) ≤ 16777216 := by
        have : (l.drop (j + 1)).length ≤ 3 := by simp; omega
        calc 2 ^ (8 * (l.drop (j + 1)).length) ≤ 2 ^ 24 := Nat.pow_le_pow_right (by omega) (by omega)
          _ = 16777216 := by decide
      have hx := u8_lt l[j]
      have HD := Hidden.mk hd
      generalize ofB (l.drop (j + 1)) = m at *
      generalize l[j] = x at *
      have s1 : IntKind.i64.wrap ((m : Int) * 256) = (m : Int) * 256 := IntWalk.i64_in _ (by omega)
      have s2 : IntKind.i64.wrap (x.toNat : Int) = (x.toNat : Int) := IntWalk.i64_in _ (by omega)
      have s3 : IntKind.i64.wrap ((m : Int) * 256 + (x.toNat : Int)) = (m : Int) * 256 + (x.toNat : Int) := IntWalk.i64_in _ (by omega)
      have s4 : IntKind.i64.wrap ((j : Int) - 1) = (j : Int) - 1 := IntWalk.i64_in _ (by omega)
      have k0 : (0 : Int) ≤ j := by omega
      have k1 : (j : Int) < l.length := by omega
      clear hd h1 hp
      go_wp2
      go_round
      case rel => exact ⟨j, by omega, rfl, by rw [HD.out]; exact int_i64 (by omega)⟩
      case measure => simp [intOf]

/-- what a stamp with a body is as a sector, and the fault -/
def makeF (st : Int) (b : Bytes) : Bytes × Nat := if st < 1 ∨ 4294967295 < st then ([], 1) else if 24 < b.length then ([], 4) else (makeB st.toNat b, 0)
/-- what a sector is: its stamp, its body, the fault -/
def openF (l : Bytes) : Nat × Bytes × Nat := if l.length ≠ 32 then (0, [], 3) else if l.take 4 ≠ l.drop 28 then (0, [], 6) else if stampOf l = 0 then (0, [], 5) else (stampOf l, bodyOf l, 0)
def mixF (a b : Bytes) (cut : Int) : Bytes × Nat := if a.length ≠ 32 ∨ b.length ≠ 32 then ([], 3) else if cut < 0 ∨ 32 < cut then ([], 1) else (a.take cut.toNat ++ b.drop cut.toNat, 0)

theorem make_any (st : Int) (A : Option Addr) (n c : Nat) (b : Bytes) (w : World) (hn : b.length = n) (hr : Rd w A b) :
    Calls Tryz.prog 99 #[.int .i64 st, .slice A n c] w fun e w' => ∃ A' c', e = .returned (.tuple #[.slice A' (makeF st b).1.length c', errV (makeF st b).2]) ∧ Rd w' A' (makeF st b).1 ∧ Below w.heap.size w w' := by
  unfold makeF
  by_cases h1 : st < 1 ∨ 4294967295 < st
  · rw [if_pos h1]
    refine (make_e1 st A n c w h1).mono ?_
    rintro e w' ⟨rfl, rfl⟩
    exact ⟨none, 0, rfl, Rd.nil_, Below.refl _ _⟩
  · rw [if_neg h1]
    by_cases h2 : 24 < b.length
    · rw [if_pos h2]
      refine (make_e4 st A n c w (by omega) (by omega) (by omega)).mono ?_
      rintro e w' ⟨rfl, rfl⟩
      exact ⟨none, 0, rfl, Rd.nil_, Below.refl _ _⟩
    · rw [if_neg h2]
      refine (make_ok st A n c b w hn (by omega) (by omega) (by omega) hr).mono ?_
      rintro e w' ⟨g, rfl, hg, hrow, hb⟩
      exact ⟨some ⟨g, 0, none⟩, 32, by rw [makeB_len _ _ (by omega)]; rfl, hrow.rd, hb⟩
theorem open_any (A : Option Addr) (n c : Nat) (l : Bytes) (w : World) (hn : l.length = n) (hc : n ≤ c) (hr : Rd w A l) :
    Calls Tryz.prog 140 #[.slice A n c] w fun e w' => ∃ A' c', e = .returned (.tuple #[.int .i64 (openF l).1, .slice A' (openF l).2.1.length c', errV (openF l).2.2]) ∧ Rd w' A' (openF l).2.1 ∧ Below w.heap.size w w' := by
  subst hn
  unfold openF
  by_cases h1 : l.length ≠ 32
  · rw [if_pos h1]
    refine (open_e3 A _ c w h1).mono ?_
    rintro e w' ⟨rfl, rfl⟩
    exact ⟨none, 0, rfl, Rd.nil_, Below.refl _ _⟩
  · rw [if_neg h1]
    have h32 : l.length = 32 := by omega
    rw [h32] at hc ⊢
    by_cases h2 : l.take 4 ≠ l.drop 28
    · rw [if_pos h2]
      refine (open_e6 A c l w h32 hc hr h2).mono ?_
      rintro e w' ⟨rfl, n, rfl⟩
      exact ⟨none, 0, rfl, Rd.nil_, below_drewN (Below.refl _ _) _⟩
    · rw [if_neg h2]
      have h2' : l.take 4 = l.drop 28 := Decidable.not_not.1 h2
      by_cases h3 : stampOf l = 0
      · rw [if_pos h3]
        refine (open_e5 A c l w h32 hc hr h2' h3).mono ?_
        rintro e w' ⟨rfl, n, rfl⟩
        exact ⟨none, 0, rfl, Rd.nil_, below_drewN (Below.refl _ _) _⟩
      · rw [if_neg h3]
        refine (open_ok A c l w h32 hc hr h2' h3).mono ?_
        rintro e w' ⟨g, cap, rfl, hg, hrow, hb⟩
        exact ⟨some ⟨g, 0, none⟩, cap, by rw [show (bodyOf l).length = 24 from by simp [bodyOf, h32]]; rfl, hrow.rd, hb⟩

end Go.Proofs.YtijcclpnkfmpnaaGreat
/- The contracts of the reference's Get, Put, Name, NameBytes and ReadName. -/
namespace Go.Proofs.YtijcclpnkfmpnaaGreat
open Go.RowKit

def getF (l : Bytes) (at_ size : Int) : Nat := if getE l.length at_ size = 0 then getN l at_ size else 0
def putF (l : Bytes) (at_ x size : Int) : Bytes := if putE l.length at_ x size = 0 then putB l at_ x size else []

theorem splice_put (l : Bytes) (o x k : Nat) (h : o + k < l.length) : (splice l o (numB x k)).set (o + k) (UInt8.ofNat (x / 2 ^ (8 * k) % 256)) = splice l o (numB x (k + 1)) := by
  have h1 := numB_length x k
  have h2 := numB_length x (k + 1)
  apply List.ext_getElem?
  intro p
  rw [List.getElem?_set, splice_len _ _ _ (by omega), splice_rd _ _ _ _ (by omega), splice_rd _ _ _ _ (by omega), h1, h2]
  by_cases a : o + k = p
  · subst a
    rw [if_pos rfl, if_pos (by omega), if_pos (by omega), Nat.add_sub_cancel_left, numB_get _ _ _ (by omega)]
  · rw [if_neg a]
    by_cases b : o ≤ p ∧ p < o + k
    · rw [if_pos b, if_pos (show o ≤ p ∧ p < o + (k + 1) from by omega), numB_get _ _ _ (by omega), numB_get _ _ _ (by omega)]
    · rw [if_neg b, if_neg (show ¬ (o ≤ p ∧ p < o + (k + 1)) from by omega)]
end Go.Proofs.YtijcclpnkfmpnaaGreat
/- The contract of the reference's Put. -/
namespace Go.Proofs.YtijcclpnkfmpnaaGreat
open Go.RowKit

/-- an answer: bytes, and a number or an error -/
def RowAns (w w' : World) (e : Ending) (l : Bytes) (x : Value) : Prop := ∃ A' c', e = .returned (.tuple #[.slice A' l.length c', x]) ∧ Rd w' A' l ∧ Below w.heap.size w w'
set_option maxRecDepth 100000 in
set_option maxHeartbeats 1000000 in
theorem refPut_ans (A : Option Addr) (n c : Nat) (l : Bytes) (at_ x size : Int) (w : World) (hn : l.length = n) (hl : n ≤ 140737488351232) (hr : Rd w A l) :
    Calls Tryz.prog 142 #[.slice A n c, .int .i64 at_, .int .i64 x, .int .i64 size] w fun e w' => RowAns w w' e (putF l at_ x size) (.int .i64 (putE n at_ x size)) := by
  obtain ⟨i0, hi0, hz0, hz1, hz2⟩ := info_parts byte_info
  generalize hF : putF l at_ x size = F
  generalize hE : putE n at_ x size = E
  unfold putF at hF
  rw [hn, hE] at hF
  unfold putE at hE
  by_cases hs : 1 ≤ size ∧ size ≤ 4
  · obtain ⟨h1, h4⟩ := hs
    obtain ⟨s, rfl⟩ := Int.eq_ofNat_of_zero_le (show 0 ≤ size by omega)
    have HM : Hidden (mostN (s : Int) = (2 ^ (8 * s) : Nat) - 1) := ⟨by simp [mostN]⟩
    have HE := Hidden.mk hE
    have HF := Hidden.mk hF
    clear hE hF
    go_enter Tryz.func142, Tryz.ntmps142
    go_wp2_with fail
    go_loop [10, 11] (fun mv iv => ∃ k : Nat, k ≤ s ∧ iv = .int .i64 k ∧ mv = .int .i64 ((2 ^ (8 * k) : Nat) : Int)) (fun _ iv => s - (intOf iv).toNat)
    case atStart => exact ⟨0, Nat.zero_le _, rfl, rfl⟩
    case round =>
      obtain ⟨k, hk, rfl, rfl⟩ := hrel
      by_cases hlt : k < s
      · have hp : 2 ^ (8 * k) ≤ 16777216 := by
          calc 2 ^ (8 * k) ≤ 2 ^ 24 := Nat.pow_le_pow_right (by omega) (by omega)
            _ = 16777216 := by decide
        have HD : Hidden (2 ^ (8 * k) * 256 = 2 ^ (8 * (k + 1))) := ⟨by rw [show 8 * (k + 1) = 8 * k + 8 from by omega, Nat.pow_add]⟩
        generalize 2 ^ (8 * k) = M at *
        have s1 : IntKind.i64.wrap ((M : Int) * 256) = (M : Int) * 256 := IntWalk.i64_in _ (by omega)
        go_wp2_with fail
        go_round
        case rel => exact ⟨k + 1, by omega, by go_num, int_i64 (by have := HD.out; omega)⟩
        case measure => simp [intOf]; omega
      · obtain rfl : k = s := by omega
        have hp : 2 ^ (8 * k) ≤ 4294967296 := by
          calc 2 ^ (8 * k) ≤ 2 ^ 32 := Nat.pow_le_pow_right (by omega) (by omega)
            _ = 4294967296 := by decide
        by_cases hx : 0 ≤ x ∧ x ≤ mostN (k : Int)
        · obtain ⟨X, rfl⟩ := Int.eq_ofNat_of_zero_le hx.1
          have hxm := hx.2
          rw [HM.out] at hxm
          by_cases ha : at_ < 0 ∨ (n : Int) - k < at_
          · have he : E = 3 := by rw [← HE.out, if_pos ⟨h1, h4, hx.1, hx.2⟩, if_pos ha]
            have hf : F = [] := by rw [← HF.out, if_neg (by omega)]
            subst he hf
            clear HE HF hx HM
            generalize 2 ^ (8 * k) = M at *
            by_cases h0 : at_ < 0
            · clear ha
              go_wp2_with fail
              go_ret2
              exact ⟨none, 0, rfl, Rd.nil_, Below.refl _ _⟩
            · by_cases hb : (n : Int) < at_
              · clear ha
                go_wp2_with fail
                go_ret2
                exact ⟨none, 0, rfl, Rd.nil_, Below.refl _ _⟩
              · have hc3 : (n : Int) - at_ < k := by omega
                have s1 : IntKind.i64.wrap ((n : Int) - at_) = (n : Int) - at_ := IntWalk.i64_in _ (by omega)
                clear ha
                go_wp2_with fail
                go_ret2
                exact ⟨none, 0, rfl, Rd.nil_, Below.refl _ _⟩
          · have he : E = 0 := by rw [← HE.out, if_pos ⟨h1, h4, hx.1, hx.2⟩, if_neg ha]
            have hf : F = putB l at_ X k := by rw [← HF.out, if_pos he]
            obtain ⟨a, rfl⟩ := Int.eq_ofNat_of_zero_le (show 0 ≤ at_ by omega)
            have hfa : F = splice l a (numB X k) := by rw [hf]; simp [putB]
            have HFA := Hidden.mk hfa
            subst he
            clear HE HF hx HM hf hfa
            have hfit : a + k ≤ n := by omega
            have hk1 : 1 ≤ k := by omega
            have s1 : IntKind.i64.wrap ((n : Int) - a) = (n : Int) - a := IntWalk.i64_in _ (by omega)
            have t1 : decide (n < a) = false := by simp; omega
            have t2 : decide ((n : Int) - a < k) = false := by simp; omega
            obtain ⟨p, off, rfl, _⟩ := hr.lt (by omega)
            generalize 2 ^ (8 * k) = M at *
            have t3 : decide (M ≤ X) = false := by simp; omega
            have t0 : decide ((a : Int) < 0) = false := by simp
            have t5 : decide ((X : Int) < 0) = false := by simp
            clear ha
            go_wp2_with (at_builtin; refine wpList_append_own _ rfl (.tmp 50) (.tmp 51) _ rfl w.heap.size 5 i0 _ 1 1 Tryz.underlying22 hi0 hz0 hz1 hz2 rfl (by decide) (.slice none 0 0) 0 [] rfl (World.ownsRow_nil _ _ _ _) ⟨p, off, none⟩ n c (l.map bv) rfl (by simp; omega) hr.cells one_bv (by simp only [maxLen]; omega) (by omega) (Nat.le_refl _) ?_; intro v1 w1 hown1 hg1 hnn1)
            have hb1 : Below w.heap.size w w1 := (Below.refl _ _).grown hg1 (Nat.le_refl _) (fun k hk => by simp [Value.ownBlock] at hk)
            have hO : Own w1 w.heap.size 5 v1 l := by unfold Own; simpa [hn] using hown1
            have hne : v1 ≠ .slice none 0 0 := fun h => by
              subst h
              rcases hO.2 with ⟨_, h0⟩ | ⟨g, cap, cur, h, _⟩
              · omega
              · cases h
            obtain ⟨g, cap, hv, hbg, hrow⟩ := Row.of_own hO hne
            rw [hn] at hv
            subst hv
            clear hO hne hown1 hg1 hnn1
            go_loopw [2, 13] (fun nv iv wr => ∃ j : Nat, j ≤ k ∧ iv = .int .i64 j ∧ nv = .int .i64 ((X / 2 ^ (8 * j) : Nat) : Int) ∧ Below w.heap.size w wr ∧ Row wr 5 g cap (splice l a (numB X j))) (fun _ iv _ => k - (intOf iv).toNat)
            case atStart => exact ⟨0, Nat.zero_le _, rfl, by simp, hb1, by simpa [numB, splice] using hrow⟩
            case round =>
              obtain ⟨j, hj, rfl, rfl, hbel, hrow2⟩ := hrel
              have hsl : (splice l a (numB X j)).length = n := by rw [splice_len _ _ _ (by rw [numB_length]; omega), hn]
              by_cases hlt2 : j < k
              · have hd := div_step X j
                have HD2 := Hidden.mk hd
                have hcell := hrow2.cell (a + j) (by omega)
                have hfr := hrow2.frozen (a + j)
                have hst := hrow2.store (a + j) (by omega) (UInt8.ofNat (X / 2 ^ (8 * j) % 256))
                rw [splice_put l a X j (by omega)] at hst
                have hbn := hbel.setCell (p := ⟨g, a + j, none⟩) hbg (bv (UInt8.ofNat (X / 2 ^ (8 * j) % 256)))
                have hbv : bv (UInt8.ofNat (X / 2 ^ (8 * j) % 256)) = .int .u8 ((X / 2 ^ (8 * j) : Nat) % 256 : Int) := by simp only [bv, ofNat_mod]; rfl
                have hmle : X / 2 ^ (8 * j) ≤ X := Nat.div_le_self _ _
                have hcap := hrow2.le.1
                rw [hbv] at hst hbn
                generalize X / 2 ^ (8 * j) = m at *
                have q1 : IntKind.i64.wrap ((a : Int) + j) = (a : Int) + j := IntWalk.i64_in _ (by omega)
                have k0 : (0 : Int) ≤ (a : Int) + j := by omega
                have k1 : (a : Int) + j < n := by omega
                generalize (splice l a (numB X j))[a + j] = u at hcell
                clear hd hbv hrow2 hsl
                go_wp2_with fail
                go_roundw
                case rel => exact ⟨j + 1, by omega, by go_num, int_i64 (by have := HD2.out; omega), hbn, hst⟩
                case measure => simp [intOf]; omega
              · obtain rfl : j = k := by omega
                go_wp2_with fail
                go_ret2
                refine ⟨some ⟨g, 0, none⟩, cap, ?_, by rw [HFA.out]; exact hrow2.rd, hbel⟩
                rw [show F.length = n from by rw [HFA.out]; exact hsl]
                rfl
        · have he : E = 1 := by rw [← HE.out, if_neg (fun h => hx ⟨h.2.2.1, h.2.2.2⟩)]
          have hf : F = [] := by rw [← HF.out, if_neg (by omega)]
          rw [HM.out] at hx
          subst he hf
          clear HE HF HM
          generalize 2 ^ (8 * k) = M at *
          by_cases h0 : x < 0
          · clear hx
            go_wp2_with fail
            go_ret2
            exact ⟨none, 0, rfl, Rd.nil_, Below.refl _ _⟩
          · have t3 : (M : Int) ≤ x := by omega
            clear hx
            go_wp2_with fail
            go_ret2
            exact ⟨none, 0, rfl, Rd.nil_, Below.refl _ _⟩
  · have he : E = 1 := by rw [← hE, if_neg (fun h => hs ⟨h.1, h.2.1⟩)]
    have hf : F = [] := by rw [← hF, if_neg (by omega)]
    subst he hf
    clear hE hF
    by_cases h1 : size < 1
    · clear hs
      go_enter Tryz.func142, Tryz.ntmps142
      go_wp2_with fail
      go_ret2
      exact ⟨none, 0, rfl, Rd.nil_, Below.refl _ _⟩
    · have h4 : 4 < size := by omega
      clear hs
      go_enter Tryz.func142, Tryz.ntmps142
      go_wp2_with fail
      go_ret2
      exact ⟨none, 0, rfl, Rd.nil_, Below.refl _ _⟩
theorem refPut_any (A : Option Addr) (n c : Nat) (l : Bytes) (at_ x size : Int) (w : World) (hn : l.length = n) (hl : n ≤ 140737488351232) (hr : Rd w A l) :
    Calls Tryz.prog 142 #[.slice A n c, .int .i64 at_, .int .i64 x, .int .i64 size] w fun e w' => ∃ A' c', e = .returned (.tuple #[.slice A' (putF l at_ x size).length c', .int .i64 (putE n at_ x size)]) ∧ Rd w' A' (putF l at_ x size) ∧ Below w.heap.size w w' :=
  refPut_ans A n c l at_ x size w hn hl hr
end Go.Proofs.YtijcclpnkfmpnaaGreat
/- The contract of the reference's Make. -/
namespace Go.Proofs.YtijcclpnkfmpnaaGreat
open Go.RowKit

theorem Row.keepB {B : Nat} {w w' : World} (hb : Below B w w') {g p : Nat} (hg : B ≤ g) (v : Value) : Below B w (w'.setCell ⟨g, p, none⟩ v) := hb.setCell (p := ⟨g, p, none⟩) hg v
/-- the sector as it is after k bytes of the stamp -/
def makeK (l1 : Bytes) (st k : Nat) : Bytes := splice (splice l1 0 (numB st k)) 28 (numB st k)
theorem makeK_len (l1 : Bytes) (st k : Nat) (h : l1.length = 32) (hk : k ≤ 4) : (makeK l1 st k).length = 32 := by
  unfold makeK
  have h1 : (splice l1 0 (numB st k)).length = 32 := by rw [splice_len _ _ _ (by rw [numB_length]; omega), h]
  rw [splice_len _ _ _ (by rw [numB_length]; omega), h1]
theorem makeK_get (l1 : Bytes) (st k p : Nat) (h : l1.length = 32) (hk : k ≤ 4) : (makeK l1 st k)[p]? = if p < k then some (UInt8.ofNat (st / 2 ^ (8 * p) % 256)) else if 28 ≤ p ∧ p < 28 + k then some (UInt8.ofNat (st / 2 ^ (8 * (p - 28)) % 256)) else l1[p]? := by
  unfold makeK
  have hn := numB_length st k
  have h1 : (splice l1 0 (numB st k)).length = 32 := by rw [splice_len _ _ _ (by omega), h]
  rw [splice_rd _ _ _ _ (by omega), splice_rd _ _ _ _ (by omega), hn]
  by_cases a : p < k
  · rw [if_neg (by omega), if_pos (by omega), if_pos a, Nat.sub_zero, numB_get k st p a]
  · rw [if_neg a]
    by_cases b : 28 ≤ p ∧ p < 28 + k
    · rw [if_pos b, if_pos b, numB_get k st (p - 28) (by omega)]
    · rw [if_neg b, if_neg b, if_neg (by omega)]
theorem makeK_step (l1 : Bytes) (st k : Nat) (h : l1.length = 32) (hk : k < 4) : ((makeK l1 st k).set k (UInt8.ofNat (st / 2 ^ (8 * k) % 256))).set (28 + k) (UInt8.ofNat (st / 2 ^ (8 * k) % 256)) = makeK l1 st (k + 1) := by
  have hl := makeK_len l1 st k h (by omega)
  apply List.ext_getElem?
  intro p
  rw [makeK_get l1 st (k + 1) p h (by omega), List.getElem?_set, List.getElem?_set, List.length_set, hl, makeK_get l1 st k p h (by omega)]
  by_cases a : 28 + k = p
  · subst a
    rw [if_pos rfl, if_pos (by omega), if_neg (by omega), if_pos (by omega), Nat.add_sub_cancel_left]
  · rw [if_neg a]
    by_cases b : k = p
    · subst b
      rw [if_pos rfl, if_pos (by omega), if_pos (by omega)]
    · rw [if_neg b]
      by_cases c : p < k
      · rw [if_pos c, if_pos (show p < k + 1 from by omega)]
      · rw [if_neg c, if_neg (show ¬ p < k + 1 from by omega)]
        by_cases d : 28 ≤ p ∧ p < 28 + k
        · rw [if_pos d, if_pos (show 28 ≤ p ∧ p < 28 + (k + 1) from by omega)]
        · rw [if_neg d, if_neg (show ¬ (28 ≤ p ∧ p < 28 + (k + 1)) from by omega)]
theorem splice_take_succ (z b : Bytes) (o k : Nat) (hk : k < b.length) (hz : o + b.length ≤ z.length) : (splice z o (b.take k)).set (o + k) b[k] = splice z o (b.take (k + 1)) := by
  have h1 : (b.take k).length = k := by simp; omega
  have h2 : (b.take (k + 1)).length = k + 1 := by simp; omega
  apply List.ext_getElem?
  intro p
  rw [List.getElem?_set, splice_len _ _ _ (by omega), splice_rd _ _ _ _ (by omega), splice_rd _ _ _ _ (by omega), h1, h2]
  by_cases a : o + k = p
  · subst a
    rw [if_pos rfl, if_pos (by omega), if_pos (by omega), Nat.add_sub_cancel_left, List.getElem?_take, if_pos (by omega), List.getElem?_eq_getElem hk]
  · rw [if_neg a]
    by_cases c : o ≤ p ∧ p < o + k
    · rw [if_pos c, if_pos (by omega), List.getElem?_take, List.getElem?_take, if_pos (by omega), if_pos (by omega)]
    · rw [if_neg c, if_neg (by omega)]
theorem makeK_done (st : Nat) (b : Bytes) (h : b.length ≤ 24) : makeK (splice (List.replicate 32 0) 4 b) st 4 = makeB st b := by
  rw [← makeB_steps st b h]
  unfold makeK
  have hn := numB_length st 4
  have hz : (List.replicate 32 (0 : UInt8)).length = 32 := by simp
  congr 1
  apply List.ext_getElem?
  intro p
  have h1 : (splice (List.replicate 32 (0 : UInt8)) 4 b).length = 32 := by rw [splice_len _ _ _ (by omega), hz]
  have h2 : (splice (List.replicate 32 (0 : UInt8)) 0 (numB st 4)).length = 32 := by rw [splice_len _ _ _ (by omega), hz]
  rw [splice_rd _ _ _ _ (by omega), splice_rd _ _ _ _ (by omega), splice_rd _ _ _ _ (by omega), splice_rd _ _ _ _ (by omega), hn]
  by_cases a : 0 ≤ p ∧ p < 0 + 4
  · rw [if_pos a, if_neg (by omega), if_pos a]
  · rw [if_neg a]
    by_cases c : 4 ≤ p ∧ p < 4 + b.length
    · rw [if_pos c, if_pos c]
    · rw [if_neg c, if_neg c, if_neg a]

end Go.Proofs.YtijcclpnkfmpnaaGreat
/- The contracts of the reference's Name, NameBytes and ReadName. -/
namespace Go.Proofs.YtijcclpnkfmpnaaGreat
open Go.RowKit

theorem isName_bad (s : Bytes) (k : Nat) (hk : k < s.length) (h : notLower s[k] = true) : isName s = false := by
  unfold isName
  rw [List.any_eq_true.2 ⟨s[k], List.getElem_mem hk, h⟩]
  simp
theorem refName_any (s : Bytes) (w : World) (hs : s.length ≤ 140737488351232) :
    Calls Tryz.prog 143 #[sv s] w fun e w' => e = .returned (.bool (isName s)) ∧ w = w' := by
  by_cases h0 : s = []
  · subst h0
    go_enter Tryz.func143, Tryz.ntmps143
    go_wp2
    go_ret
    exact ⟨rfl, rfl⟩
  · have h0' : s.isEmpty = false := by
      cases s with
      | nil => exact absurd rfl h0
      | cons a b => rfl
    by_cases h8 : 8 < s.length
    · have hv : Hidden (false = isName s) := ⟨by simp [isName]; intros; omega⟩
      have t8 : decide ((8 : Int) < s.length) = true := by simp; omega
      clear h0
      go_enter Tryz.func143, Tryz.ntmps143
      go_wp2
      go_ret
      exact ⟨ret_bool hv.out, rfl⟩
    · have t8 : decide ((8 : Int) < s.length) = false := by simp; omega
      clear h0
      go_enter Tryz.func143, Tryz.ntmps143
      go_wp2
      go_loop [3] (fun i => ∃ k : Nat, k ≤ s.length ∧ i = .int .i64 k ∧ Hidden (∀ x ∈ s.take k, notLower x = false)) (fun i => s.length - (intOf i).toNat)
      case atStart => exact ⟨0, Nat.zero_le _, rfl, ⟨by simp⟩⟩
      case round =>
        obtain ⟨k, hk, rfl, hnot⟩ := hrel
        by_cases hlt : k < s.length
        · have k0 : (0 : Int) ≤ k := by omega
          have k1 : (k : Int) < s.length := by omega
          have hix : ((⟨s.toArray⟩ : ByteArray)[k]'(by simpa [ByteArray.size] using hlt)) = s[k] := rfl
          by_cases ha : s[k].toNat < 97
          · have hv : Hidden (false = isName s) := ⟨(isName_bad s k hlt (by simp [notLower, ha])).symm⟩
            have t1 : decide ((s[k].toNat : Int) < 97) = true := by simp; omega
            clear hnot
            go_wp2
            go_ret
            exact ⟨ret_bool hv.out, rfl⟩
          · have t1 : decide ((s[k].toNat : Int) < 97) = false := by simp; omega
            by_cases hb : 122 < s[k].toNat
            · have hv : Hidden (false = isName s) := ⟨(isName_bad s k hlt (by simp [notLower, hb])).symm⟩
              have t2 : decide ((122 : Int) < s[k].toNat) = true := by simp; omega
              clear hnot
              go_wp2
              go_ret
              exact ⟨ret_bool hv.out, rfl⟩
            · have t2 : decide ((122 : Int) < s[k].toNat) = false := by simp; omega
              have hnk : Hidden (∀ x ∈ s.take (k + 1), notLower x = false) := ⟨forall_take_succ hlt hnot.out (by simp [notLower]; omega)⟩
              clear hnot
              go_wp2
              go_round
              case rel => exact ⟨k + 1, by omega, by go_num, hnk⟩
              case measure => simp [intOf]; omega
        · have hv : Hidden (true = isName s) := ⟨by
            have := hnot.out
            rw [List.take_of_length_le (by omega)] at this
            have h3 : s.any notLower = false := by simpa using this
            simp [isName, h3, h0']; omega⟩
          clear hnot
          go_wp2
          go_ret
          exact ⟨ret_bool hv.out, rfl⟩

theorem idxOf_at (l : Bytes) (k : Nat) (hk : k ≤ l.length) (h : ∀ x ∈ l.take k, nonZero x = true) (he : k = l.length ∨ ∃ h' : k < l.length, l[k] = 0) : l.idxOf 0 = k := by
  have hn : (0 : UInt8) ∉ l.take k := fun h0 => by have := h 0 h0; simp [nonZero] at this
  rcases he with rfl | ⟨h', hz⟩
  · rw [List.take_length] at hn
    exact List.idxOf_eq_length hn
  · have := idxB_at l 0 k h' hn hz
    have hm : (0 : UInt8) ∈ l := by rw [← hz]; exact List.getElem_mem h'
    unfold idxB at this
    rw [if_pos hm] at this
    omega
theorem refReadName_e3 (A : Option Addr) (n c : Nat) (w : World) (h8 : n ≠ 8) :
    Calls Tryz.prog 114 #[.slice A n c] w fun e w' => e = .returned (.tuple #[sv [], .int .i64 3]) ∧ w = w' := by
  have h8' : ((n : Int) != 8) = true := by simp; omega
  clear h8
  go_enter Tryz.func114, Tryz.ntmps114
  go_wp2
  go_ret2
  exact ⟨rfl, rfl⟩
set_option maxRecDepth 100000 in
theorem refReadName_any (A : Option Addr) (c : Nat) (l : Bytes) (w : World) (h8 : l.length = 8) (hc : 8 ≤ c) (hr : Rd w A l) :
    Calls Tryz.prog 114 #[.slice A 8 c] w fun e w' => e = .returned (.tuple (if gotName l = true then #[sv (nameAt l), .int .i64 0] else #[sv [], .int .i64 2])) ∧ w = w' := by
  generalize hres : (if gotName l = true then #[sv (nameAt l), .int .i64 0] else #[sv [], .int .i64 2]) = res
  have HRES := Hidden.mk hres
  clear hres
  obtain ⟨p, off, rfl, _⟩ := hr.lt (by omega)
  go_enter Tryz.func114, Tryz.ntmps114
  go_wp2_with fail
  go_loop [4] (fun i => ∃ k : Nat, k ≤ 8 ∧ i = .int .i64 k ∧ Hidden (∀ x ∈ l.take k, nonZero x = true)) (fun i => 8 - (intOf i).toNat)
  case atStart => exact ⟨0, Nat.zero_le _, rfl, ⟨by simp⟩⟩
  case round =>
    obtain ⟨k, hk, rfl, hnot⟩ := hrel
    by_cases hgo : ∃ h : k < l.length, nonZero l[k] = true
    · obtain ⟨hlt, hnz⟩ := hgo
      have hcell := hr.at_ k hlt
      have hb := bv_bne l[k]
      rw [hnz] at hb
      have hnk : Hidden (∀ x ∈ l.take (k + 1), nonZero x = true) := ⟨by
        intro x hx
        rw [List.take_succ_eq_append_getElem hlt, List.mem_append, List.mem_singleton] at hx
        rcases hx with hx | rfl
        · exact hnot.out x hx
        · exact hnz⟩
      have k0 : (0 : Int) ≤ k := by omega
      have k1 : (k : Int) < 8 := by omega
      clear hnz hnot
      go_wp2_with fail
      go_round
      case rel => exact ⟨k + 1, by omega, by go_num, hnk⟩
      case measure => simp [intOf]; omega
    · have hidx : l.idxOf 0 = k := idxOf_at l k (by omega) hnot.out (by
        rcases Nat.lt_or_ge k l.length with h | h
        · right
          refine ⟨h, ?_⟩
          have : ¬ nonZero l[k] = true := fun h2 => hgo ⟨h, h2⟩
          simpa [nonZero] using this
        · left; omega)
      have HNA : Hidden (nameAt l = l.take k) := ⟨by unfold nameAt; rw [hidx]⟩
      have HNR : Hidden (nameRest l = l.drop k) := ⟨by unfold nameRest; rw [hidx]⟩
      clear hnot hidx
      have hk8 : decide (k < 8) = true → ∃ h : k < l.length, (((l[k]).toNat : Int) != 0) = false := fun h => by
        have h' : k < 8 := by simpa using h
        refine ⟨by omega, ?_⟩
        have : ¬ nonZero l[k] = true := fun h2 => hgo ⟨by omega, h2⟩
        rw [bv_bne]; simpa using this
      clear hgo
      have hna : Rd w (some ⟨p, off, none⟩) (l.take k) := hr.take k (by omega)
      have hcv := conv_text w (some ⟨p, off, none⟩) k c (l.take k) (by simp; omega) hna
      have hkl : (l.take k).length ≤ 140737488351232 := by simp; omega
      have kk0 : (0 : Int) ≤ (k : Int) := by omega
      have HNM : Hidden (isName (nameAt l) = isName (l.take k)) := ⟨by rw [HNA.out]⟩
      cases hd : decide (k < 8) with
      | true =>
        obtain ⟨hltl, hz⟩ := hk8 hd
        have hcell := hr.at_ k hltl
        have k1 : (k : Int) < 8 := by have : k < 8 := by simpa using hd
                                      omega
        clear hk8 hd
        go_wp2_with fail
        go_loop [5] (fun i => ∃ j : Nat, k ≤ j ∧ j ≤ 8 ∧ i = .int .i64 j ∧ Hidden (∀ q (h : q < l.length), k ≤ q → q < j → nonZero l[q] = false)) (fun i => 8 - (intOf i).toNat)
        case atStart => exact ⟨k, Nat.le_refl _, hk, rfl, ⟨fun q _ h1 h2 => by omega⟩⟩
        case round =>
          obtain ⟨j, hkj, hj, rfl, hall⟩ := hrel
          by_cases hlt : j < 8
          · have hcj := hr.at_ j (by omega)
            have hb := bv_bne (l[j]'(by omega))
            have j0 : (0 : Int) ≤ j := by omega
            have j1 : (j : Int) < 8 := by omega
            cases hz2 : nonZero (l[j]'(by omega)) with
            | true =>
              rw [hz2] at hb
              have hr2 : Hidden (#[sv [], .int .i64 2] = res) := ⟨by
                rw [← HRES.out, if_neg]
                intro hg
                simp only [gotName, Bool.and_eq_true, Bool.not_eq_true', HNR.out] at hg
                have hm : l[j]'(by omega) ∈ l.drop k := by
                  rw [List.mem_iff_getElem]
                  exact ⟨j - k, by simp; omega, by simp [show k + (j - k) = j from by omega]⟩
                have := List.any_eq_true.2 ⟨_, hm, hz2⟩
                rw [hg.2] at this
                cases this⟩
              clear hz2 hall
              go_wp2_with fail
              go_ret2
              exact ⟨congrArg (fun r => Ending.returned (.tuple r)) hr2.out, rfl⟩
            | false =>
              rw [hz2] at hb
              have hnk : Hidden (∀ q (h : q < l.length), k ≤ q → q < j + 1 → nonZero l[q] = false) := ⟨fun q h h1 h2 => by
                rcases Nat.lt_or_ge q j with h3 | h3
                · exact hall.out q h h1 h3
                · obtain rfl : q = j := by omega
                  exact hz2⟩
              clear hz2 hall
              go_wp2_with fail
              go_round
              case rel => exact ⟨j + 1, by omega, by omega, by go_num, hnk⟩
              case measure => simp [intOf]; omega
          · have hrest : Hidden ((nameRest l).any nonZero = false) := ⟨by
              rw [HNR.out, List.any_eq_false]
              intro x hx
              obtain ⟨q, hq, rfl⟩ := List.mem_iff_getElem.1 hx
              simp at hq
              have := hall.out (k + q) (by omega) (by omega) (by omega)
              simpa using this⟩
            clear hall
            go_wp2_with fail
            refine (refName_any (l.take k) _ hkl).mono ?_
            rintro e w2 ⟨rfl, rfl⟩
            cases hnm : isName (l.take k) with
            | false =>
              have hr2 : Hidden (#[sv [], .int .i64 2] = res) := ⟨by rw [← HRES.out]; simp [gotName, HNM.out, hnm]⟩
              clear hnm
              go_wp2_with fail
              go_ret2
              exact ⟨congrArg (fun r => Ending.returned (.tuple r)) hr2.out, rfl⟩
            | true =>
              have hr2 : Hidden (#[sv (l.take k), .int .i64 0] = res) := ⟨by rw [← HRES.out]; simp [gotName, hnm, hrest.out, HNA.out]⟩
              clear hnm
              go_wp2_with fail
              go_ret2
              exact ⟨congrArg (fun r => Ending.returned (.tuple r)) hr2.out, rfl⟩
      | false =>
        have k1 : ¬ (k : Int) < 8 := by have : ¬ k < 8 := by simpa using hd
                                        omega
        clear hk8 hd
        go_wp2_with fail
        go_loop [5] (fun i => ∃ j : Nat, k ≤ j ∧ j ≤ 8 ∧ i = .int .i64 j ∧ Hidden (∀ q (h : q < l.length), k ≤ q → q < j → nonZero l[q] = false)) (fun i => 8 - (intOf i).toNat)
        case atStart => exact ⟨k, Nat.le_refl _, hk, rfl, ⟨fun q _ h1 h2 => by omega⟩⟩
        case round =>
          obtain ⟨j, hkj, hj, rfl, hall⟩ := hrel
          by_cases hlt : j < 8
          · have hcj := hr.at_ j (by omega)
            have hb := bv_bne (l[j]'(by omega))
            have j0 : (0 : Int) ≤ j := by omega
            have j1 : (j : Int) < 8 := by omega
            cases hz2 : nonZero (l[j]'(by omega)) with
            | true =>
              rw [hz2] at hb
              have hr2 : Hidden (#[sv [], .int .i64 2] = res) := ⟨by
                rw [← HRES.out, if_neg]
                intro hg
                simp only [gotName, Bool.and_eq_true, Bool.not_eq_true', HNR.out] at hg
                have hm : l[j]'(by omega) ∈ l.drop k := by
                  rw [List.mem_iff_getElem]
                  exact ⟨j - k, by simp; omega, by simp [show k + (j - k) = j from by omega]⟩
                have := List.any_eq_true.2 ⟨_, hm, hz2⟩
                rw [hg.2] at this
                cases this⟩
              clear hz2 hall
              go_wp2_with fail
              go_ret2
              exact ⟨congrArg (fun r => Ending.returned (.tuple r)) hr2.out, rfl⟩
            | false =>
              rw [hz2] at hb
              have hnk : Hidden (∀ q (h : q < l.length), k ≤ q → q < j + 1 → nonZero l[q] = false) := ⟨fun q h h1 h2 => by
                rcases Nat.lt_or_ge q j with h3 | h3
                · exact hall.out q h h1 h3
                · obtain rfl : q = j := by omega
                  exact hz2⟩
              clear hz2 hall
              go_wp2_with fail
              go_round
              case rel => exact ⟨j + 1, by omega, by omega, by go_num, hnk⟩
              case measure => simp [intOf]; omega
          · have hrest : Hidden ((nameRest l).any nonZero = false) := ⟨by
              rw [HNR.out, List.any_eq_false]
              intro x hx
              obtain ⟨q, hq, rfl⟩ := List.mem_iff_getElem.1 hx
              simp at hq
              have := hall.out (k + q) (by omega) (by omega) (by omega)
              simpa using this⟩
            clear hall
            go_wp2_with fail
            refine (refName_any (l.take k) _ hkl).mono ?_
            rintro e w2 ⟨rfl, rfl⟩
            cases hnm : isName (l.take k) with
            | false =>
              have hr2 : Hidden (#[sv [], .int .i64 2] = res) := ⟨by rw [← HRES.out]; simp [gotName, HNM.out, hnm]⟩
              clear hnm
              go_wp2_with fail
              go_ret2
              exact ⟨congrArg (fun r => Ending.returned (.tuple r)) hr2.out, rfl⟩
            | true =>
              have hr2 : Hidden (#[sv (l.take k), .int .i64 0] = res) := ⟨by rw [← HRES.out]; simp [gotName, hnm, hrest.out, HNA.out]⟩
              clear hnm
              go_wp2_with fail
              go_ret2
              exact ⟨congrArg (fun r => Ending.returned (.tuple r)) hr2.out, rfl⟩
end Go.Proofs.YtijcclpnkfmpnaaGreat
