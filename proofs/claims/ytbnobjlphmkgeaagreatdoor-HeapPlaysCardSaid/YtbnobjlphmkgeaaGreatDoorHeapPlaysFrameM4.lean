/- Contracts and plain laws, put together: Heap6, Heap7, HeapP, KeepP, Root2, Root3, Open3, ImageBack0, RootLP, RootL1, MoveP, LayE, Move1, Move2, Move3, UndoBackP, Open8, Reach1, ReachP, SweepP, StoreP, LayM, Keys2, LayDf, Undo1, Store1, EqB, LayR, SortI, SortJ. -/
import Derived.Test.YtbnobjlphmkgeaaGreatDoorHeapPlaysFrameM3
import Derived.Test.YtbnobjlphmkgeaaGreatDoorHeapPlaysFrameM1
import Derived.Deep.Grids
import Derived.Test.YtbnobjlphmkgeaaGreatDoorHeapPlaysFrameM2
import Derived.Deep.DeepCutAuto
import Derived.Deep.CutBlock
import Derived.Shelf.SlGeneric
import Derived.Shelf.SlSortCmp.WholeK
import Derived.Ground.SlsfProg
import Derived.Deep.LoopGhost
import Derived.Lib.SlicesCompact
import Derived.Shelf.SlMaps.DeleteFunc
import Derived.Ground.SlmdProg
import Derived.Deep.RegionHeld3
import Derived.StillTailTactics
import Derived.BigQuiet
import Derived.Shelf.Slices.CompactI
import Derived.Shelf.Slices.Reverse
/- The heap: Alloc. -/
namespace Go.Proofs.YtbnobjlphmkgeaaGreatDoor
open Go.RowKit

section
variable {w0 w : World} {F : Nat → Prop} {h : Nat} {l : Bytes}
/-- a heap's image, for a walk that writes into it -/
theorem Hp.rowW (hp : Hp w0 w F h l) : ∃ g cap cur, w.cell? ⟨h, 0, none⟩ = some (.slice (some ⟨g, 0, none⟩) l.length cap) ∧ w.heap[g]? = some (.cells cur 5 (0, 0)) ∧ cur.size = cap ∧ l.length ≤ cap ∧ cap ≤ maxLen ∧ Row w 5 g cap l ∧ F g ∧
    ∀ o (bs : Bytes), o + bs.length ≤ l.length → Hp w0 (w.setRow g (setB cur o (bs.map bv))) F h (splice l o bs) ∧ Keep F w (w.setRow g (setB cur o (bs.map bv))) := by
  obtain ⟨g, cap, h1, h2, h3⟩ := hp.hd
  have h2' := h2
  obtain ⟨cur, e1, e2, e3, e4, e5⟩ := h2'
  have hne : h ≠ g := ne_row h1 h2 (by decide)
  refine ⟨g, cap, cur, by simp [World.cell?, h1], e1, e4, e2, e3, h2, h3, fun o bs hb => ?_⟩
  have hl := splice_len l bs o hb
  have hsz : (w.setRow g (setB cur o (bs.map bv))).heap.size = w.heap.size := by simp [World.setRow]
  have hk : Keep F w (w.setRow g (setB cur o (bs.map bv))) := ⟨rfl, rfl, rfl, Nat.le_of_eq hsz.symm, fun k _ hn => setRow_other w g _ _ (fun e => hn (e ▸ h3))⟩
  refine ⟨⟨⟨g, cap, by rw [hl]; exact (setRow_other w g _ _ hne).trans h1, h2.set_ o bs hb cur e1, h3⟩, hp.fh, by rw [hl]; exact hp.len, hp.new, fun k hk' => by rw [hsz]; exact hp.flt k hk', hkeep_below hp.bel hk hp.new⟩, hk⟩
end
/-- the first handle that is free (0: none), of the last j -/
def fH (l : Bytes) : Nat → Nat
  | 0 => 0
  | j + 1 => if hasE (rawE l (39 - j)) = true then fH l j else 40 - j
theorem fH_le (l : Bytes) : ∀ j, j ≤ 40 → fH l j ≤ 40
  | 0, _ => by simp [fH]
  | j + 1, hj => by
    unfold fH; split
    · exact fH_le l j (by omega)
    · omega
theorem fH_spec (l : Bytes) : ∀ j, j ≤ 40 → (fH l j = 0 ∧ ∀ k, 40 - j ≤ k → k < 40 → hasE (rawE l k) = true) ∨ (∃ k, 40 - j ≤ k ∧ k < 40 ∧ fH l j = k + 1 ∧ hasE (rawE l k) = false ∧ ∀ i, 40 - j ≤ i → i < k → hasE (rawE l i) = true)
  | 0, _ => .inl ⟨rfl, fun k h1 h2 => by omega⟩
  | j + 1, hj => by
    cases hh : hasE (rawE l (39 - j)) with
    | true =>
      have e : fH l (j + 1) = fH l j := by simp [fH, hh]
      rw [e]
      rcases fH_spec l j (by omega) with ⟨h0, hall⟩ | ⟨k, k1, k2, k3, k4, k5⟩
      · refine .inl ⟨h0, fun k h1 h2 => ?_⟩
        by_cases hk : k = 39 - j
        · rw [hk]; exact hh
        · exact hall k (by omega) h2
      · refine .inr ⟨k, by omega, k2, k3, k4, fun i h1 h2 => ?_⟩
        by_cases hi : i = 39 - j
        · rw [hi]; exact hh
        · exact k5 i (by omega) h2
    | false =>
      have e : fH l (j + 1) = 40 - j := by simp [fH, hh]
      exact .inr ⟨39 - j, by omega, by omega, by omega, hh, fun i h1 h2 => by omega⟩
/-- the fault of Alloc; where; the handle; the image behind it -/
def allocE (l : Bytes) (n t : Int) : Nat := if lenB n = false ∨ tagB t = false then 1 else if fH l 40 = 0 ∨ fitE ((l.length : Int) - 288) (takenL l) n ≠ 0 then 4 else 0
def allocA (l : Bytes) (n : Int) : Int := fitA ((l.length : Int) - 288) (takenL l) n + 288
def allocH (l : Bytes) (n t : Int) : Int := if allocE l n t = 0 then fH l 40 else 0
def allocL (l : Bytes) (n t : Int) : Bytes := if allocE l n t = 0 then splice (putEnt l (fH l 40) (allocA l n) n t) (allocA l n).toNat (List.replicate n.toNat 0) else l
theorem alloc_in {l : Bytes} {n : Int} (h : fitE ((l.length : Int) - 288) (takenL l) n = 0) : 288 ≤ allocA l n ∧ allocA l n + n ≤ l.length := by
  have hc : chkX ((l.length : Int) - 288) (takenL l) = 0 := by
    unfold fitE at h
    by_cases hc : chkX ((l.length : Int) - 288) (takenL l) = 0
    · exact hc
    · rw [if_neg hc] at h; exact absurd h hc
  obtain ⟨L, m1, m2, m3, _, _⟩ := fit_some hc h
  have := holes_mem hc _ m1
  unfold allocA
  dsimp only at this
  omega
section
variable {w0 w : World} {F : Nat → Prop} {h : Nat} {l : Bytes}
theorem halloc_e1 (n t : Int) (_hp : Hp w0 w F h l) (hbad : lenB n = false ∨ tagB t = false) :
    Calls Tryz.prog 13 #[.pointer (some ⟨h, 0, none⟩), .int .i64 n, .int .i64 t] w fun e w' => e = .returned (.tuple #[.int .i64 0, .iface 111 (.int .i64 1)]) ∧ w = w' := by
  cases h1 : lenB n with
  | false =>
    clear hbad
    go_enter Tryz.func13, Tryz.ntmps13
    go_wp2_with fail
    refine (len_any _ _).mono ?_
    rintro e w' ⟨rfl, rfl⟩
    rw [h1]
    go_wp2_with fail
    go_ret2
    exact ⟨rfl, rfl⟩
  | true =>
    have h2 : tagB t = false := by simpa [h1] using hbad
    clear hbad
    go_enter Tryz.func13, Tryz.ntmps13
    go_wp2_with fail
    refine (len_any _ _).mono ?_
    rintro e w' ⟨rfl, rfl⟩
    rw [h1]
    go_wp2_with fail
    refine (tag_any _ _).mono ?_
    rintro e w' ⟨rfl, rfl⟩
    rw [h2]
    go_wp2_with fail
    go_ret2
    exact ⟨rfl, rfl⟩
set_option maxRecDepth 100000 in
theorem halloc_go (n t : Int) (hp : Hp w0 w F h l) (h1 : lenB n = true) (h2 : tagB t = true) :
    Calls Tryz.prog 13 #[.pointer (some ⟨h, 0, none⟩), .int .i64 n, .int .i64 t] w fun e w' => e = .returned (.tuple #[.int .i64 (allocH l n t), errV (allocE l n t)]) ∧ ∃ F', HpM w0 w w' F F' h (allocL l n t) := by
  have hb := rightB_true.1 hp.len
  have hnb := lenB_true.1 h1
  have HP := Hidden.mk hp
  have HG : Hidden (∀ (j : Nat), j < 40 → ∀ W, Hp w0 W F h l → ∃ g cap, W.cell? ⟨h, 0, none⟩ = some (.slice (some ⟨g, 0, none⟩) l.length cap) ∧ Calls Tryz.prog 66 #[.slice (some ⟨g, 0, none⟩) l.length cap, .int .i64 ((39 - j : Nat) + 1 : Int)] W fun e w' => ∃ a b c d : Int, e = .returned (.tuple #[.agg #[.int .i64 a, .int .i64 b, .int .i64 c, .int .i64 d], errV (if hasE (rawE l (39 - j)) = true then 0 else 5)]) ∧ Below W.heap.size W w') := ⟨fun j hj W hW => by
    obtain ⟨g, cap, c0, hcap, hrow, _⟩ := hW.open_
    refine ⟨g, cap, c0, (iget_ans (some ⟨g, 0, none⟩) l.length cap l _ W rfl hW.len hcap hrow.rd).mono ?_⟩
    rintro e w' ⟨rfl, hb'⟩
    have e : hE l ((39 - j : Nat) + 1 : Int) = if hasE (rawE l (39 - j)) = true then 0 else 5 := by
      cases hh : hasE (rawE l (39 - j)) with
      | true => rw [(hE_has (by omega) hh).1]; rfl
      | false => rw [hE_hasnt (by omega) hh]; rfl
    rw [e]
    exact ⟨_, _, _, _, rfl, hb'⟩⟩
  have HE : Hidden (allocE l n t = if fH l 40 = 0 ∨ fitE ((l.length : Int) - 288) (takenL l) n ≠ 0 then 4 else 0) := ⟨by unfold allocE; rw [if_neg (by simp [h1, h2])]⟩
  have HH : Hidden (allocH l n t = if allocE l n t = 0 then (fH l 40 : Int) else 0) := ⟨rfl⟩
  have HL : Hidden (allocL l n t = if allocE l n t = 0 then splice (putEnt l (fH l 40) (allocA l n) n t) (allocA l n).toNat (List.replicate n.toNat 0) else l) := ⟨rfl⟩
  clear hp
  go_enter Tryz.func13, Tryz.ntmps13
  go_wp2_with fail
  refine (len_any _ _).mono ?_
  rintro e w' ⟨rfl, rfl⟩
  rw [h1]
  go_wp2_with fail
  refine (tag_any _ _).mono ?_
  rintro e w' ⟨rfl, rfl⟩
  rw [h2]
  go_wp2_with fail
  go_loopg [8, 9] 40 (fun q v i wr => ∃ j : Nat, j ≤ 40 ∧ q = 40 - j ∧ i = .int .i64 (40 - (j : Int)) ∧ v = .int .i64 (fH l j : Int) ∧ Hidden (Below w.heap.size w wr))
  case atStart => exact ⟨0, by omega, rfl, rfl, rfl, ⟨Below.refl _ _⟩⟩
  case round =>
    obtain ⟨j, hj, rfl, rfl, rfl, hst⟩ := hrel
    by_cases hlt : j < 40
    · obtain ⟨g, cap, y0, hget⟩ := HG.out j hlt wr (HP.out.below hst.out)
      have e1 : ((39 - j : Nat) + 1 : Int) = 40 - (j : Int) := by omega
      rw [e1] at hget
      have HGT := Hidden.mk hget
      have HS : Hidden (fH l (j + 1) = if hasE (rawE l (39 - j)) = true then fH l j else 40 - j) := ⟨rfl⟩
      have t0 : decide (1 ≤ 40 - (j : Int)) = true := by simp; omega
      have s1 : IntKind.i64.wrap (40 - (j : Int) - 1) = 40 - ((j + 1 : Nat) : Int) := by rw [IntWalk.i64_in _ (by omega)]; omega
      generalize fH l j = fj at *
      clear hget e1
      go_wp2_with fail
      refine HGT.out.mono ?_
      rintro e w1 ⟨a, b, c, d, rfl, hb1⟩
      have hB1 := hst.out.trans (hb1.mono hst.out.size)
      have HB := Hidden.mk (hB1.alloc hB1.size (.cells #[.int .i64 a, .int .i64 b, .int .i64 c, .int .i64 d] 66))
      clear hb1 hB1 hst HGT
      cases hh : hasE (rawE l (39 - j)) with
      | true =>
        rw [if_pos rfl]
        have HS2 : Hidden (fH l (j + 1) = fj) := ⟨by rw [HS.out, if_pos hh]⟩
        rw [show errV 0 = Value.nilIface from rfl]
        clear hh HS
        go_wp2_with fail
        go_roundg (40 - (j + 1))
        case measure => omega
        case rel => exact ⟨j + 1, by omega, rfl, rfl, by rw [HS2.out], HB⟩
      | false =>
        rw [if_neg (by decide)]
        have HS2 : Hidden (fH l (j + 1) = 40 - j) := ⟨by rw [HS.out, if_neg (by rw [hh]; decide)]⟩
        rw [show errV 5 = .iface 111 (.int .i64 5) from rfl]
        clear hh HS
        go_wp2_with fail
        go_roundg (40 - (j + 1))
        case measure => omega
        case rel => exact ⟨j + 1, by omega, rfl, rfl, by rw [HS2.out]; congr 1; omega, HB⟩
    · obtain rfl : j = 40 := by omega
      have HP2 := Hidden.mk (HP.out.below hst.out)
      have HT := Hidden.mk (htaken_any HP2.out)
      have t0 : decide (1 ≤ 40 - ((40 : Nat) : Int)) = false := by decide
      have hfl := fH_le l 40 (Nat.le_refl _)
      have HW1 := Hidden.mk hst.out
      clear hst HG
      go_wp2_with fail
      refine HT.out.mono ?_
      rintro e w1 ⟨A, m, c, rfl, hm, hmc, hrx, hb1⟩
      have HW2 := Hidden.mk (HW1.out.trans (hb1.mono HW1.out.size))
      have HF := Hidden.mk (xfit_any ((l.length : Int) - 288) A m c (takenL l) n w1 hm hmc hrx)
      clear hb1 hrx HT HW1 HP2 t0
      have HIN : Hidden (fitE ((l.length : Int) - 288) (takenL l) n = 0 → 288 ≤ allocA l n ∧ allocA l n + n ≤ l.length) := ⟨alloc_in⟩
      have HAD : Hidden (allocA l n = fitA ((l.length : Int) - 288) (takenL l) n + 288) := ⟨rfl⟩
      generalize fitE ((l.length : Int) - 288) (takenL l) n = fe at *
      generalize fitA ((l.length : Int) - 288) (takenL l) n = fa at *
      generalize allocA l n = aa at *
      generalize fH l 40 = fh at *
      go_wp2_with fail
      refine HF.out.mono ?_
      rintro e w2 ⟨rfl, hb2⟩
      have HW3 := Hidden.mk (HW2.out.trans (hb2.mono HW2.out.size))
      clear hb2 HF HW2
      by_cases hz : fh = 0
      · have hae : allocE l n t = 4 := by rw [HE.out, if_pos (.inl hz)]
        have HAH : Hidden (allocE l n t = 4 ∧ allocH l n t = 0 ∧ allocL l n t = l) := ⟨hae, by rw [HH.out, hae]; rfl, by rw [HL.out, hae]; rfl⟩
        clear hae
        subst hz
        have HFIN := Hidden.mk (HP.out.same HW3.out)
        generalize errV fe = ev at *
        clear HE HH HL
        go_wp2_with fail
        go_ret2
        exact ⟨by rw [HAH.out.1, HAH.out.2.1]; rfl, _, by rw [HAH.out.2.2]; exact HFIN.out⟩
      · by_cases hfe : fe = 0
        · have hae : allocE l n t = 0 := by rw [HE.out, if_neg (by omega)]
          have hah : allocH l n t = fh := by rw [HH.out, hae]; rfl
          have hin := HIN.out hfe
          rw [hfe, show errV 0 = Value.nilIface from rfl]
          have t1 : (fh == 0) = false := by simpa using hz
          have t2 : ((fh : Int) == 0) = false := by simpa using hz
          have s1 : IntKind.i64.wrap (fa + 288) = aa := by rw [HAD.out, IntWalk.i64_in _ (by have := HAD.out; omega)]
          have HLL : Hidden (allocL l n t = splice (putEnt l fh aa n t) aa.toNat (List.replicate n.toNat 0)) := ⟨by rw [HL.out, hae]; rfl⟩
          have HAH := Hidden.mk (And.intro hae hah)
          clear hae hah
          obtain ⟨a, rfl⟩ := Int.eq_ofNat_of_zero_le (show 0 ≤ aa by omega)
          obtain ⟨nn, rfl⟩ := Int.eq_ofNat_of_zero_le (show 0 ≤ n by omega)
          have hal : allocL l nn t = splice (putEnt l fh a nn t) a (List.replicate nn 0) := HLL.out
          have hwb : withinB l.length (a : Int) (nn : Int) = true := withinB_true.2 (by omega)
          have hal1 : Below w2.heap.size w2 (w2.alloc (.cells #[.int .i64 fh, .int .i64 a, .int .i64 nn, .int .i64 t] 66)) := (Below.refl _ _).alloc (Nat.le_refl _) _
          have hp3 := HP.out.below (HW3.out.trans (hal1.mono HW3.out.size))
          have HPUT := Hidden.mk (fun (W : World) (hW : Hp w0 W F h l) => hput_ok (fh : Int) (a : Int) (nn : Int) t hW (handleB_true.2 (by omega)) h2 h1 hwb)
          have hpl : (putEnt l fh a nn t).length = l.length := putEnt_len l fh a nn t (by omega) (by omega) (by omega)
          have HPL := Hidden.mk hpl
          have HALL := Hidden.mk hal
          have hf := fourAt_one w2 fh a nn t 66
          have HW4 := Hidden.mk (HW3.out.trans (hal1.mono HW3.out.size))
          have HP4 := Hidden.mk hp3
          generalize putEnt l fh a nn t = l1 at *
          clear hal hal1 hp3 hwb hpl HE HH HL HIN HAD hfe hz HLL
          go_wp2_with fail
          generalize w2.alloc (.cells #[.int .i64 fh, .int .i64 a, .int .i64 nn, .int .i64 t] 66) = w3 at *
          refine (HPUT.out _ HP4.out).mono ?_
          rintro e w4 ⟨rfl, F4, hm4⟩
          obtain ⟨f0, f1, f2, f3⟩ := hf
          have hfl4 : w2.heap.size < w3.heap.size := block_lt_of_cell f0
          have hno : ¬ F w2.heap.size := fun hk => by have := HP.out.flt _ hk; have := HW3.out.size; omega
          have hk4 := hm4.kp.block _ hfl4 hno
          have g0 := (World.cell?_of_block (w := w3) (a := ⟨w2.heap.size, 0, none⟩) hk4).trans f0
          have g1 := (World.cell?_of_block (w := w3) (a := ⟨w2.heap.size, 1, none⟩) hk4).trans f1
          have g2 := (World.cell?_of_block (w := w3) (a := ⟨w2.heap.size, 2, none⟩) hk4).trans f2
          have g3 := (World.cell?_of_block (w := w3) (a := ⟨w2.heap.size, 3, none⟩) hk4).trans f3
          obtain ⟨gi, ci, cur4, y0, -, -, hci, -, -, -, -⟩ := hm4.hp.rowW
          rw [HPL.out] at y0 hci
          have HOF := Hidden.mk (hof_any (h := h) gi ci a nn fh t w4 ⟨_, y0⟩ (by omega) (by omega) (by omega))
          have HM := Hidden.mk (((HP.out.same HW4.out).trans hm4))
          have HY0 := Hidden.mk y0
          clear f0 f1 f2 f3 hfl4 hno hk4 hm4 HPUT
          go_wp2_with fail
          refine HOF.out.mono ?_
          rintro e w5 ⟨rfl, hb5⟩
          have hm5 := HM.out.trans (HM.out.hp.same hb5)
          obtain ⟨g5, c5, cur5, z0, z1, z2, z3, -, -, -, z4⟩ := hm5.hp.rowW
          have hyz := ((hb5.cell (p := ⟨h, 0, none⟩) (block_lt_of_cell HY0.out)).trans HY0.out).symm.trans z0
          have hyz := Option.some.inj hyz
          injection hyz with q1 q2 q3
          injection q1 with q1
          injection q1 with q1
          subst q1 q3
          rw [HPL.out] at z3
          have hclear := fun ty => run_clear_row w5 gi a nn (ci - a) cur5 _ z1 (by omega) (by omega) ty
          have hz4 := z4 a (List.replicate nn 0) (by rw [HPL.out]; simp; omega)
          have HFIN := Hidden.mk (hm5.trans (HpM.mk hz4.1 hz4.2 (fun k hk => .inl hk)))
          clear z0 z2 z3 z4 hz4 hm5 hb5 HOF HM HY0 y0 q2
          go_wp2_with fail
          go_ret2
          exact ⟨by rw [HAH.out.1, HAH.out.2]; rfl, _, by rw [HALL.out]; have hF := HFIN.out; rw [List.map_replicate] at hF; exact hF⟩
        · have hae : allocE l n t = 4 := by rw [HE.out, if_pos (.inr hfe)]
          have HAH : Hidden (allocE l n t = 4 ∧ allocH l n t = 0 ∧ allocL l n t = l) := ⟨hae, by rw [HH.out, hae]; rfl, by rw [HL.out, hae]; rfl⟩
          clear hae
          have hev : errV fe = .iface 111 (.int .i64 fe) := by unfold errV; rw [if_neg hfe]
          rw [hev]
          have t1 : (fh == 0) = false := by simpa using hz
          have t2 : ((fh : Int) == 0) = false := by simpa using hz
          have HFIN := Hidden.mk (HP.out.same HW3.out)
          clear HE HH HL hfe hz hev
          go_wp2_with fail
          go_ret2
          exact ⟨by rw [HAH.out.1, HAH.out.2.1]; rfl, _, by rw [HAH.out.2.2]; exact HFIN.out⟩
theorem halloc_any (n t : Int) (hp : Hp w0 w F h l) :
    Calls Tryz.prog 13 #[.pointer (some ⟨h, 0, none⟩), .int .i64 n, .int .i64 t] w fun e w' => e = .returned (.tuple #[.int .i64 (allocH l n t), errV (allocE l n t)]) ∧ ∃ F', HpM w0 w w' F F' h (allocL l n t) := by
  by_cases hbad : lenB n = false ∨ tagB t = false
  · have h1 : allocE l n t = 1 := by unfold allocE; rw [if_pos hbad]
    have h2 : allocH l n t = 0 := by unfold allocH; rw [h1]; rfl
    have h3 : allocL l n t = l := by unfold allocL; rw [h1]; rfl
    rw [h1, h2, h3]
    refine (halloc_e1 n t hp hbad).mono ?_
    rintro e w' ⟨rfl, rfl⟩
    exact ⟨rfl, F, hp.same (Below.refl _ _)⟩
  · exact halloc_go n t hp (by cases hx : lenB n <;> simp_all) (by cases hx : tagB t <;> simp_all)
end
end Go.Proofs.YtbnobjlphmkgeaaGreatDoor
/- The heap: bytes of an object that are read, or written. -/
namespace Go.Proofs.YtbnobjlphmkgeaaGreatDoor
open Go.RowKit

/-- the fault of some bytes of an object -/
def someE (l : Bytes) (x a n : Int) : Nat := if hE l x ≠ 0 then hE l x else if a < 0 ∨ n < 0 ∨ gL l x < a ∨ gL l x - a < n then 3 else 0
/-- the bytes; the image in which others stand there -/
def readL (l : Bytes) (x a n : Int) : Bytes := if someE l x a n = 0 then (l.drop (gA l x + a).toNat).take n.toNat else []
def writeL (l : Bytes) (x a : Int) (b : Bytes) : Bytes := if someE l x a b.length = 0 then splice l (gA l x + a).toNat b else l
theorem some_in {l : Bytes} (hg : Good l) {x a n : Int} (h : someE l x a n = 0) : hE l x = 0 ∧ 0 ≤ a ∧ 0 ≤ n ∧ a + n ≤ gL l x ∧ 288 ≤ gA l x ∧ 1 ≤ gL l x ∧ gL l x ≤ 1000 ∧ gA l x + gL l x ≤ l.length := by
  unfold someE at h
  by_cases h0 : hE l x = 0
  · rw [if_neg (by simp [h0])] at h
    have := good_in hg h0
    by_cases hb : a < 0 ∨ n < 0 ∨ gL l x < a ∨ gL l x - a < n
    · rw [if_pos hb] at h; cases h
    · omega
  · rw [if_pos h0] at h; exact absurd h h0
section
variable {w0 w : World} {F : Nat → Prop} {h : Nat} {l : Bytes}
set_option maxRecDepth 100000 in
theorem hsome_e (x a n : Int) (hp : Hp w0 w F h l) (hg : Good l) (he : someE l x a n ≠ 0) (hn : n ≤ 9223372036854775807) :
    Calls Tryz.prog 76 #[.pointer (some ⟨h, 0, none⟩), .int .i64 x, .int .i64 a, .int .i64 n] w fun e w' => e = .returned (.tuple #[.slice none 0 0, .iface 111 (.int .i64 (someE l x a n : Int))]) ∧ Below w.heap.size w w' := by
  have hb := rightB_true.1 hp.len
  obtain ⟨g, cap, c0, hcap, hrow, hF⟩ := hp.open_
  have hcm := hrow.le.2
  have HC := Hidden.mk (iget_ans (some ⟨g, 0, none⟩) l.length cap l x w rfl hp.len hcap hrow.rd)
  unfold entV at HC
  have HGI : Hidden (hE l x = 0 → 288 ≤ gA l x ∧ 1 ≤ gL l x ∧ gL l x ≤ 1000 ∧ gA l x + gL l x ≤ l.length) := ⟨fun h0 => by have := good_in hg h0; omega⟩
  have HE : Hidden (someE l x a n = if hE l x ≠ 0 then hE l x else if a < 0 ∨ n < 0 ∨ gL l x < a ∨ gL l x - a < n then 3 else 0) := ⟨rfl⟩
  clear hp hrow hg
  by_cases h0 : hE l x = 0
  · have hin := HGI.out h0
    have hbad : a < 0 ∨ n < 0 ∨ gL l x < a ∨ gL l x - a < n := by
      refine Classical.byContradiction fun hb' => he ?_
      rw [HE.out, if_neg (by simp [h0]), if_neg hb']
    have hE3 : someE l x a n = 3 := by rw [HE.out, if_neg (by simp [h0]), if_pos hbad]
    rw [hE3]
    rw [h0, show errV 0 = Value.nilIface from rfl] at HC
    generalize gH l x = a0 at *
    generalize gT l x = a3 at *
    obtain ⟨ea, hea⟩ := Int.eq_ofNat_of_zero_le (show 0 ≤ gA l x by omega)
    obtain ⟨el, hel⟩ := Int.eq_ofNat_of_zero_le (show 0 ≤ gL l x by omega)
    rw [hea, hel] at HC
    rw [hea, hel] at hin
    rw [hel] at hbad
    clear HE HGI hE3 he h0 hea hel
    go_enter Tryz.func76, Tryz.ntmps76
    go_wp2_with fail
    refine HC.out.mono ?_
    rintro e w1 ⟨rfl, hb1⟩
    have hal := (Below.refl w1.heap.size w1).alloc (Nat.le_refl _) (.cells #[.int .i64 a0, .int .i64 (ea : Int), .int .i64 (el : Int), .int .i64 a3] 66)
    have hB2 := hb1.trans (hal.mono hb1.size)
    have HB2 := Hidden.mk hB2
    have HOF := Hidden.mk (hof_any (h := h) g cap ea el a0 a3 (w1.alloc (.cells #[.int .i64 a0, .int .i64 (ea : Int), .int .i64 (el : Int), .int .i64 a3] 66)) ⟨_, (hB2.cell (p := ⟨h, 0, none⟩) (block_lt_of_cell c0)).trans c0⟩ (by omega) (by omega) (by omega))
    have hf := fourAt_one w1 a0 (ea : Int) (el : Int) a3 66
    obtain ⟨f0, f1, f2, f3⟩ := hf
    clear hal hB2 hb1 HC c0
    go_wp2_with fail
    refine HOF.out.mono ?_
    rintro e w2 ⟨rfl, hb2⟩
    have HB3 := Hidden.mk (HB2.out.trans (hb2.mono HB2.out.size))
    clear hb2 HB2 HOF f0 f1 f2 f3
    by_cases q1 : a < 0
    · have d1 : decide (a < 0) = true := by simpa using q1
      clear hbad q1
      go_wp2_with fail
      go_ret2
      exact ⟨rfl, HB3.out⟩
    have d1 : decide (a < 0) = false := by simpa using q1
    by_cases q2 : n < 0
    · have d2 : decide (n < 0) = true := by simpa using q2
      clear hbad q1 q2
      go_wp2_with fail
      go_ret2
      exact ⟨rfl, HB3.out⟩
    have d2 : decide (n < 0) = false := by simpa using q2
    by_cases q3 : (el : Int) < a
    · have d3 : decide ((el : Int) < a) = true := by simpa using q3
      clear hbad q1 q2 q3
      go_wp2_with fail
      go_ret2
      exact ⟨rfl, HB3.out⟩
    have d3 : decide ((el : Int) < a) = false := by simpa using q3
    have s1 : IntKind.i64.wrap ((el : Int) - a) = (el : Int) - a := IntWalk.i64_in _ (by omega)
    have d4 : decide ((el : Int) - a < n) = true := by simp; omega
    clear hbad q1 q2 q3
    go_wp2_with fail
    go_ret2
    exact ⟨rfl, HB3.out⟩
  · have hE1 : someE l x a n = hE l x := by rw [HE.out, if_pos h0]
    have hev : errV (hE l x) = .iface 111 (.int .i64 (hE l x : Int)) := by unfold errV; rw [if_neg h0]
    rw [hE1]
    rw [hev] at HC
    generalize (hE l x : Int) = q at *
    generalize gH l x = a0 at *
    generalize gA l x = a1 at *
    generalize gL l x = a2 at *
    generalize gT l x = a3 at *
    clear HE HGI hE1 hev he h0
    go_enter Tryz.func76, Tryz.ntmps76
    go_wp2_with fail
    refine HC.out.mono ?_
    rintro e w1 ⟨rfl, hb1⟩
    have HB := Hidden.mk (hb1.alloc hb1.size (.cells #[.int .i64 a0, .int .i64 a1, .int .i64 a2, .int .i64 a3] 66))
    clear hb1 HC
    go_wp2_with fail
    go_ret2
    exact ⟨rfl, HB.out⟩
set_option maxRecDepth 100000 in
theorem hsome_ok (x a n : Int) (g cap : Nat) (hp : Hp w0 w F h l) (hg : Good l) (he : someE l x a n = 0) (c0 : w.cell? ⟨h, 0, none⟩ = some (.slice (some ⟨g, 0, none⟩) l.length cap)) :
    Calls Tryz.prog 76 #[.pointer (some ⟨h, 0, none⟩), .int .i64 x, .int .i64 a, .int .i64 n] w fun e w' => ∃ o c', e = .returned (.tuple #[.slice (some ⟨g, o, none⟩) n.toNat c', .nilIface]) ∧ (0 < n.toNat → o = (gA l x + a).toNat) ∧ o ≤ cap ∧ n.toNat ≤ c' ∧ Below w.heap.size w w' := by
  have hb := rightB_true.1 hp.len
  obtain ⟨g', cap', c0', hcap, hrow, hF⟩ := hp.open_
  rw [c0] at c0'
  have hinj := Option.some.inj c0'
  injection hinj with q1 q2 q3
  injection q1 with q1
  injection q1 with q1
  subst q1 q3
  clear c0' q2
  have hcm := hrow.le.2
  have hin := some_in hg he
  have HC := Hidden.mk (iget_ans (some ⟨g, 0, none⟩) l.length cap l x w rfl hp.len hcap hrow.rd)
  unfold entV at HC
  rw [hin.1, show errV 0 = Value.nilIface from rfl] at HC
  generalize gH l x = a0 at *
  generalize gT l x = a3 at *
  obtain ⟨ea, hea⟩ := Int.eq_ofNat_of_zero_le (show 0 ≤ gA l x by omega)
  obtain ⟨el, hel⟩ := Int.eq_ofNat_of_zero_le (show 0 ≤ gL l x by omega)
  obtain ⟨aa, rfl⟩ := Int.eq_ofNat_of_zero_le (show 0 ≤ a by omega)
  obtain ⟨nn, rfl⟩ := Int.eq_ofNat_of_zero_le (show 0 ≤ n by omega)
  rw [hea, hel] at HC
  rw [hea, hel] at hin
  rw [hea, show ((ea : Int) + (aa : Int)).toNat = ea + aa by omega, Int.toNat_natCast]
  obtain ⟨-, -, -, h4, h5, h6, h7, h8⟩ := hin
  have hcut := run_cutA (some ⟨g, ea, none⟩) el (cap - ea) aa (aa + nn) (by omega) (by omega)
  rw [Nat.add_sub_cancel_left] at hcut
  have HO : ∃ o, (if cap - ea = aa then some (⟨g, ea, none⟩ : Addr) else (some (⟨g, ea, none⟩ : Addr)).map (·.add aa)) = some ⟨g, o, none⟩ ∧ (0 < nn → o = ea + aa) ∧ o ≤ cap := by
    by_cases hq : cap - ea = aa
    · exact ⟨ea, by rw [if_pos hq], fun h => by omega, by omega⟩
    · exact ⟨ea + aa, by rw [if_neg hq, Option.map_some, Addr.add_lit], fun _ => rfl, by omega⟩
  obtain ⟨o, ho, ho1, ho2⟩ := HO
  rw [ho] at hcut
  simp only [Int.natCast_add] at hcut
  have HOO := Hidden.mk (And.intro ho1 ho2)
  have d1 : decide ((aa : Int) < 0) = false := by simp
  have d2 : decide ((nn : Int) < 0) = false := by simp
  have d3 : decide ((el : Int) < (aa : Int)) = false := by simp; omega
  have d3' : decide (el < aa) = false := by simp; omega
  have s1 : IntKind.i64.wrap ((el : Int) - aa) = (el : Int) - aa := IntWalk.i64_in _ (by omega)
  have d4 : decide ((el : Int) - aa < (nn : Int)) = false := by simp; omega
  have s2 : IntKind.i64.wrap ((aa : Int) + nn) = (aa : Int) + nn := IntWalk.i64_in _ (by omega)
  have HCN : Hidden (nn ≤ cap - ea - aa) := ⟨by omega⟩
  have HBD : Hidden (ea + el ≤ cap ∧ 1 ≤ el ∧ ea + el ≤ 281474976710656) := ⟨by omega⟩
  clear hea hel h4 h5 h6 h7 h8 ho ho1 ho2 he hg hp hrow
  go_enter Tryz.func76, Tryz.ntmps76
  go_wp2_with fail
  refine HC.out.mono ?_
  rintro e w1 ⟨rfl, hb1⟩
  have hal := (Below.refl w1.heap.size w1).alloc (Nat.le_refl _) (.cells #[.int .i64 a0, .int .i64 (ea : Int), .int .i64 (el : Int), .int .i64 a3] 66)
  have hB2 := hb1.trans (hal.mono hb1.size)
  have HB2 := Hidden.mk hB2
  have HOF := Hidden.mk (hof_any (h := h) g cap ea el a0 a3 (w1.alloc (.cells #[.int .i64 a0, .int .i64 (ea : Int), .int .i64 (el : Int), .int .i64 a3] 66)) ⟨_, (hB2.cell (p := ⟨h, 0, none⟩) (block_lt_of_cell c0)).trans c0⟩ HBD.out.1 HBD.out.2.1 HBD.out.2.2)
  have hf := fourAt_one w1 a0 (ea : Int) (el : Int) a3 66
  obtain ⟨f0, f1, f2, f3⟩ := hf
  clear hal hB2 hb1 HC c0
  go_wp2_with fail
  refine HOF.out.mono ?_
  rintro e w2 ⟨rfl, hb2⟩
  have HB3 := Hidden.mk (HB2.out.trans (hb2.mono HB2.out.size))
  clear hb2 HB2 HOF f0 f1 f2 f3
  go_wp2_with fail
  go_ret2
  exact ⟨o, _, rfl, HOO.out.1, HOO.out.2, HCN.out, HB3.out⟩
theorem hread_any (x a n : Int) (hp : Hp w0 w F h l) (hg : Good l) (hn : n ≤ 9223372036854775807) :
    Calls Tryz.prog 27 #[.pointer (some ⟨h, 0, none⟩), .int .i64 x, .int .i64 a, .int .i64 n] w fun e w' => ∃ A' c', e = .returned (.tuple #[.slice A' (readL l x a n).length c', errV (someE l x a n)]) ∧ (readL l x a n).length ≤ c' ∧ Rd w' A' (readL l x a n) ∧ (∀ ad, A' = some ad → w.heap.size ≤ ad.block) ∧ Below w.heap.size w w' := by
  by_cases he : someE l x a n = 0
  · have hin := some_in hg he
    obtain ⟨g, cap, c0, hcap, hrow, hF⟩ := hp.open_
    have HC := Hidden.mk (hsome_ok x a n g cap hp hg he c0)
    have hL : readL l x a n = (l.drop (gA l x + a).toNat).take n.toNat := by unfold readL; rw [if_pos he]
    have hlen : (readL l x a n).length = n.toNat := by rw [hL]; simp; omega
    have hcut := hrow.rd.cut (gA l x + a).toNat n.toNat (by omega)
    rw [← hL, Option.map_some, Addr.add_lit, Nat.zero_add] at hcut
    have HCUT := Hidden.mk hcut
    have hle : n.toNat ≤ 140737488351232 := by omega
    rw [he, hlen, show errV 0 = Value.nilIface from rfl]
    have HLN := Hidden.mk hlen
    generalize readL l x a n = rl at *
    generalize (gA l x + a).toNat = oo at *
    clear hp hg hrow hcut hL hlen hin he c0
    go_enter Tryz.func27, Tryz.ntmps27
    go_wp2_with fail
    refine HC.out.mono ?_
    rintro e w1 ⟨o, c', rfl, ho, -, hc', hb1⟩
    have hr1 : Rd w1 (some ⟨g, o, none⟩) rl := by
      by_cases h0 : 0 < n.toNat
      · rw [ho h0]; exact HCUT.out.below hb1
      · have : rl = [] := List.eq_nil_of_length_eq_zero (by rw [HLN.out]; omega)
        rw [this]; exact Rd.nil_
    have HB1 := Hidden.mk hb1
    have HCL := Hidden.mk (clone_some ⟨g, o, none⟩ n.toNat c' rl w1 HLN.out hle hr1)
    clear hb1 hr1 ho hc' HC
    go_wp2_with fail
    refine HCL.out.mono ?_
    rintro e w2 ⟨g2, cap2, rfl, hg2, hrow2, hb2⟩
    have HF2 := Hidden.mk (And.intro hrow2.le.1 (And.intro hrow2.rd (HB1.out.trans (hb2.mono HB1.out.size))))
    have HG2 := Hidden.mk (Nat.le_trans HB1.out.size hg2)
    clear hb2 hrow2 HCL
    go_wp2_with fail
    go_ret2
    exact ⟨some ⟨g2, 0, none⟩, cap2, rfl, by have := HF2.out.1; rw [HLN.out] at this; exact this, HF2.out.2.1, fun ad hA => by have := Option.some.inj hA; subst this; exact HG2.out, HF2.out.2.2⟩
  · have HC := Hidden.mk (hsome_e x a n hp hg he hn)
    have hL : readL l x a n = [] := by unfold readL; rw [if_neg he]
    have hev : errV (someE l x a n) = .iface 111 (.int .i64 (someE l x a n : Int)) := by unfold errV; rw [if_neg he]
    rw [hL, hev, List.length_nil]
    generalize (someE l x a n : Int) = q at *
    clear hp hg hL hev he
    go_enter Tryz.func27, Tryz.ntmps27
    go_wp2_with fail
    refine HC.out.mono ?_
    rintro e w1 ⟨rfl, hb1⟩
    have HB := Hidden.mk hb1
    clear hb1
    go_wp2_with fail
    refine (clone_nil 0 0 _).mono ?_
    rintro e w2 ⟨rfl, rfl⟩
    go_wp2_with fail
    go_ret2
    exact ⟨none, 0, rfl, Nat.le_refl _, Rd.nil_, (fun ad hA => by cases hA), HB.out⟩
/-- copy into nothing -/
theorem run_copy_none (w : World) (n c : Nat) (A : Option Addr) (ty : TypeId) :
    (Builtin.copy_ #[22, 22] ty #[.slice none 0 0, .slice A n c]).run Tryz.prog w = .ok (.int .i64 0) w := by
  obtain ⟨i0, hi0, hz0, hz1, hz2⟩ := info_parts byte_info
  cases A <;> simp [Builtin.copy_, run_underlying Tryz.underlying22, Builtin.lenOf, Builtin.firstCells, sizeOf, typeInfo, hi0, goInt, loadCells, loadCellsFrom]
theorem hwrite_any (x a : Int) (A : Option Addr) (n c : Nat) (b : Bytes) (hp : Hp w0 w F h l) (hg : Good l) (hn : b.length = n) (hn2 : n ≤ 140737488351232) (hrd : Rd w A b) :
    Calls Tryz.prog 17 #[.pointer (some ⟨h, 0, none⟩), .int .i64 x, .int .i64 a, .slice A n c] w fun e w' => e = .returned (errV (someE l x a n)) ∧ HpM w0 w w' F F h (writeL l x a b) := by
  by_cases he : someE l x a n = 0
  · have hin := some_in hg he
    obtain ⟨g, cap, cur, c0, hcur, hcs, hcap, hcm, hrow, hF, hst⟩ := hp.rowW
    have HC := Hidden.mk (hsome_ok x a n g cap hp hg he c0)
    rw [Int.toNat_natCast] at HC
    have hL : writeL l x a b = splice l (gA l x + a).toNat b := by unfold writeL; rw [hn, if_pos he]
    rw [he, hL, show errV 0 = Value.nilIface from rfl]
    have HP := Hidden.mk hp
    have HRD := Hidden.mk hrd
    have HN := Hidden.mk hn
    have hfit : (gA l x + a).toNat + n ≤ l.length := by omega
    generalize (gA l x + a).toNat = oo at *
    clear hg hrow hL hin he hst hp hrd hn hcur hcs
    go_enter Tryz.func17, Tryz.ntmps17
    go_wp2_with fail
    refine HC.out.mono ?_
    rintro e w1 ⟨o, c', rfl, ho, ho2, hc', hb1⟩
    have hp1 := HP.out.below hb1
    obtain ⟨g1, cap1, cur1, z0, z1, z2, z3, -, -, -, z4⟩ := hp1.rowW
    have hyz := Option.some.inj (((hb1.cell (p := ⟨h, 0, none⟩) (block_lt_of_cell c0)).trans c0).symm.trans z0)
    injection hyz with q1 q2 q3
    injection q1 with q1
    injection q1 with q1
    subst q1 q3
    have hcp := fun ty => run_copy_rd w1 g o n c' n c n A b cur1 _ z1 HN.out (HRD.out.below hb1) (by simp) (by
      by_cases h0 : 0 < n
      · rw [ho h0]; omega
      · omega) ty
    have HFIN : Hidden (HpM w0 w (w1.setRow g (setB cur1 o ((b.take n).map bv))) F F h (splice l oo b)) := ⟨by
      have hbt : b.take n = b := List.take_of_length_le (by rw [HN.out]; omega)
      rw [hbt]
      by_cases h0 : 0 < n
      · rw [ho h0]
        have := z4 oo b (by rw [HN.out]; omega)
        exact (HP.out.same hb1).trans ⟨this.1, this.2, fun k hk => .inl hk⟩
      · have hbn : b = [] := List.eq_nil_of_length_eq_zero (by rw [HN.out]; omega)
        rw [hbn]
        have e1 : splice l oo [] = l := by simp [splice]
        rw [e1, List.map_nil, setB_nil, setRow_self w1 g cur1 _ _ z1]
        exact HP.out.same hb1⟩
    clear hb1 hp1 z0 z1 z2 z3 z4 ho ho2 hc' q2 HC c0
    go_wp2_with fail
    go_ret
    exact ⟨rfl, by have hF := HFIN.out; rw [List.map_take] at hF; exact hF⟩
  · have HC := Hidden.mk (hsome_e x a n hp hg he (by omega))
    have hL : writeL l x a b = l := by unfold writeL; rw [hn, if_neg he]
    have hev : errV (someE l x a n) = .iface 111 (.int .i64 (someE l x a n : Int)) := by unfold errV; rw [if_neg he]
    have hcp := fun W ty => run_copy_none W n c A ty
    rw [hL, hev]
    have HP := Hidden.mk hp
    generalize (someE l x a n : Int) = q at *
    clear hp hg hL hev he hrd hn
    go_enter Tryz.func17, Tryz.ntmps17
    go_wp2_with fail
    refine HC.out.mono ?_
    rintro e w1 ⟨rfl, hb1⟩
    have HB := Hidden.mk (HP.out.same hb1)
    clear hb1
    go_wp2_with fail
    go_ret
    exact ⟨rfl, HB.out⟩
end
end Go.Proofs.YtbnobjlphmkgeaaGreatDoor
/- The plain law of heaps: what stays right, what has room. No walk here. -/
namespace Go.Proofs.YtbnobjlphmkgeaaGreatDoor
open Go.RowKit

theorem takenL_mem {l : Bytes} {e : Ext} : e ∈ takenL l ↔ ∃ k, k < 40 ∧ hasE (rawE l k) = true ∧ e = ((rAt (rawE l k) : Int) - 288, (rLen (rawE l k) : Int)) := by
  unfold takenL entriesL entsL
  simp only [List.map_map, List.mem_map, List.mem_filter, List.mem_range, Function.comp_apply, takeX]
  constructor
  · rintro ⟨k, ⟨h1, h2⟩, rfl⟩; exact ⟨k, h1, h2, rfl⟩
  · rintro ⟨k, h1, h2, rfl⟩; exact ⟨k, ⟨h1, h2⟩, rfl⟩
theorem overE_hit {r s : Bytes} (h : overE r s = false) : hitX ((rAt r : Int) - 288, (rLen r : Int)) ((rAt s : Int) - 288, (rLen s : Int)) = false := by
  rw [hitX_false]
  unfold overE at h
  simp only [Bool.and_eq_false_iff, decide_eq_false_iff_not] at h
  dsimp only
  omega
/-- the extents of a right image are right -/
theorem good_chk {l : Bytes} (hg : Good l) : chkX ((l.length : Int) - 288) (takenL l) = 0 := by
  have hb := hg.bd
  refine chkX_of (by omega) (by omega) (by have := takenL_len l; omega) (fun e he => ?_) ?_
  · obtain ⟨k, hk, hh, rfl⟩ := takenL_mem.1 he
    have := strayE_false (hg.s.fit k hk hh)
    exact badX_of (by dsimp only; omega)
  · unfold takenL entriesL entsL
    rw [List.map_map, List.pairwise_map]
    have hp : (List.range 40).Pairwise (fun a b => a < b) := List.pairwise_lt_range
    have hf := hp.filter (fun k => hasE (rawE l k))
    refine hf.imp_of_mem ?_
    intro a b ha hb' hab
    have ha := List.mem_filter.1 ha
    have hb2 := List.mem_filter.1 hb'
    have h1 := List.mem_range.1 hb2.1
    have := hg.s.apart b h1 a hab hb2.2 ha.2
    rw [overE_symm] at this
    exact overE_hit this
/-- what lies behind the head is not the head's -/
theorem rawE_tail (l x : Bytes) (o j : Nat) (ho : 288 ≤ o) (hx : o + x.length ≤ l.length) (hj : j < 40) : rawE (splice l o x) j = rawE l j := by
  apply List.ext_getElem?
  intro q
  unfold rawE
  rw [List.getElem?_take, List.getElem?_drop, List.getElem?_take, List.getElem?_drop]
  by_cases hq : q < 5
  · rw [if_pos hq, if_pos hq, splice_at _ _ _ _ hx, if_neg (by omega)]
  · rw [if_neg hq, if_neg hq]
theorem rawR_tail (l x : Bytes) (o j : Nat) (ho : 288 ≤ o) (hx : o + x.length ≤ l.length) (hj : j < 8) : rawR (splice l o x) j = rawR l j := by
  apply List.ext_getElem?
  intro q
  unfold rawR
  rw [List.getElem?_take, List.getElem?_drop, List.getElem?_take, List.getElem?_drop]
  by_cases hq : q < 11
  · rw [if_pos hq, if_pos hq, splice_at _ _ _ _ hx, if_neg (by omega)]
  · rw [if_neg hq, if_neg hq]
theorem rawE_root (l x : Bytes) (i j : Nat) (hx : x.length = 11) (hi : i < 8) (hj : j < 40) (hl : 288 ≤ l.length) : rawE (splice l (200 + 11 * i) x) j = rawE l j := by
  apply List.ext_getElem?
  intro q
  unfold rawE
  rw [List.getElem?_take, List.getElem?_drop, List.getElem?_take, List.getElem?_drop]
  by_cases hq : q < 5
  · rw [if_pos hq, if_pos hq, splice_at _ _ _ _ (by omega), if_neg (by omega)]
  · rw [if_neg hq, if_neg hq]
/-- bytes that are cut out elsewhere -/
theorem cut_splice (l x : Bytes) (o a m : Nat) (hx : o + x.length ≤ l.length) (h : a + m ≤ o ∨ o + x.length ≤ a) : ((splice l o x).drop a).take m = (l.drop a).take m := by
  apply List.ext_getElem?
  intro q
  rw [List.getElem?_take, List.getElem?_drop, List.getElem?_take, List.getElem?_drop]
  by_cases hq : q < m
  · rw [if_pos hq, if_pos hq, splice_at _ _ _ _ hx, if_neg (by omega)]
  · rw [if_neg hq, if_neg hq]
theorem cut_splice_in (l x : Bytes) (o a m : Nat) (hx : o + x.length ≤ l.length) (h1 : o ≤ a) (h2 : a + m ≤ o + x.length) : ((splice l o x).drop a).take m = (x.drop (a - o)).take m := by
  apply List.ext_getElem?
  intro q
  rw [List.getElem?_take, List.getElem?_drop, List.getElem?_take, List.getElem?_drop]
  by_cases hq : q < m
  · rw [if_pos hq, if_pos hq, splice_at _ _ _ _ hx, if_pos (by omega)]
    congr 1; omega
  · rw [if_neg hq, if_neg hq]
/-- what Alloc makes of an image -/
structure AllocIs (l l' : Bytes) (k a n t : Nat) : Prop where
  k40 : k < 40
  none : hasE (rawE l k) = false
  least : ∀ i, i < k → hasE (rawE l i) = true
  a0 : 288 ≤ a
  a1 : a + n ≤ l.length
  n0 : 1 ≤ n
  n1 : n ≤ 1000
  t1 : t ≤ 15
  len : l'.length = l.length
  ents : ∀ j, j < 40 → rawE l' j = if j = k then entB a n t else rawE l j
  rots : ∀ i, i < 8 → rawR l' i = rawR l i
  apart : ∀ j, j < 40 → hasE (rawE l j) = true → a + n ≤ rAt (rawE l j) ∨ rAt (rawE l j) + rLen (rawE l j) ≤ a
  zero : (l'.drop a).take n = List.replicate n 0
  rest : ∀ b m, 288 ≤ b → b + m ≤ a ∨ a + n ≤ b → (l'.drop b).take m = (l.drop b).take m
theorem alloc_is {l : Bytes} (hg : Good l) {n t : Int} (h0 : allocE l n t = 0) : ∃ k a n' t' : Nat, n = n' ∧ t = t' ∧ allocH l n t = (k : Int) + 1 ∧ allocA l n = a ∧ AllocIs l (allocL l n t) k a n' t' := by
  have hb := hg.bd
  have hE := h0
  unfold allocE at hE
  by_cases hbad : lenB n = false ∨ tagB t = false
  · rw [if_pos hbad] at hE; cases hE
  · rw [if_neg hbad] at hE
    by_cases hz : fH l 40 = 0 ∨ fitE ((l.length : Int) - 288) (takenL l) n ≠ 0
    · rw [if_pos hz] at hE; cases hE
    · have hn := lenB_true.1 (show lenB n = true by cases hx : lenB n <;> simp_all)
      have ht := tagB_true.1 (show tagB t = true by cases hx : tagB t <;> simp_all)
      have hf : fitE ((l.length : Int) - 288) (takenL l) n = 0 := by omega
      obtain ⟨i1, i2⟩ := alloc_in hf
      rcases fH_spec l 40 (Nat.le_refl _) with ⟨h, _⟩ | ⟨k, k1, k2, k3, k4, k5⟩
      · omega
      obtain ⟨a, ha⟩ := Int.eq_ofNat_of_zero_le (show 0 ≤ allocA l n by omega)
      obtain ⟨n', rfl⟩ := Int.eq_ofNat_of_zero_le (show 0 ≤ n by omega)
      obtain ⟨t', rfl⟩ := Int.eq_ofNat_of_zero_le (show 0 ≤ t by omega)
      have hL : allocL l n' t' = splice (splice l (5 * k) (entB a n' t')) a (List.replicate n' 0) := by
        unfold allocL
        rw [if_pos h0, ha, k3]
        unfold putEnt
        rw [show ((k + 1 : Nat) : Int) = (k : Int) + 1 by omega, entO_k]
        rfl
      have hl1 : (splice l (5 * k) (entB a n' t')).length = l.length := splice_len _ _ _ (by rw [entB_len]; omega)
      have hl2 : (allocL l n' t').length = l.length := by rw [hL, splice_len _ _ _ (by rw [hl1]; simp; omega), hl1]
      refine ⟨k, a, n', t', rfl, rfl, by unfold allocH; rw [if_pos h0, k3]; omega, ha, ⟨k2, k4, fun i hi => k5 i (by omega) hi, by omega, by omega, by omega, by omega, by omega, hl2, fun j hj => ?_, fun i hi => ?_, fun j hj hh => ?_, ?_, fun b m hb0 hbm => ?_⟩⟩
      · rw [hL, rawE_tail _ _ _ _ (by omega) (by rw [hl1]; simp; omega) hj]
        exact rawE_splice l (entB a n' t') k j (entB_len _ _ _) k2 hj (by omega)
      · rw [hL, rawR_tail _ _ _ _ (by omega) (by rw [hl1]; simp; omega) hi]
        exact rawR_head l _ _ _ (by rw [entB_len]; omega) (by omega)
      · have hc := good_chk hg
        obtain ⟨L, m1, m2, m3, _, _⟩ := fit_some hc hf
        have h4 := (holes_mem hc _ m1).2.2.2 _ (takenL_mem.2 ⟨j, hj, hh, rfl⟩)
        unfold allocA at ha
        dsimp only at h4
        omega
      · rw [hL, cut_splice_in _ _ _ _ _ (by rw [hl1]; simp; omega) (by omega) (by simp), Nat.sub_self, List.drop_zero, List.take_of_length_le (by simp)]
      · rw [hL, cut_splice _ _ _ _ _ (by rw [hl1]; simp; omega) (by simpa using hbm), cut_splice _ _ _ _ _ (by rw [entB_len]; omega) (by rw [entB_len]; omega)]
theorem AllocIs.ent {l l' : Bytes} {k a n t : Nat} (h : AllocIs l l' k a n t) (hb : l.length ≤ 6400) : hasE (rawE l' k) = true ∧ rAt (rawE l' k) = a ∧ rLen (rawE l' k) = n ∧ rTag (rawE l' k) = t := by
  rw [h.ents k h.k40, if_pos rfl]
  exact entB_rd a n t (by have := h.a1; omega) (by have := h.n1; omega) h.t1
theorem AllocIs.good {l l' : Bytes} {k a n t : Nat} (h : AllocIs l l' k a n t) (hg : Good l) : Good l' := by
  have hb := hg.bd
  obtain ⟨e1, e2, e3, e4⟩ := entB_rd a n t (by have := h.a1; omega) (by have := h.n1; omega) h.t1
  refine good_iff.2 ⟨by rw [h.len]; exact hg.len, ?_⟩
  rw [h.len]
  have h1 : GoodS l.length (rawE l') (rawR l) := by
    refine hg.s.putE k h.k40 (entB a n t) h.ents e1 ?_ (fun j hj _ hh => ?_)
    · unfold strayE
      rw [e2, e3, e4, tagB_true.2 ⟨by omega, by have := h.t1; omega⟩, lenB_true.2 ⟨by have := h.n0; omega, by have := h.n1; omega⟩, withinB_true.2 ⟨by have := h.a0; omega, by have := h.a1; omega, by have := h.a1; omega⟩]
      rfl
    · have := h.apart j hj hh
      unfold overE
      rw [e2, e3]
      simp only [Bool.and_eq_false_iff, decide_eq_false_iff_not]
      omega
  exact h1.putR 0 (rawR l 0) (fun j hj => by rw [h.rots j hj]; split <;> simp_all) (by
    cases hz : zeroE (rawR l 0) with
    | true => exact .inl rfl
    | false => exact .inr ⟨h1.root 0 (by omega) hz, fun j hj hne hz' => (h1.name j hj 0 (by omega) hz' hz).symm⟩)
theorem alloc_good {l : Bytes} (hg : Good l) (n t : Int) : Good (allocL l n t) := by
  by_cases h0 : allocE l n t = 0
  · obtain ⟨k, a, n', t', _, _, _, _, h⟩ := alloc_is hg h0
    exact h.good hg
  · have : allocL l n t = l := by unfold allocL; rw [if_neg h0]
    rw [this]; exact hg
theorem rootsL_mem {l : Bytes} {x : Bytes × Nat} : x ∈ rootsL l ↔ ∃ i, i < 8 ∧ zeroE (rawR l i) = false ∧ x = rootP (rawR l i) := by
  unfold rootsL rootsF
  simp only [List.mem_map, List.mem_filter, List.mem_range, Bool.not_eq_true']
  constructor
  · rintro ⟨i, ⟨h1, h2⟩, rfl⟩; exact ⟨i, h1, h2, rfl⟩
  · rintro ⟨i, h1, h2, rfl⟩; exact ⟨i, ⟨h1, h2⟩, rfl⟩
/-- what Free makes of an image -/
structure FreeIs (l l' : Bytes) (k : Nat) : Prop where
  k40 : k < 40
  has : hasE (rawE l k) = true
  len : l'.length = l.length
  ents : ∀ j, j < 40 → rawE l' j = if j = k then List.replicate 5 0 else rawE l j
  rots : ∀ i, i < 8 → rawR l' i = rawR l i
  nol : ∀ i, i < 8 → zeroE (rawR l i) = false → ((rawR l i).getD 10 0).toNat ≠ k + 1
  rest : ∀ b m, 288 ≤ b → (l'.drop b).take m = (l.drop b).take m
theorem free_is {l : Bytes} (hg : Good l) {x : Int} (h0 : freeE l x = 0) : ∃ k : Nat, x = (k : Int) + 1 ∧ FreeIs l (freeL l x) k := by
  have hb := hg.bd
  have hQ := h0
  unfold freeE at hQ
  by_cases hx : hE l x = 0
  · rw [if_neg (by simp [hx])] at hQ
    obtain ⟨k, hk, rfl, hh, _⟩ := hE_zero hx
    have hno : (rootsL l).any (fun r => (r.2 : Int) == (k : Int) + 1) = false := by
      cases ha : (rootsL l).any (fun r => (r.2 : Int) == (k : Int) + 1) with
      | false => rfl
      | true => rw [ha] at hQ; simp at hQ
    have hL : freeL l ((k : Int) + 1) = splice l (5 * k) (List.replicate 5 0) := by
      unfold freeL
      rw [if_pos h0, show ((k : Int) + 1 - 1).toNat = k by omega]
    rw [List.any_eq_false] at hno
    refine ⟨k, rfl, ⟨hk, hh, by rw [hL]; exact splice_len _ _ _ (by simp; omega), fun j hj => ?_, fun i hi => ?_, fun i hi hz => ?_, fun b m hb0 => ?_⟩⟩
    · rw [hL]; exact rawE_splice l _ k j (by simp) hk hj (by omega)
    · rw [hL]; exact rawR_head l _ _ _ (by simp; omega) (by omega)
    · have h1 := hno _ (rootsL_mem.2 ⟨i, hi, hz, rfl⟩)
      simp only [rootP, beq_iff_eq] at h1
      omega
    · rw [hL]; exact cut_splice _ _ _ _ _ (by simp; omega) (by simp; omega)
  · rw [if_pos hx] at hQ; exact absurd hQ hx
theorem FreeIs.good {l l' : Bytes} {k : Nat} (h : FreeIs l l' k) (hg : Good l) : Good l' := by
  refine good_iff.2 ⟨by rw [h.len]; exact hg.len, ?_⟩
  rw [h.len]
  have h1 : GoodS l.length (rawE l') (rawR l) := hg.s.dropE k h.k40 h.ents h.nol
  exact h1.putR 0 (rawR l 0) (fun j hj => by rw [h.rots j hj]; split <;> simp_all) (by
    cases hz : zeroE (rawR l 0) with
    | true => exact .inl rfl
    | false => exact .inr ⟨h1.root 0 (by omega) hz, fun j hj hne hz' => (h1.name j hj 0 (by omega) hz' hz).symm⟩)
theorem free_good {l : Bytes} (hg : Good l) (x : Int) : Good (freeL l x) := by
  by_cases h0 : freeE l x = 0
  · obtain ⟨k, _, h⟩ := free_is hg h0
    exact h.good hg
  · have : freeL l x = l := by unfold freeL; rw [if_neg h0]
    rw [this]; exact hg
end Go.Proofs.YtbnobjlphmkgeaaGreatDoor
/- HeapKeeps, the plain law: what an Alloc and a Write leave as it was. -/
namespace Go.Proofs.YtbnobjlphmkgeaaGreatDoor
open Go.RowKit

theorem obj_congr {l l' : Bytes} {k : Nat} (he : rawE l' k = rawE l k) (hs : hasE (rawE l k) = true → (l'.drop (rAt (rawE l k))).take (rLen (rawE l k)) = (l.drop (rAt (rawE l k))).take (rLen (rawE l k))) : objT l' k = objT l k ∧ objS l' k = objS l k := by
  unfold objT objS
  rw [he]
  by_cases h : hasE (rawE l k) = true
  · simp only [if_pos h, hs h]; exact ⟨trivial, trivial⟩
  · simp only [if_neg h]; exact ⟨trivial, trivial⟩
theorem hd_of {l : Bytes} {k : Nat} (hk : k < 40) (hh : hasE (rawE l k) = true) : hE l ((k : Int) + 1) = 0 ∧ gA l ((k : Int) + 1) = rAt (rawE l k) ∧ gL l ((k : Int) + 1) = rLen (rawE l k) ∧ gT l ((k : Int) + 1) = rTag (rawE l k) := by
  obtain ⟨h0, h1⟩ := hE_has hk hh
  unfold gA gL gT
  rw [if_pos h0, if_pos h0, if_pos h0, h1]
  exact ⟨h0, rfl, rfl, rfl⟩
section
variable {l l' : Bytes} {k a n t : Nat}
theorem AllocIs.keep (h : AllocIs l l' k a n t) (hg : Good l) {j : Nat} (hj : j < 40) (hne : j ≠ k) : objT l' j = objT l j ∧ objS l' j = objS l j := by
  refine obj_congr (by rw [h.ents j hj, if_neg hne]) fun hh => ?_
  have := strayE_false (hg.s.fit j hj hh)
  have := h.apart j hj hh
  exact h.rest _ _ (by omega) (by omega)
theorem AllocIs.hd (h : AllocIs l l' k a n t) (hg : Good l) : hE l' ((k : Int) + 1) = 0 ∧ gA l' ((k : Int) + 1) = a ∧ gL l' ((k : Int) + 1) = n ∧ gT l' ((k : Int) + 1) = t := by
  obtain ⟨e1, e2, e3, e4⟩ := h.ent hg.bd.2
  have := hd_of h.k40 e1
  rw [e2, e3, e4] at this
  exact this
theorem some_zero {x o m : Int} (h0 : hE l x = 0) (h1 : 0 ≤ o) (h2 : 0 ≤ m) (h3 : o + m ≤ gL l x) : someE l x o m = 0 := by
  unfold someE
  rw [if_neg (by omega), if_neg (by omega)]
/-- what Write makes of an image -/
structure WriteIs (l l' : Bytes) (k o : Nat) (b : Bytes) : Prop where
  k40 : k < 40
  has : hasE (rawE l k) = true
  o0 : 288 ≤ o
  o1 : o + b.length ≤ l.length
  at0 : rAt (rawE l k) ≤ o
  at1 : o + b.length ≤ rAt (rawE l k) + rLen (rawE l k)
  eq : l' = splice l o b
theorem write_is (hg : Good l) {x c : Int} {b : Bytes} (h : someE l x c b.length = 0) : ∃ k o : Nat, x = (k : Int) + 1 ∧ gA l x + c = o ∧ WriteIs l (writeL l x c b) k o b := by
  obtain ⟨h0, h1, h2, h3, h4, h5, h6, h7⟩ := some_in hg h
  obtain ⟨k, hk, rfl, hh, he⟩ := hE_zero h0
  obtain ⟨_, f1, f2, f3⟩ := hd_of hk hh
  obtain ⟨o, ho⟩ := Int.eq_ofNat_of_zero_le (show 0 ≤ gA l ((k : Int) + 1) + c by omega)
  refine ⟨k, o, rfl, ho, hk, hh, by omega, by omega, by omega, by omega, ?_⟩
  unfold writeL
  rw [if_pos h, ho]
  rfl
variable {o : Nat} {b : Bytes}
theorem WriteIs.len (h : WriteIs l l' k o b) : l'.length = l.length := by rw [h.eq]; exact splice_len _ _ _ h.o1
theorem WriteIs.ents (h : WriteIs l l' k o b) (j : Nat) (hj : j < 40) : rawE l' j = rawE l j := by rw [h.eq]; exact rawE_tail _ _ _ _ h.o0 h.o1 hj
theorem WriteIs.rots (h : WriteIs l l' k o b) (j : Nat) (hj : j < 8) : rawR l' j = rawR l j := by rw [h.eq]; exact rawR_tail _ _ _ _ h.o0 h.o1 hj
theorem Good.apart {l : Bytes} (hg : Good l) {j k : Nat} (hj : j < 40) (hk : k < 40) (hne : j ≠ k) (h1 : hasE (rawE l j) = true) (h2 : hasE (rawE l k) = true) : overE (rawE l k) (rawE l j) = false := by
  rcases Nat.lt_or_gt_of_ne hne with h | h
  · exact hg.s.apart k hk j h h2 h1
  · rw [overE_symm]; exact hg.s.apart j hj k h h1 h2
theorem WriteIs.good (h : WriteIs l l' k o b) (hg : Good l) : Good l' := by
  refine good_iff.2 ⟨by rw [h.len]; exact hg.len, ?_⟩
  rw [h.len]
  have h1 : GoodS l.length (rawE l') (rawR l) := hg.s.putE k h.k40 (rawE l k) (fun j hj => by rw [h.ents j hj]; split <;> simp_all) h.has (hg.s.fit k h.k40 h.has) (fun j hj hne hh => hg.apart hj h.k40 hne hh h.has)
  exact h1.putR 0 (rawR l 0) (fun j hj => by rw [h.rots j hj]; split <;> simp_all) (by
    cases hz : zeroE (rawR l 0) with
    | true => exact .inl rfl
    | false => exact .inr ⟨h1.root 0 (by omega) hz, fun j hj hne hz' => (h1.name j hj 0 (by omega) hz' hz).symm⟩)
theorem write_good (hg : Good l) (x c : Int) (b : Bytes) : Good (writeL l x c b) := by
  by_cases h : someE l x c b.length = 0
  · obtain ⟨k, o, _, _, hw⟩ := write_is hg h
    exact hw.good hg
  · have : writeL l x c b = l := by unfold writeL; rw [if_neg h]
    rw [this]; exact hg
theorem WriteIs.keep (h : WriteIs l l' k o b) (hg : Good l) {j : Nat} (hj : j < 40) (hne : j ≠ k) : objT l' j = objT l j ∧ objS l' j = objS l j := by
  refine obj_congr (h.ents j hj) fun hh => ?_
  have := hg.apart hj h.k40 hne hh h.has
  unfold overE at this
  simp only [Bool.and_eq_false_iff, decide_eq_false_iff_not] at this
  have := h.at0
  have := h.at1
  rw [h.eq]
  exact cut_splice _ _ _ _ _ h.o1 (by omega)
theorem WriteIs.some (h : WriteIs l l' k o b) (x c m : Int) : someE l' x c m = someE l x c m ∧ gA l' x = gA l x := by
  have hx : hE l' x = hE l x ∧ (hE l x = 0 → hR l' x = hR l x) := by
    unfold hE hR
    by_cases hb : handleB x = false
    · rw [if_pos hb, if_pos hb]; exact ⟨rfl, fun h => by cases h⟩
    · have := handleB_true.1 (show handleB x = true by cases hx : handleB x <;> simp_all)
      rw [if_neg hb, if_neg hb, h.ents (x - 1).toNat (by omega)]
      exact ⟨rfl, fun _ => rfl⟩
  have hgl : gL l' x = gL l x ∧ gA l' x = gA l x := by
    unfold gL gA
    rw [hx.1]
    by_cases h0 : hE l x = 0
    · rw [if_pos h0, if_pos h0, if_pos h0, if_pos h0, hx.2 h0]; exact ⟨rfl, rfl⟩
    · rw [if_neg h0, if_neg h0, if_neg h0, if_neg h0]; exact ⟨rfl, rfl⟩
  unfold someE
  rw [hx.1, hgl.1]
  exact ⟨rfl, hgl.2⟩
end
end Go.Proofs.YtbnobjlphmkgeaaGreatDoor
/- Where a name's root lies, and the first that is free: root.place. -/
namespace Go.Proofs.YtbnobjlphmkgeaaGreatDoor
open Go.RowKit

/-- after j rounds, from the last root down: where the name lies, which root is free (-1: nowhere) -/
def placeF (l s : Bytes) : Nat → Int × Int
  | 0 => (-1, -1)
  | j + 1 => if zeroE (rawR l (7 - j)) = true then ((placeF l s j).1, ((7 - j : Nat) : Int)) else if nmR (rawR l (7 - j)) = s then (((7 - j : Nat) : Int), (placeF l s j).2) else placeF l s j
theorem Good.got {l : Bytes} (h : Good l) {i : Nat} (hi : i < 8) (hz : zeroE (rawR l i) = false) : gotName ((rawR l i).take 8) = true := by
  have := h.s.root i hi hz
  unfold badR at this
  simp only [Bool.or_eq_false_iff] at this
  simpa using this.1.1.1
theorem placeF_spec (l s : Bytes) : ∀ j, j ≤ 8 →
    (((placeF l s j).1 = -1 ∧ ∀ i, 8 - j ≤ i → i < 8 → zeroE (rawR l i) = false → nmR (rawR l i) ≠ s) ∨ (∃ i : Nat, 8 - j ≤ i ∧ i < 8 ∧ (placeF l s j).1 = i ∧ zeroE (rawR l i) = false ∧ nmR (rawR l i) = s ∧ ∀ q, 8 - j ≤ q → q < i → zeroE (rawR l q) = false → nmR (rawR l q) ≠ s)) ∧
    (((placeF l s j).2 = -1 ∧ ∀ i, 8 - j ≤ i → i < 8 → zeroE (rawR l i) = false) ∨ (∃ i : Nat, 8 - j ≤ i ∧ i < 8 ∧ (placeF l s j).2 = i ∧ zeroE (rawR l i) = true ∧ ∀ q, 8 - j ≤ q → q < i → zeroE (rawR l q) = false))
  | 0, _ => ⟨.inl ⟨rfl, fun i h1 h2 => by omega⟩, .inl ⟨rfl, fun i h1 h2 => by omega⟩⟩
  | j + 1, hj => by
    obtain ⟨h1, h2⟩ := placeF_spec l s j (by omega)
    have hcut : ∀ i, 8 - (j + 1) ≤ i → i < 8 → i = 7 - j ∨ 8 - j ≤ i := fun i _ _ => by omega
    cases hz : zeroE (rawR l (7 - j)) with
    | true =>
      have e : placeF l s (j + 1) = ((placeF l s j).1, ((7 - j : Nat) : Int)) := by rw [placeF, if_pos hz]
      rw [e]
      refine ⟨?_, .inr ⟨7 - j, by omega, by omega, rfl, hz, fun q q1 q2 => by omega⟩⟩
      rcases h1 with ⟨a, b⟩ | ⟨i, a, b, c, d, f, g⟩
      · refine .inl ⟨a, fun i i1 i2 i3 => ?_⟩
        rcases hcut i i1 i2 with rfl | hi
        · rw [hz] at i3; cases i3
        · exact b i hi i2 i3
      · refine .inr ⟨i, by omega, b, c, d, f, fun q q1 q2 q3 => ?_⟩
        rcases hcut q q1 (by omega) with rfl | hq
        · rw [hz] at q3; cases q3
        · exact g q hq q2 q3
    | false =>
      have hfree : ∀ v : Int × Int, v.2 = (placeF l s j).2 → ((v.2 = -1 ∧ ∀ i, 8 - (j + 1) ≤ i → i < 8 → zeroE (rawR l i) = false) ∨ (∃ i : Nat, 8 - (j + 1) ≤ i ∧ i < 8 ∧ v.2 = i ∧ zeroE (rawR l i) = true ∧ ∀ q, 8 - (j + 1) ≤ q → q < i → zeroE (rawR l q) = false)) := fun v hv => by
        rw [hv]
        rcases h2 with ⟨a, b⟩ | ⟨i, a, b, c, d, f⟩
        · refine .inl ⟨a, fun i i1 i2 => ?_⟩
          rcases hcut i i1 i2 with rfl | hi
          · exact hz
          · exact b i hi i2
        · refine .inr ⟨i, by omega, b, c, d, fun q q1 q2 => ?_⟩
          rcases hcut q q1 (by omega) with rfl | hq
          · exact hz
          · exact f q hq q2
      by_cases hn : nmR (rawR l (7 - j)) = s
      · have e : placeF l s (j + 1) = (((7 - j : Nat) : Int), (placeF l s j).2) := by rw [placeF, if_neg (by rw [hz]; decide), if_pos hn]
        rw [e]
        exact ⟨.inr ⟨7 - j, by omega, by omega, rfl, hz, hn, fun q q1 q2 => by omega⟩, hfree _ rfl⟩
      · have e : placeF l s (j + 1) = placeF l s j := by rw [placeF, if_neg (by rw [hz]; decide), if_neg hn]
        rw [e]
        refine ⟨?_, hfree _ rfl⟩
        rcases h1 with ⟨a, b⟩ | ⟨i, a, b, c, d, f, g⟩
        · refine .inl ⟨a, fun i i1 i2 i3 => ?_⟩
          rcases hcut i i1 i2 with rfl | hi
          · exact hn
          · exact b i hi i2 i3
        · refine .inr ⟨i, by omega, b, c, d, f, fun q q1 q2 q3 => ?_⟩
          rcases hcut q q1 (by omega) with rfl | hq
          · exact hn
          · exact g q hq q2 q3
section
variable {w0 w : World} {F : Nat → Prop} {h : Nat} {l : Bytes}
set_option maxRecDepth 100000 in
set_option maxHeartbeats 2000000 in
theorem place_any (s : Bytes) (hp : Hp w0 w F h l) (hg : Good l) :
    Calls Tryz.prog 83 #[.pointer (some ⟨h, 0, none⟩), sv s] w fun e w' => e = .returned (.tuple #[.int .i64 (placeF l s 8).1, .int .i64 (placeF l s 8).2]) ∧ Below w.heap.size w w' := by
  have hb := rightB_true.1 hp.len
  have HC := Hidden.mk (hbytes_ok _ _ F h l hp)
  have HLEN : Hidden (∀ k : Nat, k < 8 → (rawR l k).length = 11) := ⟨fun k hk => rawR_len l k hk (by omega)⟩
  have HGOT : Hidden (∀ k : Nat, k < 8 → zeroE (rawR l k) = false → gotName ((rawR l k).take 8) = true) := ⟨fun k hk hz => hg.got hk hz⟩
  have HCUT : Hidden (∀ (W : World) g cap, Row W 5 g cap l → ∀ k, k < 8 → Rd W (some ⟨g, 0 + (200 + 11 * k), none⟩) (rawR l k)) := ⟨fun W g cap hr k hk => by
    have hx := rawR_rd hr.rd k hk (by omega)
    rw [Option.map_some, Addr.add_lit] at hx
    exact hx⟩
  have HNX : Hidden (∀ j, placeF l s (j + 1) = if zeroE (rawR l (7 - j)) = true then ((placeF l s j).1, ((7 - j : Nat) : Int)) else if nmR (rawR l (7 - j)) = s then (((7 - j : Nat) : Int), (placeF l s j).2) else placeF l s j) := ⟨fun j => by rw [placeF]⟩
  have HZ : Hidden (placeF l s 0 = (-1, -1)) := ⟨rfl⟩
  generalize placeF l s = P at *
  clear hp hg
  go_enter Tryz.func83, Tryz.ntmps83
  go_wp2_with fail
  refine HC.out.mono ?_
  rintro e w1 ⟨g, cap, rfl, hg1, hrow, hb1⟩
  have HROW := Hidden.mk hrow
  have HB1 := Hidden.mk hb1
  have hcap := hrow.le.1
  clear hg1 hrow hb1 HC
  go_wp2_with fail
  go_loopg [4, 5, 7] 8 (fun q a f i wr => ∃ j : Nat, j ≤ 8 ∧ q = 8 - j ∧ i = .int .i64 (7 - (j : Int)) ∧ a = .int .i64 (P j).1 ∧ f = .int .i64 (P j).2 ∧ Hidden (Below w1.heap.size w1 wr))
  case atStart => exact ⟨0, by omega, rfl, rfl, by rw [HZ.out], by rw [HZ.out], ⟨Below.refl _ _⟩⟩
  case round =>
    obtain ⟨j, hj, rfl, rfl, rfl, rfl, hst⟩ := hrel
    by_cases hlt : j < 8
    · obtain ⟨i, hi⟩ : ∃ i : Nat, i = 7 - j := ⟨_, rfl⟩
      have hii : (7 - (j : Int)) = (i : Int) := by omega
      have HNJ := Hidden.mk (HNX.out j)
      have s1 : IntKind.i64.wrap ((i : Int) - 1) = (i : Int) - 1 := IntWalk.i64_in _ (by omega)
      have t0 : decide (0 ≤ (i : Int)) = true := by simp
      have hi8 : i < 8 := by omega
      rw [hii]
      rw [← hi] at HNJ
      have hrw := HCUT.out wr g cap (HROW.out.block (hst.out.block _ HROW.out.lt)) i hi8
      have HLK := Hidden.mk (HLEN.out i hi8)
      have HGK := Hidden.mk (HGOT.out i hi8)
      generalize rawR l i = r at *
      have HI := Hidden.mk hi
      clear hi hii
      go_wp2_with fail
      refine (rawRoot_any (some ⟨g, 0, none⟩) l.length cap (i : Int) _ (by omega) (by omega) (by omega) hcap).mono ?_
      rintro e w2 ⟨rfl, rfl⟩
      rw [rootO_k, Option.map_some, Addr.add_lit]
      generalize hcc : cap - (200 + 11 * i) = cc at *
      have hc8 : 8 ≤ cc := by omega
      generalize 0 + (200 + 11 * i) = oo at *
      clear hcc
      go_wp2_with fail
      refine (izero_any _ 11 _ r _ HLK.out (by simp [maxLen]) hrw).mono ?_
      rintro e w3 ⟨rfl, rfl⟩
      cases hz : zeroE r with
      | true =>
        have HPJ := Hidden.mk (show P (j + 1) = ((P j).1, (i : Int)) by rw [HNJ.out, if_pos hz])
        clear HNJ hz HGK hrw
        go_wp2_with fail
        go_roundg (8 - (j + 1))
        case measure => omega
        case rel => exact ⟨j + 1, by omega, rfl, by rw [show (7 - ((j + 1 : Nat) : Int)) = (i : Int) - 1 by have := HI.out; omega], by rw [HPJ.out], by rw [HPJ.out], hst⟩
      | false =>
        have HPJ := Hidden.mk (show P (j + 1) = if nmR r = s then ((i : Int), (P j).2) else P j by rw [HNJ.out, if_neg (by rw [hz]; decide)])
        have hgn := HGK.out hz
        have HGN := Hidden.mk (getName_any (some ⟨g, oo, none⟩) cc (r.take 8) wr (by simp [HLK.out]) hc8 (hrw.take 8 (by rw [HLK.out]; omega)))
        rw [if_pos hgn] at HGN
        rw [show nameAt (r.take 8) = nmR r from rfl] at HGN
        clear HNJ hz HGK hgn hrw HLK
        generalize nmR r = nm at *
        go_wp2_with fail
        refine HGN.out.mono ?_
        rintro e w4 ⟨rfl, hb4⟩
        have HB4 := Hidden.mk (hst.out.trans (hb4.mono hst.out.size))
        clear hb4 hst HGN
        by_cases hn : nm = s
        · have d1 : (nm == s) = true := by simpa using hn
          have HPJ := Hidden.mk (show P (j + 1) = ((i : Int), (P j).2) by rw [HPJ.out, if_pos hn])
          clear hn
          go_wp2_with fail
          go_roundg (8 - (j + 1))
          case measure => omega
          case rel => exact ⟨j + 1, by omega, rfl, by rw [show (7 - ((j + 1 : Nat) : Int)) = (i : Int) - 1 by have := HI.out; omega], by rw [HPJ.out], by rw [HPJ.out], HB4⟩
        · have d1 : (nm == s) = false := by simpa using hn
          have HPJ := Hidden.mk (show P (j + 1) = P j by rw [HPJ.out, if_neg hn])
          clear hn
          go_wp2_with fail
          go_roundg (8 - (j + 1))
          case measure => omega
          case rel => exact ⟨j + 1, by omega, rfl, by rw [show (7 - ((j + 1 : Nat) : Int)) = (i : Int) - 1 by have := HI.out; omega], by rw [HPJ.out], by rw [HPJ.out], HB4⟩
    · obtain rfl : j = 8 := by omega
      have t0 : decide ((0 : Int) ≤ 7 - ((8 : Nat) : Int)) = false := by decide
      have HE := Hidden.mk (HB1.out.trans (hst.out.mono HB1.out.size))
      clear hst
      go_wp2_with fail
      go_ret2
      exact ⟨rfl, HE.out⟩
end
end Go.Proofs.YtbnobjlphmkgeaaGreatDoor
/- root.Set, of a right name and an object that is there. -/
namespace Go.Proofs.YtbnobjlphmkgeaaGreatDoor
open Go.RowKit

/-- where a name's root is set: its own place, else the first that is free -/
def setAt (l s : Bytes) : Int := if (placeF l s 8).1 < 0 then (placeF l s 8).2 else (placeF l s 8).1
section
variable {w0 w : World} {F : Nat → Prop} {h : Nat} {l : Bytes}
set_option maxRecDepth 100000 in
theorem rset_full (s : Bytes) (x : Int) (hp : Hp w0 w F h l) (hg : Good l) (hn : isName s = true) (hx : hE l x = 0) (ha : setAt l s < 0) :
    Calls Tryz.prog 19 #[.pointer (some ⟨h, 0, none⟩), sv s, .int .i64 x] w fun e w' => e = .returned (.tuple #[.bool false, .iface 111 (.int .i64 4)]) ∧ Below w.heap.size w w' := by
  have HP := Hidden.mk hp
  have HG := Hidden.mk hg
  have HX := Hidden.mk hx
  have HC := Hidden.mk (putName_ok s w hn)
  have h1 : (placeF l s 8).1 < 0 := by
    unfold setAt at ha
    by_cases h : (placeF l s 8).1 < 0
    · exact h
    · rw [if_neg h] at ha; exact absurd ha h
  have h2 : (placeF l s 8).2 < 0 := by
    unfold setAt at ha
    rw [if_pos h1] at ha; exact ha
  have HPL : Hidden (∀ W, Below w.heap.size w W → Calls Tryz.prog 83 #[.pointer (some ⟨h, 0, none⟩), sv s] W fun e w' => e = .returned (.tuple #[.int .i64 (placeF l s 8).1, .int .i64 (placeF l s 8).2]) ∧ Below W.heap.size W w') := ⟨fun W hW => place_any s (hp.below hW) hg⟩
  generalize (placeF l s 8).1 = p1 at *
  generalize (placeF l s 8).2 = p2 at *
  have d1 : decide (p1 < 0) = true := by simpa using h1
  have d2 : decide (p2 < 0) = true := by simpa using h2
  clear hp hg hn hx ha h1 h2
  go_enter Tryz.func19, Tryz.ntmps19
  go_wp2_with fail
  refine HC.out.mono ?_
  rintro e w1 ⟨gn, rfl, -, -, hb1⟩
  have HB1 := Hidden.mk hb1
  have HT := Hidden.mk (htag_any x (HP.out.below hb1))
  rw [HX.out, show errV 0 = Value.nilIface from rfl] at HT
  clear hb1 HC
  go_wp2_with fail
  refine HT.out.mono ?_
  rintro e w2 ⟨rfl, hb2⟩
  have HB2 := Hidden.mk (HB1.out.trans (hb2.mono HB1.out.size))
  clear hb2 HT HB1
  go_wp2_with fail
  refine (HPL.out w2 HB2.out).mono ?_
  rintro e w3 ⟨rfl, hb3⟩
  have HB3 := Hidden.mk (HB2.out.trans (hb3.mono HB2.out.size))
  clear hb3 HPL HB2
  go_wp2_with fail
  go_ret2
  exact ⟨rfl, HB3.out⟩
set_option maxRecDepth 100000 in
theorem rset_ok (s : Bytes) (x : Int) (i : Nat) (hp : Hp w0 w F h l) (hg : Good l) (hn : isName s = true) (hx : hE l x = 0) (hi : i < 8) (ha : setAt l s = i) :
    Calls Tryz.prog 19 #[.pointer (some ⟨h, 0, none⟩), sv s, .int .i64 x] w fun e w' => e = .returned (.tuple #[.bool (decide ((placeF l s 8).1 < 0)), .nilIface]) ∧ ∃ F', HpM w0 w w' F F' h (splice l (200 + 11 * i) (putRo s x)) := by
  have HP := Hidden.mk hp
  have HX := Hidden.mk hx
  have HC := Hidden.mk (putName_ok s w hn)
  have hhb : handleB x = true := by
    unfold hE at hx
    cases hb : handleB x with
    | true => rfl
    | false => rw [hb] at hx; simp at hx
  have HPR : Hidden (∀ W, Below w.heap.size w W → Calls Tryz.prog 84 #[.pointer (some ⟨h, 0, none⟩), .int .i64 (i : Int), .agg #[sv s, .int .i64 x]] W fun e w' => e = .returned .nilIface ∧ ∃ F', HpM w0 W w' F F' h (splice l (200 + 11 * i) (putRo s x))) := ⟨fun W hW => hroot_ok i s x (hp.below hW) hi (.inr ⟨hhb, hn⟩)⟩
  have HPL : Hidden (∀ W, Below w.heap.size w W → Calls Tryz.prog 83 #[.pointer (some ⟨h, 0, none⟩), sv s] W fun e w' => e = .returned (.tuple #[.int .i64 (placeF l s 8).1, .int .i64 (placeF l s 8).2]) ∧ Below W.heap.size W w') := ⟨fun W hW => place_any s (hp.below hW) hg⟩
  unfold setAt at ha
  generalize splice l (200 + 11 * i) (putRo s x) = l' at *
  generalize (placeF l s 8).1 = p1 at *
  generalize (placeF l s 8).2 = p2 at *
  have d3 : decide ((i : Int) < 0) = false := by simp
  clear hp hg hn hhb
  by_cases h1 : p1 < 0
  · have d1 : decide (p1 < 0) = true := by simpa using h1
    rw [if_pos h1] at ha
    subst ha
    clear hx hi h1
    go_enter Tryz.func19, Tryz.ntmps19
    go_wp2_with fail
    refine HC.out.mono ?_
    rintro e w1 ⟨gn, rfl, -, -, hb1⟩
    have HB1 := Hidden.mk hb1
    have HT := Hidden.mk (htag_any x (HP.out.below hb1))
    rw [HX.out, show errV 0 = Value.nilIface from rfl] at HT
    clear hb1 HC
    go_wp2_with fail
    refine HT.out.mono ?_
    rintro e w2 ⟨rfl, hb2⟩
    have HB2 := Hidden.mk (HB1.out.trans (hb2.mono HB1.out.size))
    clear hb2 HT HB1
    go_wp2_with fail
    refine (HPL.out w2 HB2.out).mono ?_
    rintro e w3 ⟨rfl, hb3⟩
    have HB3 := Hidden.mk (HB2.out.trans (hb3.mono HB2.out.size))
    clear hb3 HPL HB2
    go_wp2_with fail
    refine (HPR.out w3 HB3.out).mono ?_
    rintro e w4 ⟨rfl, F', hm⟩
    have HF := Hidden.mk ((HP.out.same HB3.out).trans hm)
    clear hm HPR HB3
    go_wp2_with fail
    go_ret2
    exact ⟨by rw [d1]; rfl, F', HF.out⟩
  · have d1 : decide (p1 < 0) = false := by simpa using h1
    rw [if_neg h1] at ha
    subst ha
    clear hx hi h1
    go_enter Tryz.func19, Tryz.ntmps19
    go_wp2_with fail
    refine HC.out.mono ?_
    rintro e w1 ⟨gn, rfl, -, -, hb1⟩
    have HB1 := Hidden.mk hb1
    have HT := Hidden.mk (htag_any x (HP.out.below hb1))
    rw [HX.out, show errV 0 = Value.nilIface from rfl] at HT
    clear hb1 HC
    go_wp2_with fail
    refine HT.out.mono ?_
    rintro e w2 ⟨rfl, hb2⟩
    have HB2 := Hidden.mk (HB1.out.trans (hb2.mono HB1.out.size))
    clear hb2 HT HB1
    go_wp2_with fail
    refine (HPL.out w2 HB2.out).mono ?_
    rintro e w3 ⟨rfl, hb3⟩
    have HB3 := Hidden.mk (HB2.out.trans (hb3.mono HB2.out.size))
    clear hb3 HPL HB2
    go_wp2_with fail
    refine (HPR.out w3 HB3.out).mono ?_
    rintro e w4 ⟨rfl, F', hm⟩
    have HF := Hidden.mk ((HP.out.same HB3.out).trans hm)
    clear hm HPR HB3
    go_wp2_with fail
    go_ret2
    exact ⟨by rw [d3]; rfl, F', HF.out⟩
end
end Go.Proofs.YtbnobjlphmkgeaaGreatDoor
/- What comes in: the program's own slices, opened. -/
namespace Go.Proofs.YtbnobjlphmkgeaaGreatDoor
open Go.RowKit Go.ChangeShapes Go.WideShapes Go.ChangeAt

section
variable {H : Type} {enc : TypeId × Value → H} {w : World} {v : Value} {d : DataW H} {ps : List MemPlace} {base : Nat} {r : Reach}
end
end Go.Proofs.YtbnobjlphmkgeaaGreatDoor
/- ImageBack: what the walk leans on. -/
namespace Go.Proofs.YtbnobjlphmkgeaaGreatDoor
open Go.RowKit

theorem rootB_zero (s : Bytes) (h : Int) (hh : handleB h = true) : zeroE (rootB s h) = false := by
  have hb := handleB_true.1 hh
  have hd : (UInt8.ofNat h.toNat).toNat = h.toNat := by rw [UInt8.toNat_ofNat', Nat.mod_eq_of_lt (by omega)]
  unfold zeroE
  rw [Bool.not_eq_false', List.any_eq_true]
  refine ⟨UInt8.ofNat h.toNat, by simp [rootB], ?_⟩
  unfold nonZero
  rw [bne_iff_ne]
  intro e
  rw [e] at hd
  simp at hd
  omega
theorem rootB_P (s : Bytes) (h : Int) (hh : handleB h = true) (hnm : isName s = true) : rootP (rootB s h) = (s, h.toNat) := by
  have hb := handleB_true.1 hh
  have hd : (UInt8.ofNat h.toNat).toNat = h.toNat := by rw [UInt8.toNat_ofNat', Nat.mod_eq_of_lt (by omega)]
  have h8 := nameB_len s hnm
  obtain ⟨h1, h2⟩ := nameB_back s hnm
  have ht : (rootB s h).take 8 = nameB s := by unfold rootB; rw [List.take_append_of_le_length (by omega), List.take_of_length_le (by omega)]
  have h3 : nmR (rootB s h) = s := by unfold nmR; rw [ht]; exact h2
  unfold rootP
  rw [ht, if_pos h1, h3]
  congr 1
  unfold rootB
  rw [List.getD_eq_getElem?_getD, List.getElem?_append_right (by omega), h8]
  exact hd
theorem rootB_len (s : Bytes) (h : Int) (hnm : isName s = true) : (rootB s h).length = 11 := by unfold rootB; simp [nameB_len s hnm]
end Go.Proofs.YtbnobjlphmkgeaaGreatDoor
/- Roots that are set and unset, plainly: where names lead then. No walk here. -/
namespace Go.Proofs.YtbnobjlphmkgeaaGreatDoor
open Go.RowKit

theorem leadR_mem {L : List (Bytes × Nat)} {s : Bytes} {r : Bytes × Nat} (hr : r ∈ L) (hs : r.1 = s) (hu : ∀ x ∈ L, x.1 = s → x.2 = r.2) : leadR L s = r.2 := by
  unfold leadR
  cases hf : L.find? (fun r => r.1 == s) with
  | none =>
    have := List.find?_eq_none.1 hf r hr
    simp [hs] at this
  | some x =>
    have h1 := List.find?_some hf
    have h2 := List.mem_of_find?_eq_some hf
    exact hu x h2 (by simpa using h1)
theorem mem_rootsF {S : Nat → Bytes} {m : Nat} {x : Bytes × Nat} : x ∈ rootsF S m ↔ ∃ i, i < m ∧ zeroE (S i) = false ∧ rootP (S i) = x := by
  unfold rootsF
  simp only [List.mem_map, List.mem_filter, List.mem_range, Bool.not_eq_true']
  constructor
  · rintro ⟨i, ⟨h1, h2⟩, h3⟩; exact ⟨i, h1, h2, h3⟩
  · rintro ⟨i, h1, h2, h3⟩; exact ⟨i, ⟨h1, h2⟩, h3⟩
theorem good_rootP {l : Bytes} (hg : Good l) {i : Nat} (hi : i < 8) (hz : zeroE (rawR l i) = false) : rootP (rawR l i) = (nmR (rawR l i), ((rawR l i).getD 10 0).toNat) := by
  unfold rootP; rw [if_pos (hg.got hi hz)]
/-- where a name leads, by the place of its root -/
theorem lead_at {l s : Bytes} (hg : Good l) {i : Nat} (hi : i < 8) (hz : zeroE (rawR l i) = false) (hs : nmR (rawR l i) = s) : leadR (rootsL l) s = ((rawR l i).getD 10 0).toNat := by
  have hm : rootP (rawR l i) ∈ rootsL l := mem_rootsF.2 ⟨i, hi, hz, rfl⟩
  rw [good_rootP hg hi hz] at hm
  refine leadR_mem hm hs fun x hx he => ?_
  obtain ⟨j, hj, hzj, rfl⟩ := mem_rootsF.1 hx
  rw [good_rootP hg hj hzj] at he ⊢
  dsimp only at he ⊢
  by_cases h : j = i
  · rw [h]
  · exfalso
    rcases Nat.lt_or_gt_of_ne h with h | h
    · exact hg.s.name i hi j h hz hzj (hs.trans he.symm)
    · exact hg.s.name j hj i h hzj hz (he.trans hs.symm)
theorem lead_no {l s : Bytes} (hg : Good l) (h : ∀ i, i < 8 → zeroE (rawR l i) = false → nmR (rawR l i) ≠ s) : leadR (rootsL l) s = 0 :=
  leadR_none fun x hx => by
    obtain ⟨j, hj, hzj, rfl⟩ := mem_rootsF.1 hx
    rw [good_rootP hg hj hzj]
    simpa using h j hj hzj
theorem count_upd (p : Nat → Bool) (i : Nat) (b : Bool) : ∀ n, ((List.range n).filter (fun j => if j = i then b else p j)).length + (if i < n ∧ p i = true then 1 else 0) = ((List.range n).filter p).length + (if i < n ∧ b = true then 1 else 0)
  | 0 => by simp
  | n + 1 => by
    have ih := count_upd p i b n
    rw [List.range_succ, List.filter_append, List.filter_append, List.length_append, List.length_append]
    by_cases h : n = i
    · subst h
      have h1 : ((List.range n).filter (fun j => if j = n then b else p j)) = (List.range n).filter p := List.filter_congr fun j hj => by
        rw [if_neg (by have := List.mem_range.1 hj; omega)]
      rw [h1]
      cases hb : b <;> cases hp : p n <;> simp [hp]
    · have e1 : (i < n + 1 ∧ p i = true) ↔ (i < n ∧ p i = true) := by constructor <;> rintro ⟨a, b⟩ <;> exact ⟨by omega, b⟩
      have e2 : (i < n + 1 ∧ b = true) ↔ (i < n ∧ b = true) := by constructor <;> rintro ⟨a, b⟩ <;> exact ⟨by omega, b⟩
      simp only [e1, e2]
      have e3 : ((List.filter (fun j => if j = i then b else p j) [n]).length) = (List.filter p [n]).length := by
        simp only [List.filter_cons, List.filter_nil, if_neg h]
      omega
/-- l' has x in the place of the root i; nothing else is another -/
structure PutsR (l l' : Bytes) (i : Nat) (x : Bytes) : Prop where
  i8 : i < 8
  x11 : x.length = 11
  eq : l' = splice l (200 + 11 * i) x
section
variable {l l' x : Bytes} {i : Nat}
theorem PutsR.len (h : PutsR l l' i x) (hb : 288 ≤ l.length) : l'.length = l.length := by rw [h.eq]; exact splice_len _ _ _ (by have := h.i8; have := h.x11; omega)
theorem PutsR.ents (h : PutsR l l' i x) (hb : 288 ≤ l.length) (j : Nat) (hj : j < 40) : rawE l' j = rawE l j := by rw [h.eq]; exact rawE_root l _ i j h.x11 h.i8 hj hb
theorem PutsR.rots (h : PutsR l l' i x) (hb : 288 ≤ l.length) (j : Nat) (hj : j < 8) : rawR l' j = if j = i then x else rawR l j := by rw [h.eq]; exact rawR_splice l _ i j h.x11 h.i8 hj hb
theorem same_ents {l l' : Bytes} (h : ∀ j, j < 40 → rawE l' j = rawE l j) (y : Int) : hE l' y = hE l y ∧ gT l' y = gT l y ∧ gA l' y = gA l y ∧ gL l' y = gL l y := by
  have hx : hE l' y = hE l y ∧ (hE l y = 0 → hR l' y = hR l y) := by
    unfold hE hR
    by_cases hb : handleB y = false
    · rw [if_pos hb, if_pos hb]; exact ⟨rfl, fun h => by cases h⟩
    · have := handleB_true.1 (show handleB y = true by
        cases hx : handleB y with
        | true => rfl
        | false => exact absurd hx hb)
      rw [if_neg hb, if_neg hb, h (y - 1).toNat (by omega)]
      exact ⟨rfl, fun _ => rfl⟩
  unfold gT gL gA
  rw [hx.1]
  by_cases h0 : hE l y = 0
  · rw [if_pos h0, if_pos h0, if_pos h0, if_pos h0, if_pos h0, if_pos h0, hx.2 h0]; exact ⟨rfl, rfl, rfl, rfl⟩
  · rw [if_neg h0, if_neg h0, if_neg h0, if_neg h0, if_neg h0, if_neg h0]; exact ⟨rfl, rfl, rfl, rfl⟩
theorem PutsR.same (h : PutsR l l' i x) (hb : 288 ≤ l.length) (y : Int) : hE l' y = hE l y ∧ gT l' y = gT l y ∧ gA l' y = gA l y ∧ gL l' y = gL l y := same_ents (h.ents hb) y
theorem goodS_ents {n : Nat} {R R' S : Nat → Bytes} (g : GoodS n R S) (h : ∀ j, j < 40 → R' j = R j) : GoodS n R' S where
  none j hj hh := by rw [h j hj] at hh ⊢; exact g.none j hj hh
  fit j hj hh := by rw [h j hj] at hh ⊢; exact g.fit j hj hh
  apart i hi j hj hh hh' := by rw [h i hi] at hh ⊢; rw [h j (by omega)] at hh' ⊢; exact g.apart i hi j hj hh hh'
  root i hi hz := badR_mono (g.root i hi hz) fun hl => by
    obtain ⟨j, hj, hh, hx⟩ := leadsS_iff.1 hl
    exact leadsS_iff.2 ⟨j, hj, by rw [h j hj]; exact hh, hx⟩
  name := g.name
theorem PutsR.good (h : PutsR l l' i x) (hg : Good l) (hx : zeroE x = true ∨ (badR (leadsS (rawE l)) x = false ∧ ∀ j, j < 8 → j ≠ i → zeroE (rawR l j) = false → nmR x ≠ nmR (rawR l j))) : Good l' := by
  have hb := hg.bd.1
  refine good_iff.2 ⟨by rw [h.len hb]; exact hg.len, ?_⟩
  rw [h.len hb]
  exact goodS_ents (hg.s.putR i x (h.rots hb) hx) (h.ents hb)
theorem PutsR.count (h : PutsR l l' i x) (hb : 288 ≤ l.length) : (rootsL l').length + (if zeroE (rawR l i) = false then 1 else 0) = (rootsL l).length + (if zeroE x = false then 1 else 0) := by
  have hc := count_upd (fun j => !zeroE (rawR l j)) i (!zeroE x) 8
  have e : (List.range 8).filter (fun j => !zeroE (rawR l' j)) = (List.range 8).filter (fun j => if j = i then !zeroE x else !zeroE (rawR l j)) := List.filter_congr fun j hj => by
    rw [h.rots hb j (List.mem_range.1 hj)]; split <;> rfl
  unfold rootsL rootsF
  rw [List.length_map, List.length_map, e]
  have hi := h.i8
  cases h1 : zeroE (rawR l i) <;> cases h2 : zeroE x <;> simp [h1, h2, hi] at hc ⊢ <;> omega
end
theorem putRo_zero : putRo [] 0 = List.replicate 11 0 := by decide
theorem rootB_facts (s : Bytes) (y : Int) (hh : handleB y = true) (hnm : isName s = true) : zeroE (rootB s y) = false ∧ nmR (rootB s y) = s ∧ (rootB s y).length = 11 ∧ ((rootB s y).getD 10 0).toNat = y.toNat ∧ gotName ((rootB s y).take 8) = true ∧ (rootB s y).getD 8 0 = 0 ∧ (rootB s y).getD 9 0 = 0 := by
  have hb := handleB_true.1 hh
  have h8 := nameB_len s hnm
  obtain ⟨h1, h2⟩ := nameB_back s hnm
  have ht : (rootB s y).take 8 = nameB s := by unfold rootB; rw [List.take_append_of_le_length (by omega), List.take_of_length_le (by omega)]
  have hd : (UInt8.ofNat y.toNat).toNat = y.toNat := by rw [UInt8.toNat_ofNat', Nat.mod_eq_of_lt (by omega)]
  refine ⟨rootB_zero s y hh, by unfold nmR; rw [ht]; exact h2, rootB_len s y hnm, ?_, by rw [ht]; exact h1, ?_, ?_⟩
  · unfold rootB
    rw [List.getD_eq_getElem?_getD, List.getElem?_append_right (by omega), h8]
    exact hd
  · unfold rootB
    rw [List.getD_eq_getElem?_getD, List.getElem?_append_right (by omega), h8]
    rfl
  · unfold rootB
    rw [List.getD_eq_getElem?_getD, List.getElem?_append_right (by omega), h8]
    rfl
theorem putRo_name (s : Bytes) (y : Int) (hh : handleB y = true) : putRo s y = rootB s y := by
  have hb := handleB_true.1 hh
  unfold putRo
  rw [if_neg (by simp; omega)]
theorem hE_handle {l : Bytes} {y : Int} (h : hE l y = 0) : handleB y = true := by
  obtain ⟨k, hk, rfl, -, -⟩ := hE_zero h
  exact handleB_true.2 (by omega)
/-- what is said of a name that is set -/
structure SetIs (l l' s : Bytes) (y : Int) : Prop where
  good : Good l'
  same : ∀ z, hE l' z = hE l z ∧ gT l' z = gT l z ∧ gA l' z = gA l z ∧ gL l' z = gL l z
  lead : (leadR (rootsL l') s : Int) = y
  rest : ∀ t, t ≠ s → leadR (rootsL l') t = leadR (rootsL l) t
  count : (rootsL l').length = (rootsL l).length + (if (placeF l s 8).1 < 0 then 1 else 0)
  own : ∃ r ∈ rootsL l', (r.2 : Int) = y
  puts : ∃ i, PutsR l l' i (rootB s y)
theorem set_is {l s : Bytes} {y : Int} {i : Nat} (hg : Good l) (hn : isName s = true) (hy : hE l y = 0) (hi : i < 8) (ha : setAt l s = i) : SetIs l (splice l (200 + 11 * i) (rootB s y)) s y := by
  have hb := hg.bd.1
  have hh := hE_handle hy
  have hyb := handleB_true.1 hh
  have hyn : ((y.toNat : Nat) : Int) = y := Int.toNat_of_nonneg (by omega)
  obtain ⟨f1, f2, f3, f4, f5, f6, f7⟩ := rootB_facts s y hh hn
  have hP : PutsR l (splice l (200 + 11 * i) (rootB s y)) i (rootB s y) := ⟨hi, f3, rfl⟩
  obtain ⟨p1, p2⟩ := placeF_spec l s 8 (Nat.le_refl _)
  have hno : ∀ j, j < 8 → j ≠ i → zeroE (rawR l j) = false → nmR (rawR l j) ≠ s := fun j hj hne hz => by
    rcases p1 with ⟨a, b⟩ | ⟨q, _, b, c, d, e, _⟩
    · exact b j (by omega) hj hz
    · unfold setAt at ha
      rw [if_neg (by omega), c] at ha
      obtain rfl : q = i := by omega
      intro hs
      rcases Nat.lt_or_gt_of_ne hne with h | h
      · exact hg.s.name q b j h d hz (e.trans hs.symm)
      · exact hg.s.name j hj q h hz d (hs.trans e.symm)
  have hz : zeroE (rawR l i) = decide ((placeF l s 8).1 < 0) := by
    rcases p1 with ⟨a, b⟩ | ⟨q, _, b, c, d, e, _⟩
    · unfold setAt at ha
      rw [if_pos (by omega)] at ha
      rcases p2 with ⟨a2, b2⟩ | ⟨q, _, b2, c2, d2, e2⟩
      · omega
      · obtain rfl : q = i := by omega
        rw [d2, a]; rfl
    · unfold setAt at ha
      rw [if_neg (by omega), c] at ha
      obtain rfl : q = i := by omega
      rw [d, c]; simp
  have hG : Good (splice l (200 + 11 * i) (rootB s y)) := hP.good hg (.inr ⟨by
    unfold badR
    rw [f5, f6, f7]
    have : leadsS (rawE l) ((rootB s y).getD 10 0) = true := by
      obtain ⟨k, hk, rfl, hk1, -⟩ := hE_zero hy
      exact leadsS_iff.2 ⟨k, hk, hk1, by rw [f4]; omega⟩
    rw [this]; rfl, fun j hj hne hz => by rw [f2]; exact (hno j hj hne hz).symm⟩)
  have hr := hP.rots hb
  have hLs : leadR (rootsL (splice l (200 + 11 * i) (rootB s y))) s = y.toNat := by
    have := lead_at hG (s := s) hi (by rw [hr i hi, if_pos rfl]; exact f1) (by rw [hr i hi, if_pos rfl]; exact f2)
    rw [hr i hi, if_pos rfl, f4] at this
    exact this
  refine ⟨hG, hP.same hb, by rw [hLs]; exact hyn, fun t ht => ?_, ?_, ?_, i, hP⟩
  · by_cases hex : ∃ j, j < 8 ∧ zeroE (rawR l j) = false ∧ nmR (rawR l j) = t
    · obtain ⟨j, hj, hzj, hnj⟩ := hex
      have hne : j ≠ i := fun e => by
        subst e
        rw [hz] at hzj
        have h1 : ¬ (placeF l s 8).1 < 0 := by simpa using hzj
        rcases p1 with ⟨a, b⟩ | ⟨q, _, b, c, d, e, _⟩
        · omega
        · unfold setAt at ha
          rw [if_neg h1, c] at ha
          obtain rfl : q = j := by omega
          exact ht (hnj.symm.trans e)
      rw [lead_at hg hj hzj hnj, lead_at hG hj (by rw [hr j hj, if_neg hne]; exact hzj) (by rw [hr j hj, if_neg hne]; exact hnj), hr j hj, if_neg hne]
    · rw [lead_no hg (fun j hj hzj hnj => hex ⟨j, hj, hzj, hnj⟩), lead_no hG (fun j hj hzj hnj => ?_)]
      rw [hr j hj] at hzj hnj
      by_cases e : j = i
      · rw [if_pos e, f2] at hnj; exact ht hnj.symm
      · rw [if_neg e] at hzj hnj; exact hex ⟨j, hj, hzj, hnj⟩
  · have hc := hP.count hb
    rw [f1, hz] at hc
    by_cases h0 : (placeF l s 8).1 < 0
    · simp [h0] at hc ⊢; omega
    · simp [h0] at hc ⊢; omega
  · refine ⟨rootP (rootB s y), mem_rootsF.2 ⟨i, hi, by rw [hr i hi, if_pos rfl]; exact f1, by rw [hr i hi, if_pos rfl]⟩, ?_⟩
    rw [rootB_P s y hh hn]
    exact hyn
/-- a name that was set lies at its own place then -/
theorem SetIs.place {l l' s : Bytes} {y : Int} (h : SetIs l l' s y) (hg : Good l) (hn : isName s = true) (hy : hE l y = 0) : ∃ i : Nat, i < 8 ∧ (placeF l' s 8).1 = i ∧ zeroE (rawR l' i) = false ∧ nmR (rawR l' i) = s := by
  obtain ⟨i, hP⟩ := h.puts
  obtain ⟨f1, f2, -⟩ := rootB_facts s y (hE_handle hy) hn
  have hr := hP.rots hg.bd.1 i hP.i8
  rw [if_pos rfl] at hr
  obtain ⟨p1, -⟩ := placeF_spec l' s 8 (Nat.le_refl _)
  rcases p1 with ⟨a, b⟩ | ⟨q, _, b, c, d, e, _⟩
  · exact absurd (by rw [hr]; exact f2) (b i (by have := hP.i8; omega) hP.i8 (by rw [hr]; exact f1))
  · exact ⟨q, b, c, d, e⟩
/-- unset -/
theorem unset_is {l s : Bytes} {i : Nat} (hg : Good l) (hi : i < 8) (hz : zeroE (rawR l i) = false) (hs : nmR (rawR l i) = s) : Good (splice l (200 + 11 * i) (List.replicate 11 0)) ∧ leadR (rootsL (splice l (200 + 11 * i) (List.replicate 11 0))) s = 0 ∧ (placeF (splice l (200 + 11 * i) (List.replicate 11 0)) s 8).1 = -1 := by
  have hP : PutsR l (splice l (200 + 11 * i) (List.replicate 11 0)) i (List.replicate 11 0) := ⟨hi, by simp, rfl⟩
  have hG := hP.good hg (.inl (zeros_zero 11))
  have hr := hP.rots hg.bd.1
  have hno : ∀ j, j < 8 → zeroE (rawR (splice l (200 + 11 * i) (List.replicate 11 0)) j) = false → nmR (rawR (splice l (200 + 11 * i) (List.replicate 11 0)) j) ≠ s := fun j hj hzj hnj => by
    rw [hr j hj] at hzj hnj
    by_cases e : j = i
    · rw [if_pos e, zeros_zero] at hzj; cases hzj
    · rw [if_neg e] at hzj hnj
      rcases Nat.lt_or_gt_of_ne e with h | h
      · exact hg.s.name i hi j h hz hzj (hs.trans hnj.symm)
      · exact hg.s.name j hj i h hzj hz (hnj.trans hs.symm)
  refine ⟨hG, lead_no hG hno, ?_⟩
  obtain ⟨p1, -⟩ := placeF_spec (splice l (200 + 11 * i) (List.replicate 11 0)) s 8 (Nat.le_refl _)
  rcases p1 with ⟨a, _⟩ | ⟨q, _, b, c, d, e, _⟩
  · exact a
  · exact absurd e (hno q b d)
end Go.Proofs.YtbnobjlphmkgeaaGreatDoor
/- root.Set of whatever, and root.Unset. -/
namespace Go.Proofs.YtbnobjlphmkgeaaGreatDoor
open Go.RowKit

/-- the fault of Set; the image behind it -/
def setE (l s : Bytes) (x : Int) : Nat := if isName s = false then 2 else if hE l x ≠ 0 then hE l x else if setAt l s < 0 then 4 else 0
def setL (l s : Bytes) (x : Int) : Bytes := if setE l s x = 0 then splice l (200 + 11 * (setAt l s).toNat) (rootB s x) else l
def unE (l s : Bytes) : Nat := if isName s = false then 2 else if (placeF l s 8).1 < 0 then 5 else 0
def unL (l s : Bytes) : Bytes := if unE l s = 0 then splice l (200 + 11 * (placeF l s 8).1.toNat) (List.replicate 11 0) else l
theorem setAt_lt (l s : Bytes) : -1 ≤ setAt l s ∧ setAt l s < 8 := by
  obtain ⟨p1, p2⟩ := placeF_spec l s 8 (Nat.le_refl _)
  unfold setAt
  split
  · rcases p2 with ⟨a, _⟩ | ⟨q, _, b, c, _⟩ <;> omega
  · rcases p1 with ⟨a, _⟩ | ⟨q, _, b, c, _⟩ <;> omega
theorem setE_ok {l s : Bytes} {x : Int} (h : setE l s x = 0) : isName s = true ∧ hE l x = 0 ∧ ∃ i : Nat, i < 8 ∧ setAt l s = i ∧ setL l s x = splice l (200 + 11 * i) (rootB s x) := by
  have h' := h
  unfold setE at h
  cases hn : isName s with
  | false => rw [hn] at h; simp at h
  | true =>
    rw [hn] at h
    by_cases h0 : hE l x = 0
    · by_cases h1 : setAt l s < 0
      · simp [h0, h1] at h
      · have := setAt_lt l s
        refine ⟨rfl, h0, (setAt l s).toNat, by omega, by omega, ?_⟩
        unfold setL; rw [if_pos h']
    · simp [h0] at h
theorem setE_is {l s : Bytes} {x : Int} (hg : Good l) (h : setE l s x = 0) : SetIs l (setL l s x) s x := by
  obtain ⟨h1, h2, i, h3, h4, h5⟩ := setE_ok h
  rw [h5]; exact set_is hg h1 h2 h3 h4
theorem unL_good {l s : Bytes} (hg : Good l) : Good (unL l s) := by
  unfold unL
  split
  · rename_i h
    obtain ⟨p1, p2⟩ := placeF_spec l s 8 (Nat.le_refl _)
    rcases p1 with ⟨a, _⟩ | ⟨q, _, b, c, d, e, _⟩
    · unfold unE at h; rw [if_pos (by omega : (placeF l s 8).1 < 0)] at h; split at h <;> simp at h
    · rw [c, Int.toNat_natCast]; exact (unset_is hg b d e).1
  · exact hg
section
variable {w0 w : World} {F : Nat → Prop} {h : Nat} {l : Bytes}
set_option maxRecDepth 100000 in
theorem rset_any (s : Bytes) (x : Int) (hp : Hp w0 w F h l) (hg : Good l) (hs : s.length ≤ 140737488351232) :
    Calls Tryz.prog 19 #[.pointer (some ⟨h, 0, none⟩), sv s, .int .i64 x] w fun e w' => e = .returned (.tuple #[.bool (decide (setE l s x = 0 ∧ (placeF l s 8).1 < 0)), errV (setE l s x)]) ∧ ∃ F', HpM w0 w w' F F' h (setL l s x) := by
  cases hn : isName s with
  | false =>
    have he : setE l s x = 2 := by unfold setE; rw [if_pos hn]
    have hL : setL l s x = l := by unfold setL; rw [he]; rfl
    rw [he, hL]
    rw [show decide ((2 : Nat) = 0 ∧ (placeF l s 8).1 < 0) = false from by simp]
    have HP := Hidden.mk hp
    have HC := Hidden.mk (putName_no s w hs hn)
    clear hp hg he hL hn
    go_enter Tryz.func19, Tryz.ntmps19
    go_wp2_with fail
    refine HC.out.mono ?_
    rintro e w2 ⟨rfl, hb2⟩
    have HB := Hidden.mk (HP.out.same hb2)
    clear hb2 HC
    go_wp2_with fail
    go_ret2
    exact ⟨rfl, F, HB.out⟩
  | true =>
    by_cases hx : hE l x = 0
    · have hA := setAt_lt l s
      by_cases ha : setAt l s < 0
      · have he : setE l s x = 4 := by unfold setE; rw [if_neg (by rw [hn]; decide), if_neg (by omega), if_pos ha]
        have hL : setL l s x = l := by unfold setL; rw [he]; rfl
        rw [he, hL]
        rw [show decide ((4 : Nat) = 0 ∧ (placeF l s 8).1 < 0) = false from by simp]
        refine (rset_full s x hp hg hn hx ha).mono ?_
        rintro e w' ⟨rfl, hb⟩
        exact ⟨rfl, F, hp.same hb⟩
      · have he : setE l s x = 0 := by unfold setE; rw [if_neg (by rw [hn]; decide), if_neg (by omega), if_neg ha]
        obtain ⟨_, _, i, hi, hai, hL⟩ := setE_ok he
        rw [he, hL]
        refine (rset_ok s x i hp hg hn hx hi hai).mono ?_
        rintro e w' ⟨rfl, F', hm⟩
        rw [putRo_name s x (hE_handle hx)] at hm
        refine ⟨?_, F', hm⟩
        rw [show decide ((0 : Nat) = 0 ∧ (placeF l s 8).1 < 0) = decide ((placeF l s 8).1 < 0) from by simp]
        rfl
    · have he : setE l s x = hE l x := by unfold setE; rw [if_neg (by rw [hn]; decide), if_pos hx]
      have hL : setL l s x = l := by unfold setL; rw [he, if_neg hx]
      have hev : errV (hE l x) = .iface 111 (.int .i64 (hE l x : Int)) := by unfold errV; rw [if_neg hx]
      rw [he, hL]
      rw [show decide (hE l x = 0 ∧ (placeF l s 8).1 < 0) = false from by simp [hx]]
      have HP := Hidden.mk hp
      have HC := Hidden.mk (putName_ok s w hn)
      have HT : Hidden (∀ W, Below w.heap.size w W → Calls Tryz.prog 31 #[.pointer (some ⟨h, 0, none⟩), .int .i64 x] W fun e w' => e = .returned (.tuple #[.int .i64 (gT l x), .iface 111 (.int .i64 (hE l x : Int))]) ∧ Below W.heap.size W w') := ⟨fun W hW => by rw [← hev]; exact htag_any x (hp.below hW)⟩
      rw [hev]
      generalize gT l x = gt at *
      generalize (hE l x : Int) = q at *
      clear hp hg he hL hn hx hev
      go_enter Tryz.func19, Tryz.ntmps19
      go_wp2_with fail
      refine HC.out.mono ?_
      rintro e w1 ⟨gn, rfl, -, -, hb1⟩
      have HB1 := Hidden.mk hb1
      clear hb1 HC
      go_wp2_with fail
      refine (HT.out w1 HB1.out).mono ?_
      rintro e w2 ⟨rfl, hb2⟩
      have HB2 := Hidden.mk (HP.out.same (HB1.out.trans (hb2.mono HB1.out.size)))
      clear hb2 HT HB1
      go_wp2_with fail
      go_ret2
      exact ⟨rfl, F, HB2.out⟩
set_option maxRecDepth 100000 in
theorem runset_any (s : Bytes) (hp : Hp w0 w F h l) (hg : Good l) (hs : s.length ≤ 140737488351232) :
    Calls Tryz.prog 21 #[.pointer (some ⟨h, 0, none⟩), sv s] w fun e w' => e = .returned (errV (unE l s)) ∧ ∃ F', HpM w0 w w' F F' h (unL l s) := by
  have HP := Hidden.mk hp
  cases hn : isName s with
  | false =>
    have he : unE l s = 2 := by unfold unE; rw [if_pos hn]
    have hL : unL l s = l := by unfold unL; rw [he]; rfl
    rw [he, hL]
    have HC := Hidden.mk (putName_no s w hs hn)
    clear hp hg he hL hn
    go_enter Tryz.func21, Tryz.ntmps21
    go_wp2_with fail
    refine HC.out.mono ?_
    rintro e w2 ⟨rfl, hb2⟩
    have HB := Hidden.mk (HP.out.same hb2)
    clear hb2 HC
    go_wp2_with fail
    go_ret
    exact ⟨rfl, F, HB.out⟩
  | true =>
    have HC := Hidden.mk (putName_ok s w hn)
    have HPL : Hidden (∀ W, Below w.heap.size w W → Calls Tryz.prog 83 #[.pointer (some ⟨h, 0, none⟩), sv s] W fun e w' => e = .returned (.tuple #[.int .i64 (placeF l s 8).1, .int .i64 (placeF l s 8).2]) ∧ Below W.heap.size W w') := ⟨fun W hW => place_any s (hp.below hW) hg⟩
    obtain ⟨p1, -⟩ := placeF_spec l s 8 (Nat.le_refl _)
    rcases p1 with ⟨a, _⟩ | ⟨i, _, b, c, d, e, _⟩
    · have he : unE l s = 5 := by unfold unE; rw [if_neg (by rw [hn]; decide), if_pos (by omega)]
      have hL : unL l s = l := by unfold unL; rw [he]; rfl
      rw [he, hL]
      rw [a] at HPL
      generalize (placeF l s 8).2 = p2 at *
      clear hp hg he hL hn a
      go_enter Tryz.func21, Tryz.ntmps21
      go_wp2_with fail
      refine HC.out.mono ?_
      rintro e w1 ⟨gn, rfl, -, -, hb1⟩
      have HB1 := Hidden.mk hb1
      clear hb1 HC
      go_wp2_with fail
      refine (HPL.out w1 HB1.out).mono ?_
      rintro e w2 ⟨rfl, hb2⟩
      have HB2 := Hidden.mk (HP.out.same (HB1.out.trans (hb2.mono HB1.out.size)))
      clear hb2 HPL HB1
      go_wp2_with fail
      go_ret
      exact ⟨rfl, F, HB2.out⟩
    · have he : unE l s = 0 := by unfold unE; rw [if_neg (by rw [hn]; decide), if_neg (by omega)]
      have hL : unL l s = splice l (200 + 11 * i) (List.replicate 11 0) := by unfold unL; rw [if_pos he, c, Int.toNat_natCast]
      rw [he, hL]
      rw [c] at HPL
      have HPR : Hidden (∀ W, Below w.heap.size w W → Calls Tryz.prog 84 #[.pointer (some ⟨h, 0, none⟩), .int .i64 (i : Int), .agg #[sv [], .int .i64 0]] W fun e w' => e = .returned .nilIface ∧ ∃ F', HpM w0 W w' F F' h (splice l (200 + 11 * i) (List.replicate 11 0))) := ⟨fun W hW => by
        have := hroot_ok i [] 0 (hp.below hW) b (.inl ⟨rfl, rfl⟩)
        rw [putRo_zero] at this; exact this⟩
      have d1 : decide ((i : Int) < 0) = false := by simp
      generalize splice l (200 + 11 * i) (List.replicate 11 0) = l' at *
      generalize (placeF l s 8).2 = p2 at *
      clear hp hg he hL hn c d e b
      go_enter Tryz.func21, Tryz.ntmps21
      go_wp2_with fail
      refine HC.out.mono ?_
      rintro e w1 ⟨gn, rfl, -, -, hb1⟩
      have HB1 := Hidden.mk hb1
      clear hb1 HC
      go_wp2_with fail
      refine (HPL.out w1 HB1.out).mono ?_
      rintro e w2 ⟨rfl, hb2⟩
      have HB2 := Hidden.mk (HB1.out.trans (hb2.mono HB1.out.size))
      clear hb2 HPL HB1
      go_wp2_with fail
      refine (HPR.out w2 HB2.out).mono ?_
      rintro e w3 ⟨rfl, F', hm⟩
      have HF := Hidden.mk ((HP.out.same HB2.out).trans hm)
      clear hm HPR HB2
      go_wp2_with fail
      go_ret
      exact ⟨rfl, F', HF.out⟩
end
end Go.Proofs.YtbnobjlphmkgeaaGreatDoor
/- Objects moved closer together, plainly. No walk here. -/
namespace Go.Proofs.YtbnobjlphmkgeaaGreatDoor
open Go.RowKit Go.Sort Go.Shelf Go.Lib

abbrev Ent := Int × Bytes
def cmpM (x y : Ent) : Int := Lib.compareInt (rAt x.2 : Int) (rAt y.2 : Int)
theorem ltM (x y : Ent) : ltOf cmpM x y = decide (rAt x.2 < rAt y.2) := by
  unfold ltOf cmpM Lib.compareInt
  by_cases h1 : (rAt x.2 : Int) < rAt y.2
  · have : rAt x.2 < rAt y.2 := by omega
    simp [h1, this]
  · have h3 : ¬ rAt x.2 < rAt y.2 := by omega
    by_cases h2 : (rAt y.2 : Int) < rAt x.2 <;> simp [h1, h2, h3]
theorem swoM : SWO (ltOf cmpM) where
  irrefl x := by rw [ltM]; simp
  trans x y z h1 h2 := by rw [ltM] at *; simp at *; omega
  ntrans x y z h1 h2 := by rw [ltM] at *; simp at *; omega
/-- entries by where they begin -/
def sortM (l : Bytes) : List Ent := pdqL cmpM (entriesL l)
theorem sortM_perm (l : Bytes) : (sortM l).Perm (entriesL l) := (pdqL_perm cmpM swoM _).1
theorem sortM_sorted (l : Bytes) : (sortM l).Pairwise (fun a b => rAt a.2 ≤ rAt b.2) := (pdqL_perm cmpM swoM _).2.imp fun {a b} h => by
  rw [ltM] at h; simp at h; omega
/-- behind each other, from a to n -/
def TidyM : Nat → List Ent → Nat → Prop
  | a, [], n => a ≤ n
  | a, e :: r, n => a ≤ rAt e.2 ∧ 1 ≤ rLen e.2 ∧ TidyM (rAt e.2 + rLen e.2) r n
theorem tidyM_le : ∀ {S : List Ent} {a n : Nat}, TidyM a S n → a ≤ n
  | [], _, _, h => h
  | e :: r, _, _, ⟨h1, h2, h3⟩ => by have := tidyM_le h3; omega
theorem tidyM_mem : ∀ {S : List Ent} {a n : Nat}, TidyM a S n → ∀ e ∈ S, a ≤ rAt e.2 ∧ 1 ≤ rLen e.2 ∧ rAt e.2 + rLen e.2 ≤ n
  | [], _, _, _, e, he => by cases he
  | x :: r, _, _, ⟨h1, h2, h3⟩, e, he => by
    rcases List.mem_cons.1 he with rfl | he
    · have := tidyM_le h3; omega
    · have := tidyM_mem h3 e he; omega
theorem tidyM_mono : ∀ {S : List Ent} {a b n : Nat}, TidyM a S n → b ≤ a → TidyM b S n
  | [], _, _, _, h, hb => Nat.le_trans hb h
  | _ :: _, _, _, _, ⟨h1, h2, h3⟩, hb => ⟨by omega, h2, h3⟩
theorem tidyM_strict : ∀ {S : List Ent} {a n : Nat}, TidyM a S n → S.Pairwise (fun x y => rAt x.2 < rAt y.2)
  | [], _, _, _ => List.Pairwise.nil
  | e :: r, a, n, ⟨h1, h2, h3⟩ => List.Pairwise.cons (fun x hx => by have := tidyM_mem h3 x hx; omega) (tidyM_strict h3)
theorem tidyM_mk (n : Nat) : ∀ (S : List Ent) (a : Nat), (∀ e ∈ S, a ≤ rAt e.2 ∧ 1 ≤ rLen e.2 ∧ rAt e.2 + rLen e.2 ≤ n) → S.Pairwise (fun x y => rAt x.2 + rLen x.2 ≤ rAt y.2) → a ≤ n → TidyM a S n
  | [], _, _, _, h => h
  | e :: r, a, hb, hp, _ => by
    obtain ⟨h1, h2, h3⟩ := hb e (List.mem_cons_self ..)
    rw [List.pairwise_cons] at hp
    exact ⟨h1, h2, tidyM_mk n r _ (fun x hx => by have := hb x (List.mem_cons_of_mem _ hx); have := hp.1 x hx; omega) hp.2 (by omega)⟩
theorem entL_mem {l : Bytes} {e : Ent} : e ∈ entriesL l ↔ ∃ k : Nat, k < 40 ∧ hasE (rawE l k) = true ∧ e = ((k : Int) + 1, rawE l k) := by
  unfold entriesL entsL
  simp only [List.mem_map, List.mem_filter, List.mem_range]
  constructor
  · rintro ⟨k, ⟨h1, h2⟩, rfl⟩; exact ⟨k, h1, h2, rfl⟩
  · rintro ⟨k, h1, h2, rfl⟩; exact ⟨k, ⟨h1, h2⟩, rfl⟩
theorem entL_nodup (l : Bytes) : (entriesL l).Pairwise (fun a b => a.1 ≠ b.1) := by
  unfold entriesL entsL
  rw [List.pairwise_map]
  exact (List.pairwise_lt_range.filter _).imp fun {a b} h => by dsimp only; omega
theorem sortM_nodup (l : Bytes) : (sortM l).Pairwise (fun a b => a.1 ≠ b.1) := ((sortM_perm l).pairwise_iff (R := fun a b : Ent => a.1 ≠ b.1) (fun h => h.symm)).2 (entL_nodup l)
theorem tidy_sortM {l : Bytes} (hg : Good l) : TidyM 288 (sortM l) l.length := by
  have hb := hg.bd
  refine tidyM_mk _ _ _ (fun e he => ?_) ?_ hb.1
  · obtain ⟨k, hk, hh, rfl⟩ := entL_mem.1 ((sortM_perm l).mem_iff.1 he)
    have := strayE_false (hg.s.fit k hk hh)
    dsimp only; omega
  · rw [List.pairwise_iff_getElem]
    intro i j hi hj hij
    have hs := List.pairwise_iff_getElem.1 (sortM_sorted l) i j hi hj hij
    have hn := List.pairwise_iff_getElem.1 (sortM_nodup l) i j hi hj hij
    obtain ⟨k, hk, hh, e1⟩ := entL_mem.1 ((sortM_perm l).mem_iff.1 (List.getElem_mem hi))
    obtain ⟨q, hq, hh2, e2⟩ := entL_mem.1 ((sortM_perm l).mem_iff.1 (List.getElem_mem hj))
    rw [e1, e2] at hs hn ⊢
    dsimp only at hs hn ⊢
    have ha := hg.apart (j := q) (k := k) hq hk (by omega) hh2 hh
    have h1 := strayE_false (hg.s.fit k hk hh)
    have h2 := strayE_false (hg.s.fit q hq hh2)
    unfold overE at ha
    simp only [Bool.and_eq_false_iff, decide_eq_false_iff_not] at ha
    omega
theorem sortM_unique {l : Bytes} {S : List Ent} {a n : Nat} (hp : S.Perm (entriesL l)) (ht : TidyM a S n) : sortM l = S := by
  have h1 : (sortM l).Perm S := (sortM_perm l).trans hp.symm
  have hs := tidyM_strict ht
  refine List.Perm.eq_of_pairwise (le := fun x y : Ent => rAt x.2 ≤ rAt y.2) (fun x y hx hy h h' => ?_) (sortM_sorted l) (hs.imp fun h => Nat.le_of_lt h) h1
  have hx' : x ∈ S := h1.mem_iff.1 hx
  obtain ⟨i, hi, rfl⟩ := List.getElem_of_mem hx'
  obtain ⟨j, hj, rfl⟩ := List.getElem_of_mem hy
  rw [List.pairwise_iff_getElem] at hs
  rcases Nat.lt_trichotomy i j with hij | rfl | hij
  · have := hs i j hi hj hij; omega
  · rfl
  · have := hs j i hj hi hij; omega
/-- the first that has a gap ahead of it, and where it goes -/
def gapM : Nat → List Ent → Option (Ent × Nat)
  | _, [] => none
  | a, e :: r => if a < rAt e.2 then some (e, a) else gapM (rAt e.2 + rLen e.2) r
/-- how many stand behind the first gap -/
def packM : Nat → List Ent → Nat
  | _, [] => 0
  | a, e :: r => if a < rAt e.2 then r.length + 1 else packM (rAt e.2 + rLen e.2) r
theorem packM_le : ∀ (S : List Ent) (a : Nat), packM a S ≤ S.length
  | [], _ => Nat.le_refl _
  | e :: r, a => by
    unfold packM; split
    · simp
    · have := packM_le r (rAt e.2 + rLen e.2); simp; omega
def swapE (e : Ent) (r' : Bytes) (x : Ent) : Ent := if x.1 = e.1 then (e.1, r') else x
theorem swap_none {e : Ent} {r' : Bytes} : ∀ {S : List Ent}, (∀ x ∈ S, x.1 ≠ e.1) → S.map (swapE e r') = S
  | [], _ => rfl
  | x :: r, h => by
    rw [List.map_cons, swap_none (fun y hy => h y (List.mem_cons_of_mem _ hy))]
    unfold swapE
    rw [if_neg (h x (List.mem_cons_self ..))]
theorem gap_swap {n : Nat} {e : Ent} {at_ : Nat} {r' : Bytes} (h1 : rAt r' = at_) (h2 : rLen r' = rLen e.2) : ∀ {S : List Ent} {a : Nat}, TidyM a S n → S.Pairwise (fun x y => x.1 ≠ y.1) → gapM a S = some (e, at_) →
    TidyM a (S.map (swapE e r')) n ∧ packM a (S.map (swapE e r')) < packM a S ∧ a ≤ at_ ∧ at_ < rAt e.2 ∧ e ∈ S ∧ ∀ x ∈ S, x.1 ≠ e.1 → at_ + rLen e.2 ≤ rAt x.2 ∨ rAt x.2 + rLen x.2 ≤ at_
  | [], _, _, _, h => by cases h
  | x :: r, a, ⟨t1, t2, t3⟩, hp, h => by
    rw [List.pairwise_cons] at hp
    unfold gapM at h
    by_cases hc : a < rAt x.2
    · rw [if_pos hc] at h
      have h' := Option.some.inj h
      injection h' with h3 h4
      subst h3 h4
      have hr : r.map (swapE x r') = r := swap_none (fun y hy => (hp.1 y hy).symm)
      rw [List.map_cons, hr]
      have hx : swapE x r' x = (x.1, r') := by unfold swapE; rw [if_pos rfl]
      rw [hx]
      have hm : TidyM (rAt r' + rLen r') r n := tidyM_mono t3 (by omega)
      refine ⟨⟨by dsimp only; omega, by dsimp only; omega, hm⟩, ?_, Nat.le_refl _, hc, List.mem_cons_self .., fun y hy hne => ?_⟩
      · unfold packM
        rw [if_pos hc, if_neg (by dsimp only; omega)]
        have := packM_le r (rAt r' + rLen r')
        dsimp only; omega
      · rcases List.mem_cons.1 hy with rfl | hy
        · exact absurd rfl hne
        · have := tidyM_mem t3 y hy; left; omega
    · rw [if_neg hc] at h
      obtain ⟨g1, g2, g3, g4, g5, g6⟩ := gap_swap h1 h2 t3 hp.2 h
      have hne : x.1 ≠ e.1 := hp.1 e g5
      have hx : swapE e r' x = x := by unfold swapE; rw [if_neg hne]
      rw [List.map_cons, hx]
      refine ⟨⟨t1, t2, g1⟩, ?_, by omega, g4, List.mem_cons_of_mem _ g5, fun y hy hne' => ?_⟩
      · unfold packM
        rw [if_neg hc, if_neg hc]; exact g2
      · rcases List.mem_cons.1 hy with rfl | hy
        · right; omega
        · exact g6 y hy hne'
/-- what Move makes of an image: the object of the handle k + 1 at another place -/
def moveL (l : Bytes) (k a : Nat) : Bytes := splice (splice l (5 * k) (entB a (rLen (rawE l k)) (rTag (rawE l k)).toNat)) a ((l.drop (rAt (rawE l k))).take (rLen (rawE l k)))
structure MoveIs (l l' : Bytes) (k a : Nat) : Prop where
  k40 : k < 40
  has : hasE (rawE l k) = true
  a0 : 288 ≤ a
  a1 : a < rAt (rawE l k)
  len : l'.length = l.length
  ents : ∀ j, j < 40 → rawE l' j = if j = k then entB a (rLen (rawE l k)) (rTag (rawE l k)).toNat else rawE l j
  rots : ∀ i, i < 8 → rawR l' i = rawR l i
  apart : ∀ j, j < 40 → j ≠ k → hasE (rawE l j) = true → a + rLen (rawE l k) ≤ rAt (rawE l j) ∨ rAt (rawE l j) + rLen (rawE l j) ≤ a
  body : (l'.drop a).take (rLen (rawE l k)) = (l.drop (rAt (rawE l k))).take (rLen (rawE l k))
  rest : ∀ b m, 288 ≤ b → b + m ≤ a ∨ a + rLen (rawE l k) ≤ b → (l'.drop b).take m = (l.drop b).take m
theorem move_is {l : Bytes} (hg : Good l) {k a : Nat} (hk : k < 40) (hh : hasE (rawE l k) = true) (ha : 288 ≤ a) (ha1 : a < rAt (rawE l k)) (hap : ∀ j, j < 40 → j ≠ k → hasE (rawE l j) = true → a + rLen (rawE l k) ≤ rAt (rawE l j) ∨ rAt (rawE l j) + rLen (rawE l j) ≤ a) : MoveIs l (moveL l k a) k a := by
  have hb := hg.bd
  have hs := strayE_false (hg.s.fit k hk hh)
  have hbl : ((l.drop (rAt (rawE l k))).take (rLen (rawE l k))).length = rLen (rawE l k) := by simp; omega
  have hl1 : (splice l (5 * k) (entB a (rLen (rawE l k)) (rTag (rawE l k)).toNat)).length = l.length := splice_len _ _ _ (by rw [entB_len]; omega)
  have hfit : a + ((l.drop (rAt (rawE l k))).take (rLen (rawE l k))).length ≤ (splice l (5 * k) (entB a (rLen (rawE l k)) (rTag (rawE l k)).toNat)).length := by rw [hbl, hl1]; omega
  refine ⟨hk, hh, ha, ha1, by unfold moveL; rw [splice_len _ _ _ hfit, hl1], fun j hj => ?_, fun i hi => ?_, hap, ?_, fun b m hb0 hbm => ?_⟩
  · unfold moveL
    rw [rawE_tail _ _ _ _ ha hfit hj]
    exact rawE_splice l _ k j (entB_len _ _ _) hk hj (by omega)
  · unfold moveL
    rw [rawR_tail _ _ _ _ ha hfit hi]
    exact rawR_head l _ _ _ (by rw [entB_len]; omega) (by omega)
  · unfold moveL
    rw [cut_splice_in _ _ _ _ _ hfit (Nat.le_refl _) (by rw [hbl]; exact Nat.le_refl _), Nat.sub_self, List.drop_zero, List.take_of_length_le (by rw [hbl]; exact Nat.le_refl _)]
  · unfold moveL
    rw [cut_splice _ _ _ _ _ hfit (by rw [hbl]; exact hbm), cut_splice _ _ _ _ _ (by rw [entB_len]; omega) (by rw [entB_len]; omega)]
section
variable {l l' : Bytes} {k a : Nat}
theorem MoveIs.ent (h : MoveIs l l' k a) (hg : Good l) : hasE (rawE l' k) = true ∧ rAt (rawE l' k) = a ∧ rLen (rawE l' k) = rLen (rawE l k) ∧ rTag (rawE l' k) = rTag (rawE l k) := by
  have hs := strayE_false (hg.s.fit k h.k40 h.has)
  have hb := hg.bd
  have ha := h.a1
  obtain ⟨e1, e2, e3, e4⟩ := entB_rd a (rLen (rawE l k)) (rTag (rawE l k)).toNat (by omega) (by omega) (by omega)
  rw [h.ents k h.k40, if_pos rfl]
  exact ⟨e1, e2, e3, by omega⟩
theorem MoveIs.good (h : MoveIs l l' k a) (hg : Good l) : Good l' := by
  have hs := strayE_false (hg.s.fit k h.k40 h.has)
  have hb := hg.bd
  have ha := h.a1
  have ha0 := h.a0
  obtain ⟨e1, e2, e3, e4⟩ := entB_rd a (rLen (rawE l k)) (rTag (rawE l k)).toNat (by omega) (by omega) (by omega)
  refine good_iff.2 ⟨by rw [h.len]; exact hg.len, ?_⟩
  rw [h.len]
  have h1 : GoodS l.length (rawE l') (rawR l) := by
    refine hg.s.putE k h.k40 _ h.ents e1 ?_ (fun j hj hne hh => ?_)
    · unfold strayE
      rw [e2, e3, e4, tagB_true.2 ⟨by omega, by omega⟩, lenB_true.2 ⟨by omega, by omega⟩, withinB_true.2 ⟨by omega, by omega, by omega⟩]
      rfl
    · have := h.apart j hj hne hh
      unfold overE
      rw [e2, e3]
      simp only [Bool.and_eq_false_iff, decide_eq_false_iff_not]
      omega
  exact h1.putR 0 (rawR l 0) (fun j hj => by rw [h.rots j hj]; split <;> simp_all) (by
    cases hz : zeroE (rawR l 0) with
    | true => exact .inl rfl
    | false => exact .inr ⟨h1.root 0 (by omega) hz, fun j hj hne hz' => (h1.name j hj 0 (by omega) hz' hz).symm⟩)
/-- no object is another one -/
theorem MoveIs.keep (h : MoveIs l l' k a) (hg : Good l) {j : Nat} (hj : j < 40) : objT l' j = objT l j ∧ objS l' j = objS l j := by
  by_cases e : j = k
  · subst e
    obtain ⟨e1, e2, e3, e4⟩ := h.ent hg
    unfold objT objS
    rw [e1, h.has, e2, e3, e4]
    simp only [if_true]
    exact ⟨trivial, h.body⟩
  · refine obj_congr (by rw [h.ents j hj, if_neg e]) fun hh => ?_
    have := strayE_false (hg.s.fit j hj hh)
    have := h.apart j hj e hh
    exact h.rest _ _ (by omega) (by omega)
theorem MoveIs.roots (h : MoveIs l l' k a) : rootsL l' = rootsL l := by
  unfold rootsL rootsF
  rw [List.filter_congr (fun i hi => by rw [h.rots i (List.mem_range.1 hi)])]
  exact List.map_congr_left fun i hi => by rw [h.rots i (List.mem_range.1 (List.mem_filter.1 hi).1)]
theorem MoveIs.entries (h : MoveIs l l' k a) (hg : Good l) : entriesL l' = (entriesL l).map (swapE ((k : Int) + 1, rawE l k) (rawE l' k)) := by
  have he := h.ent hg
  unfold entriesL entsL
  rw [List.map_map, List.filter_congr (q := fun j => hasE (rawE l j)) (fun j hj => by
    have hj := List.mem_range.1 hj
    by_cases e : j = k
    · rw [e, he.1, h.has]
    · rw [h.ents j hj, if_neg e])]
  refine List.map_congr_left fun j hj => ?_
  have hj := List.mem_range.1 (List.mem_filter.1 hj).1
  simp only [Function.comp_apply, swapE]
  by_cases e : j = k
  · subst e; rw [if_pos rfl]
  · rw [if_neg (by omega), h.ents j hj, if_neg e]
theorem MoveIs.taken (h : MoveIs l l' k a) (hg : Good l) : (takenL l').length = (takenL l).length ∧ sumX (takenL l') = sumX (takenL l) := by
  have he := h.ent hg
  have hE := h.entries hg
  constructor
  · unfold takenL; rw [List.length_map, List.length_map, hE, List.length_map]
  · have key : ∀ L : List Ent, (∀ e ∈ L, e.1 = (k : Int) + 1 → rLen e.2 = rLen (rawE l k)) → sumX ((L.map (swapE ((k : Int) + 1, rawE l k) (rawE l' k))).map takeX) = sumX (L.map takeX) := by
      intro L
      induction L with
      | nil => intro _; rfl
      | cons x r ih =>
        intro hL
        rw [List.map_cons, List.map_cons, List.map_cons, sumX_cons, sumX_cons, ih (fun e he => hL e (List.mem_cons_of_mem _ he))]
        congr 1
        unfold swapE takeX
        by_cases e : x.1 = (k : Int) + 1
        · rw [if_pos e]
          have := hL x (List.mem_cons_self ..) e
          dsimp only; omega
        · rw [if_neg e]
    unfold takenL
    rw [hE]
    exact key _ fun e he1 he2 => by
      obtain ⟨j, hj, hh, rfl⟩ := entL_mem.1 he1
      dsimp only at he2 ⊢
      rw [show j = k by omega]
end
/-- a step, if there is one -/
theorem step_is {l : Bytes} (hg : Good l) {e : Ent} {a : Nat} (h : gapM 288 (sortM l) = some (e, a)) : ∃ k : Nat, e = ((k : Int) + 1, rawE l k) ∧ MoveIs l (moveL l k a) k a ∧ packM 288 (sortM (moveL l k a)) < packM 288 (sortM l) := by
  have ht := tidy_sortM hg
  have hn := sortM_nodup l
  have hmem : e ∈ sortM l ∧ 288 ≤ a ∧ a < rAt e.2 ∧ ∀ x ∈ sortM l, x.1 ≠ e.1 → a + rLen e.2 ≤ rAt x.2 ∨ rAt x.2 + rLen x.2 ≤ a := by
    have aux : ∀ {S : List Ent} {b n : Nat}, TidyM b S n → S.Pairwise (fun x y => x.1 ≠ y.1) → gapM b S = some (e, a) → e ∈ S ∧ b ≤ a ∧ a < rAt e.2 ∧ ∀ x ∈ S, x.1 ≠ e.1 → a + rLen e.2 ≤ rAt x.2 ∨ rAt x.2 + rLen x.2 ≤ a := by
      intro S
      induction S with
      | nil => intro b n _ _ h; cases h
      | cons x r ih =>
        intro b n ⟨t1, t2, t3⟩ hp h
        rw [List.pairwise_cons] at hp
        unfold gapM at h
        by_cases hc : b < rAt x.2
        · rw [if_pos hc] at h
          have h' := Option.some.inj h
          injection h' with h3 h4
          subst h3 h4
          refine ⟨List.mem_cons_self .., Nat.le_refl _, hc, fun y hy hne => ?_⟩
          rcases List.mem_cons.1 hy with rfl | hy
          · exact absurd rfl hne
          · have := tidyM_mem t3 y hy; left; omega
        · rw [if_neg hc] at h
          obtain ⟨g1, g2, g3, g4⟩ := ih t3 hp.2 h
          refine ⟨List.mem_cons_of_mem _ g1, by omega, g3, fun y hy hne => ?_⟩
          rcases List.mem_cons.1 hy with rfl | hy
          · right; omega
          · exact g4 y hy hne
    exact aux ht hn h
  obtain ⟨m1, m2, m3, m4⟩ := hmem
  obtain ⟨k, hk, hh, rfl⟩ := entL_mem.1 ((sortM_perm l).mem_iff.1 m1)
  dsimp only at m3 m4
  have hM := move_is hg hk hh m2 m3 (fun j hj hne hj2 => by
    have := m4 ((j : Int) + 1, rawE l j) ((sortM_perm l).mem_iff.2 (entL_mem.2 ⟨j, hj, hj2, rfl⟩)) (by dsimp only; omega)
    exact this)
  refine ⟨k, rfl, hM, ?_⟩
  obtain ⟨e1, e2, e3, e4⟩ := hM.ent hg
  obtain ⟨g1, g2, -⟩ := gap_swap (r' := rawE (moveL l k a) k) e2 e3 ht hn h
  have hp : ((sortM l).map (swapE ((k : Int) + 1, rawE l k) (rawE (moveL l k a) k))).Perm (entriesL (moveL l k a)) := by
    rw [hM.entries hg]; exact (sortM_perm l).map _
  rw [sortM_unique hp g1]
  exact g2
end Go.Proofs.YtbnobjlphmkgeaaGreatDoor
/- Laid: library functions whose contracts are proved over whatever program: the table of numbers, and a field a function or a type. -/
namespace Go.Proofs.YtbnobjlphmkgeaaGreatDoor
open Go.Shelf
def layE_ren : Go.Shelf.Ren := ⟨fun | 6 => 88 | 15 => 156 | 14 => 155 | 28 => 204 | 29 => 205 | 20 => 196 | 21 => 197 | 22 => 198 | 23 => 199 | 24 => 200 | 25 => 201 | 26 => 202 | 27 => 203 | 46 => 221 | 47 => 222 | 48 => 223 | 49 => 224 | 50 => 225 | 57 => 238 | n => n, fun | 22 => 141 | 24 => 66 | 25 => 148 | 3 => 3 | 39 => 213 | 0 => 0 | 53 => 272 | 55 => 274 | 4 => 4 | 46 => 266 | 45 => 265 | 50 => 217 | 5 => 5 | 9 => 9 | 66 => 296 | 70 => 300 | 76 => 310 | 77 => 58 | n => n, fun | n => n⟩
theorem layE : Go.Proofs.SlLaysF0.n6 Tryz.prog layE_ren := {
  mixed := by kernel_rfl
  f6 := ⟨Tryz.f88.name, by decide, Tryz.func88.trans (congrArg some (by kernel_rfl))⟩
  f14 := ⟨Tryz.f155.name, by decide, Tryz.func155.trans (congrArg some (by kernel_rfl))⟩
  f15 := Tryz.func156.trans (congrArg some (by kernel_rfl))
  f20 := ⟨Tryz.f196.name, by decide, Tryz.func196.trans (congrArg some (by kernel_rfl))⟩
  f21 := ⟨Tryz.f197.name, by decide, Tryz.func197.trans (congrArg some (by kernel_rfl))⟩
  f22 := ⟨Tryz.f198.name, by decide, Tryz.func198.trans (congrArg some (by kernel_rfl))⟩
  f23 := ⟨Tryz.f199.name, by decide, Tryz.func199.trans (congrArg some (by kernel_rfl))⟩
  f24 := ⟨Tryz.f200.name, by decide, Tryz.func200.trans (congrArg some (by kernel_rfl))⟩
  f25 := ⟨Tryz.f201.name, by decide, Tryz.func201.trans (congrArg some (by kernel_rfl))⟩
  f26 := ⟨Tryz.f202.name, by decide, Tryz.func202.trans (congrArg some (by kernel_rfl))⟩
  f27 := ⟨Tryz.f203.name, by decide, Tryz.func203.trans (congrArg some (by kernel_rfl))⟩
  f28 := Tryz.func204.trans (congrArg some (by kernel_rfl))
  f29 := Tryz.func205.trans (congrArg some (by kernel_rfl))
  f46 := ⟨Tryz.f221.name, by decide, Tryz.func221.trans (congrArg some (by kernel_rfl))⟩
  f47 := Tryz.func222.trans (congrArg some (by kernel_rfl))
  f48 := Tryz.func223.trans (congrArg some (by kernel_rfl))
  f49 := ⟨Tryz.f224.name, by decide, Tryz.func224.trans (congrArg some (by kernel_rfl))⟩
  f50 := ⟨Tryz.f225.name, by decide, Tryz.func225.trans (congrArg some (by kernel_rfl))⟩
  f57 := ⟨Tryz.f238.name, by decide, Tryz.func238.trans (congrArg some (by kernel_rfl))⟩
  t0 := Tryz.underlying0
  a0 := Tryz.isAgg0
  z0 := Tryz.sizeOf0
  v0 := Tryz.zeroValue0
  t3 := Tryz.underlying3
  a3 := Tryz.isAgg3
  z3 := Tryz.sizeOf3
  v3 := Tryz.zeroValue3
  t4 := Tryz.underlying4
  a4 := Tryz.isAgg4
  z4 := Tryz.sizeOf4
  v4 := Tryz.zeroValue4
  t5 := Tryz.underlying5
  a5 := Tryz.isAgg5
  z5 := Tryz.sizeOf5
  v5 := Tryz.zeroValue5
  t9 := Tryz.underlying9
  a9 := Tryz.isAgg9
  z9 := Tryz.sizeOf9
  v9 := Tryz.zeroValue9
  t22 := Tryz.underlying141
  a22 := Tryz.isAgg141
  z22 := Tryz.sizeOf141
  v22 := Tryz.zeroValue141
  t25 := Tryz.underlying148
  a25 := Tryz.isAgg148
  z25 := Tryz.sizeOf148
  v25 := Tryz.zeroValue148
  t39 := Tryz.underlying213
  a39 := Tryz.isAgg213
  z39 := Tryz.sizeOf213
  v39 := Tryz.zeroValue213
  t45 := Tryz.underlying265
  a45 := Tryz.isAgg265
  z45 := Tryz.sizeOf265
  v45 := Tryz.zeroValue265
  t46 := Tryz.underlying266
  a46 := Tryz.isAgg266
  z46 := Tryz.sizeOf266
  v46 := Tryz.zeroValue266
  t50 := Tryz.underlying217
  a50 := Tryz.isAgg217
  z50 := Tryz.sizeOf217
  v50 := Tryz.zeroValue217
  t53 := Tryz.underlying272
  a53 := Tryz.isAgg272
  z53 := Tryz.sizeOf272
  v53 := Tryz.zeroValue272
  t55 := Tryz.underlying274
  a55 := Tryz.isAgg274
  z55 := Tryz.sizeOf274
  v55 := Tryz.zeroValue274
  t66 := Tryz.underlying296
  a66 := Tryz.isAgg296
  z66 := Tryz.sizeOf296
  v66 := Tryz.zeroValue296
  t70 := Tryz.underlying300
  a70 := Tryz.isAgg300
  z70 := Tryz.sizeOf300
  v70 := Tryz.zeroValue300
  t76 := Tryz.underlying310
  a76 := Tryz.isAgg310
  z76 := Tryz.sizeOf310
  v76 := Tryz.zeroValue310
  t77 := Tryz.underlying58
  a77 := Tryz.isAgg58
  z77 := Tryz.sizeOf58
  v77 := Tryz.zeroValue58 }
end Go.Proofs.YtbnobjlphmkgeaaGreatDoor
/- The contracts of heap.Move and of package move's Step. -/
namespace Go.Proofs.YtbnobjlphmkgeaaGreatDoor
open Go.RowKit Go.Sort Go.Shelf Go.Lib

theorem HpM.rowB {w0 w w' : World} {F F' : Nat → Prop} {h : Nat} {l' : Bytes} (hm : HpM w0 w w' F F' h l') {g cap : Nat} {b : Bytes} (hr : Row w 5 g cap b) (hn : ¬ F g) : Row w' 5 g cap b ∧ ¬ F' g :=
  ⟨hr.block (hm.kp.block _ hr.lt hn), fun hk => by rcases hm.nw _ hk with h | h; exact hn h; have := hr.lt; omega⟩
/-- the closure of Step -/
theorem closeM (x y : Ent) (W : World) : Calls Tryz.prog 89 #[.agg #[.int .i64 x.1, .int .i64 (rAt x.2), .int .i64 (rLen x.2), .int .i64 (rTag x.2)], .agg #[.int .i64 y.1, .int .i64 (rAt y.2), .int .i64 (rLen y.2), .int .i64 (rTag y.2)]] W fun e w' => e = .returned (.int .i64 (cmpM x y)) ∧ ∃ q os', w' = grow (W.drewN q) os' := by
  have hcon := fun W' => compare_any (rAt x.2 : Int) (rAt y.2 : Int) W'
  have HC := Hidden.mk hcon
  have HX : Hidden (cmpM x y = Lib.compareInt (rAt x.2 : Int) (rAt y.2 : Int)) := ⟨rfl⟩
  clear hcon
  rw [HX.out]
  generalize Lib.compareInt (rAt x.2 : Int) (rAt y.2 : Int) = r at *
  generalize (rAt x.2 : Int) = xa at *
  generalize (rLen x.2 : Int) = xl at *
  generalize (rTag x.2) = xt at *
  generalize (rAt y.2 : Int) = ya at *
  generalize (rLen y.2 : Int) = yl at *
  generalize (rTag y.2) = yt at *
  go_enter Tryz.func89, Tryz.ntmps89
  go_wp2_with (go_at_call 90; refine (HC.out _).mono ?_; rintro e w' ⟨rfl, rfl⟩)
  go_ret
  exact ⟨rfl, 0, _, by rw [alloc_eq_grow, alloc_eq_grow, grow_grow]; rfl⟩
theorem sortN_any (w : World) (base n : Nat) (v : Value) (L : List Ent) (hn : L.length = n) (hl : n ≤ 1000) (hown : w.ownsRow base 66 4 v n (L.flatMap ecells)) :
    Calls Tryz.prog 88 #[v, .func (.func 89) #[] #[]] w fun e w' => e = .returned (.tuple #[]) ∧ w'.ownsRow base 66 4 v n ((pdqL cmpM L).flatMap ecells) ∧ w.grownBy w' v.ownBlock := by
  rcases hown.2 with ⟨rfl, h0⟩ | ⟨g, cap, cur, rfl, hb, hh, _⟩
  · have hL : L = [] := List.eq_nil_of_length_eq_zero (by omega)
    subst hL h0
    have hs : pdqL cmpM [] = [] := List.Perm.eq_nil (pdqL_perm cmpM swoM []).1
    have hc := AnyF.slices_SortFunc_none layE none 0 (.func (.func 89) #[] #[]) w
    change Calls Tryz.prog 88 _ _ _ at hc
    refine hc.mono ?_
    rintro e w' ⟨rfl, rfl⟩
    exact ⟨rfl, by rw [hs]; exact hown, World.grownBy.refl _ _⟩
  · have eg : ∀ args w, (callFunc 89 args).run Tryz.prog w = .ok (.enter 89 args) w := enters_of Tryz.func89 (by kernel_rfl) rfl
    have hcon := AnyQ.slices_SortFunc_eq layE 4 Tryz.isAgg66 Tryz.sizeOf66 ecells (fun _ => rfl) (fun x v hv => by simp [ecells] at hv; rcases hv with rfl | rfl | rfl | rfl <;> rfl) cmpM swoM 89 #[] g 0 cap L.toArray w eg
      (fun _ _ _ _ x y => closeM x y _) (holdsK_own (k := 4) (enc := ecells) (fun _ => rfl) (by decide) hown) (Array.getElem?_eq_some_iff.1 hh).1 (by simp only [List.size_toArray]; omega)
    change Calls Tryz.prog 88 _ _ _ at hcon
    have hsz : L.toArray.size = n := by simpa using hn
    rw [hsz] at hcon
    refine hcon.mono ?_
    rintro e w' ⟨rfl, m, os, rfl⟩
    have hds : (pdq (ltOf cmpM) L.toArray 0 n (Lib.bitLen n) true true).size = n := by
      have := (pdqL_perm cmpM swoM L).1.length_eq
      unfold pdqL at this
      rw [Array.length_toList, hn] at this
      exact this
    have h2 := own_sortedK (k := 4) (m := m) (os := os) (enc := ecells) (fun _ => rfl) (by decide) hds hown
    refine ⟨rfl, ?_, h2.2⟩
    have he : pdqL cmpM L = (pdq (ltOf cmpM) L.toArray 0 n (Lib.bitLen n) true true).toList := by unfold pdqL; rw [hn]
    rw [he]
    exact h2.1
section
variable {w0 w : World} {F : Nat → Prop} {h : Nat} {l : Bytes}
set_option maxRecDepth 100000 in
theorem hmove_ok (k a : Nat) (hp : Hp w0 w F h l) (hg : Good l) (hk : k < 40) (hh : hasE (rawE l k) = true) (ha : 288 ≤ a) (ha1 : a < rAt (rawE l k)) :
    Calls Tryz.prog 91 #[.pointer (some ⟨h, 0, none⟩), .agg #[.int .i64 ((k : Int) + 1), .int .i64 (rAt (rawE l k)), .int .i64 (rLen (rawE l k)), .int .i64 (rTag (rawE l k))], .int .i64 (a : Int)] w fun e w' => e = .returned .nilIface ∧ ∃ F', HpM w0 w w' F F' h (moveL l k a) := by
  have hb := hg.bd
  have hs := strayE_false (hg.s.fit k hk hh)
  obtain ⟨g, cap, c0, -, hcap, -, hrow, hF⟩ := hp.head
  have hbl : ((l.drop (rAt (rawE l k))).take (rLen (rawE l k))).length = rLen (rawE l k) := by simp; omega
  have hcut := hrow.rd.cut (rAt (rawE l k)) (rLen (rawE l k)) (by omega)
  rw [Option.map_some, Addr.add_lit, Nat.zero_add] at hcut
  have hPT : putEnt l ((k : Int) + 1) (a : Int) (rLen (rawE l k)) (rTag (rawE l k)) = splice l (5 * k) (entB a (rLen (rawE l k)) (rTag (rawE l k)).toNat) := by unfold putEnt; rw [entO_k]; rfl
  have hpl : (putEnt l ((k : Int) + 1) (a : Int) (rLen (rawE l k)) (rTag (rawE l k))).length = l.length := putEnt_len l _ _ _ _ (by omega) (by omega) (by omega)
  have hML : moveL l k a = splice (putEnt l ((k : Int) + 1) (a : Int) (rLen (rawE l k)) (rTag (rawE l k))) a ((l.drop (rAt (rawE l k))).take (rLen (rawE l k))) := by rw [hPT]; rfl
  have HPUT := Hidden.mk (fun (W : World) (hW : Hp w0 W F h l) => hput_ok ((k : Int) + 1) (a : Int) (rLen (rawE l k)) (rTag (rawE l k)) hW (handleB_true.2 (by omega)) (tagB_true.2 (by omega)) (lenB_true.2 (by omega)) (withinB_true.2 (by omega)))
  rw [hML]
  have HPL := Hidden.mk hpl
  have HP := Hidden.mk hp
  have HBD : Hidden (a + rLen (rawE l k) ≤ l.length ∧ rAt (rawE l k) + rLen (rawE l k) ≤ l.length ∧ l.length ≤ 6400 ∧ 1 ≤ rLen (rawE l k)) := ⟨by omega⟩
  generalize putEnt l ((k : Int) + 1) (a : Int) (rLen (rawE l k)) (rTag (rawE l k)) = l1 at *
  generalize rTag (rawE l k) = tg at *
  generalize rLen (rawE l k) = m at *
  generalize rAt (rawE l k) = ea at *
  generalize (l.drop ea).take m = body at *
  generalize (k : Int) + 1 = x at *
  have HBL := Hidden.mk hbl
  have HCUT := Hidden.mk hcut
  have hal := (Below.refl w.heap.size w).alloc (Nat.le_refl _) (.cells #[.int .i64 x, .int .i64 (ea : Int), .int .i64 (m : Int), .int .i64 tg] 66)
  have hf := fourAt_one w x (ea : Int) (m : Int) tg 66
  have hbk := heap_alloc_new w (.cells #[.int .i64 x, .int .i64 (ea : Int), .int .i64 (m : Int), .int .i64 tg] 66)
  have HOF := Hidden.mk (hof_any (h := h) g cap ea m x tg (w.alloc (.cells #[.int .i64 x, .int .i64 (ea : Int), .int .i64 (m : Int), .int .i64 tg] 66)) ⟨_, (hal.cell (p := ⟨h, 0, none⟩) (block_lt_of_cell c0)).trans c0⟩ (by omega) (by omega) (by omega))
  have HAL := Hidden.mk hal
  have HF4 := Hidden.mk hf
  have HBK := Hidden.mk hbk
  obtain ⟨f0, f1, f2, f3⟩ := hf
  have hcw := hrow.le.2
  clear hp hg hb hs hh ha ha1 hrow hbl hcut hPT hpl hML hal hbk c0 hk
  go_enter Tryz.func91, Tryz.ntmps91
  go_wp2_with fail
  generalize w.alloc (.cells #[.int .i64 x, .int .i64 (ea : Int), .int .i64 (m : Int), .int .i64 tg] 66) = w1 at *
  refine HOF.out.mono ?_
  rintro e w2 ⟨rfl, hb2⟩
  have HB2 := Hidden.mk (HAL.out.trans (hb2.mono HAL.out.size))
  have HK2 := Hidden.mk ((hb2.block _ (block_lt_of_cell f0)).trans HBK.out)
  have HCL := Hidden.mk (clone_some ⟨g, ea, none⟩ m (cap - ea) body w2 HBL.out (by have := HBD.out; omega) (HCUT.out.below HB2.out))
  clear hb2 HOF f0 f1 f2 f3 HAL HF4 HBK
  go_wp2_with fail
  refine HCL.out.mono ?_
  rintro e w3 ⟨gB, cB, rfl, hgB, hrowB, hb3⟩
  have HB3 := Hidden.mk (HB2.out.trans (hb3.mono HB2.out.size))
  have hlt2 : w.heap.size < w2.heap.size := (Array.getElem?_eq_some_iff.1 HK2.out).1
  have hk3 := (hb3.block _ hlt2).trans HK2.out
  have hfz : w3.frozen? ⟨w.heap.size, 1, none⟩ = false := frozen_of_row _ _ 1 _ _ hk3
  have f0 : w3.cell? ⟨w.heap.size, 0, none⟩ = some (.int .i64 x) := by simp [World.cell?, hk3]
  have f1 : w3.cell? ⟨w.heap.size, 1, none⟩ = some (.int .i64 (ea : Int)) := by simp [World.cell?, hk3]
  have hk4 := heap_setK (k := 1) hk3 (.int .i64 (a : Int))
  have hrB4 := hrowB.block (Below.heap_setCell w3 ⟨w.heap.size, 1, none⟩ (.int .i64 (a : Int)) _ (show gB ≠ w.heap.size by omega))
  have HB4 := Hidden.mk (HB3.out.setCell (p := ⟨w.heap.size, 1, none⟩) (Nat.le_refl _) (.int .i64 (a : Int)))
  have hn4 : ¬ F gB := fun hk => by have := HP.out.flt _ hk; have := HB2.out.size; omega
  clear hlt2 hb3 HCL HK2 HCUT hgB hrowB
  have HP4 := Hidden.mk (HP.out.below HB4.out)
  have HRB := Hidden.mk hrB4
  have HN4 := Hidden.mk hn4
  clear hrB4 hn4
  go_upto_region 3 with (fail)
  generalize w3.setCell ⟨w.heap.size, 1, none⟩ (.int .i64 (a : Int)) = w4 at *
  have g0 : w4.cell? ⟨w.heap.size, 0, none⟩ = some (.int .i64 x) := by simp [World.cell?, hk4]
  have g1 : w4.cell? ⟨w.heap.size, 1, none⟩ = some (.int .i64 (a : Int)) := by simp [World.cell?, hk4]
  have g2 : w4.cell? ⟨w.heap.size, 2, none⟩ = some (.int .i64 (m : Int)) := by simp [World.cell?, hk4]
  have g3 : w4.cell? ⟨w.heap.size, 3, none⟩ = some (.int .i64 tg) := by simp [World.cell?, hk4]
  have HK4 := Hidden.mk hk4
  clear hk3 hfz f0 f1 hk4
  go_wp2_with fail
  refine (HPUT.out _ HP4.out).mono ?_
  rintro e w5 ⟨rfl, F5, hm5⟩
  have hno : ¬ F w.heap.size := fun hk => by have := HP.out.flt _ hk; omega
  have hk5 := (hm5.kp.block _ (Array.getElem?_eq_some_iff.1 HK4.out).1 hno).trans HK4.out
  have j0 : w5.cell? ⟨w.heap.size, 0, none⟩ = some (.int .i64 x) := by simp [World.cell?, hk5]
  have j1 : w5.cell? ⟨w.heap.size, 1, none⟩ = some (.int .i64 (a : Int)) := by simp [World.cell?, hk5]
  have j2 : w5.cell? ⟨w.heap.size, 2, none⟩ = some (.int .i64 (m : Int)) := by simp [World.cell?, hk5]
  have j3 : w5.cell? ⟨w.heap.size, 3, none⟩ = some (.int .i64 tg) := by simp [World.cell?, hk5]
  have HRB5 := Hidden.mk (hm5.rowB HRB.out HN4.out).1
  obtain ⟨gi, ci, cur5, y0, -, -, hci, -, -, -, -⟩ := hm5.hp.rowW
  rw [HPL.out] at y0 hci
  have HOF := Hidden.mk (hof_any (h := h) gi ci a m x tg w5 ⟨_, y0⟩ (by have := HBD.out; omega) (by have := HBD.out; omega) (by have := HBD.out; omega))
  have HM := Hidden.mk ((HP.out.same HB4.out).trans hm5)
  have HY0 := Hidden.mk y0
  clear g0 g1 g2 g3 hno hk5 hm5 y0 HPUT HK4 HRB HN4 HP4
  go_wp2_with fail
  refine HOF.out.mono ?_
  rintro e w6 ⟨rfl, hb6⟩
  have hm6 := HM.out.trans (HM.out.hp.same hb6)
  obtain ⟨g6, c6, cur6, z0, z1, z2, z3, -, -, -, z4⟩ := hm6.hp.rowW
  have hyz := ((hb6.cell (p := ⟨h, 0, none⟩) (block_lt_of_cell HY0.out)).trans HY0.out).symm.trans z0
  have hyz := Option.some.inj hyz
  injection hyz with q1 q2 q3
  injection q1 with q1
  injection q1 with q1
  subst q1 q3
  rw [HPL.out] at z3
  have hrb6 := HRB5.out.below hb6 HRB5.out.lt
  have hcp := fun ty => run_copy_rd w6 gi a m (ci - a) m cB m (some ⟨gB, 0, none⟩) body cur6 _ z1 HBL.out hrb6.rd (by simp) (by have := HBD.out; omega) ty
  have HFIN : Hidden (HpM w0 w (w6.setRow gi (setB cur6 a ((body.take m).map bv))) F F5 h (splice l1 a body)) := ⟨by
    have hbt : body.take m = body := List.take_of_length_le (by rw [HBL.out]; exact Nat.le_refl _)
    rw [hbt]
    have := z4 a body (by rw [HPL.out, HBL.out]; have := HBD.out; omega)
    exact hm6.trans ⟨this.1, this.2, fun k hk => .inl hk⟩⟩
  clear z0 z1 z2 z3 z4 hm6 hb6 HOF HM HY0 q2 hrb6 HRB5 j0 j1 j2 j3
  go_wp2_with fail
  go_ret
  exact ⟨rfl, F5, by have hF := HFIN.out; rw [List.map_take] at hF; exact hF⟩
end
end Go.Proofs.YtbnobjlphmkgeaaGreatDoor
/- Package move: Step, All, Gain; stat.Heap. -/
namespace Go.Proofs.YtbnobjlphmkgeaaGreatDoor
open Go.RowKit Go.Sort Go.Shelf Go.Lib

/-- is there a step; the image behind it -/
def stepB (l : Bytes) : Bool := (gapM 288 (sortM l)).isSome
def stepL (l : Bytes) : Bytes := match gapM 288 (sortM l) with
  | some (e, a) => moveL l (e.1 - 1).toNat a
  | none => l
theorem stepL_some {l : Bytes} {e : Ent} {a : Nat} (h : gapM 288 (sortM l) = some (e, a)) : stepL l = moveL l (e.1 - 1).toNat a := by unfold stepL; rw [h]
theorem stepL_none {l : Bytes} (h : gapM 288 (sortM l) = none) : stepL l = l := by unfold stepL; rw [h]
theorem gapM_ge : ∀ {S : List Ent} {b n : Nat} {e : Ent} {a : Nat}, TidyM b S n → gapM b S = some (e, a) → b ≤ a ∧ a < rAt e.2 ∧ e ∈ S
  | [], _, _, _, _, _, h => by cases h
  | x :: r, b, n, e, a, ⟨t1, t2, t3⟩, h => by
    unfold gapM at h
    by_cases hc : b < rAt x.2
    · rw [if_pos hc] at h
      have h' := Option.some.inj h
      injection h' with h3 h4
      subst h3 h4
      exact ⟨Nat.le_refl _, hc, List.mem_cons_self ..⟩
    · rw [if_neg hc] at h
      obtain ⟨g1, g2, g3⟩ := gapM_ge t3 h
      exact ⟨by omega, g2, List.mem_cons_of_mem _ g3⟩
section
variable {w0 w : World} {F : Nat → Prop} {h : Nat} {l : Bytes}
set_option maxRecDepth 100000 in
theorem mstep_any (hp : Hp w0 w F h l) (hg : Good l) :
    Calls Tryz.prog 23 #[.pointer (some ⟨h, 0, none⟩)] w fun e w' => e = .returned (.tuple #[.bool (stepB l), .nilIface]) ∧ ∃ F', HpM w0 w w' F F' h (stepL l) := by
  have hl40 : (entriesL l).length ≤ 40 := entsL_len _ _ 40
  have HC := Hidden.mk (hentries_any hp)
  have HP := Hidden.mk hp
  have htd := tidy_sortM hg
  have HSLN : Hidden ((sortM l).length = (entriesL l).length) := ⟨(sortM_perm l).length_eq⟩
  have HSB : Hidden (∀ e ∈ sortM l, rAt e.2 ≤ 6400 ∧ rLen e.2 ≤ 6400) := ⟨fun e he => by have := tidyM_mem htd e he; have := hg.bd; omega⟩
  have HSORT : Hidden (∀ W v, W.ownsRow w.heap.size 66 4 v (entriesL l).length ((entriesL l).flatMap ecells) → Calls Tryz.prog 88 #[v, .func (.func 89) #[] #[]] W fun e w' => e = .returned (.tuple #[]) ∧ w'.ownsRow w.heap.size 66 4 v (entriesL l).length ((sortM l).flatMap ecells) ∧ W.grownBy w' v.ownBlock) := ⟨fun W v hown => sortN_any W w.heap.size _ v (entriesL l) rfl (by omega) hown⟩
  have HMV : Hidden (∀ (W : World) (e : Ent) (a : Nat), Hp w0 W F h l → gapM 288 (sortM l) = some (e, a) → Calls Tryz.prog 91 #[.pointer (some ⟨h, 0, none⟩), .agg #[.int .i64 e.1, .int .i64 (rAt e.2), .int .i64 (rLen e.2), .int .i64 (rTag e.2)], .int .i64 (a : Int)] W fun e w' => e = .returned .nilIface ∧ ∃ F', HpM w0 W w' F F' h (stepL l)) := ⟨fun W e a hW hgap => by
    obtain ⟨g1, g2, g3⟩ := gapM_ge htd hgap
    obtain ⟨k, hk, hh, rfl⟩ := entL_mem.1 ((sortM_perm l).mem_iff.1 g3)
    rw [stepL_some hgap, show ((((k : Int) + 1, rawE l k) : Ent).1 - 1).toNat = k by dsimp only; omega]
    exact hmove_ok k a hW hg hk hh g1 g2⟩
  have HNO : Hidden (gapM 288 (sortM l) = none → stepL l = l) := ⟨stepL_none⟩
  have HB : Hidden (stepB l = (gapM 288 (sortM l)).isSome) := ⟨rfl⟩
  generalize stepL l = l' at *
  generalize stepB l = sb at *
  generalize sortM l = T at *
  generalize entriesL l = E at *
  generalize hm : E.length = m at *
  have HM := Hidden.mk hm
  clear hp hg htd hm
  go_enter Tryz.func23, Tryz.ntmps23
  go_wp2_with fail
  refine HC.out.mono ?_
  rintro e w1 ⟨v1, rfl, hown1, hb1⟩
  have HO1 := Hidden.mk (And.intro hown1 hb1)
  clear hown1 hb1 HC
  go_wp2_with fail
  refine (HSORT.out _ _ HO1.out.1).mono ?_
  rintro e w2 ⟨rfl, hown2, hg2⟩
  have hb2 : Below w.heap.size w w2 := HO1.out.2.grown hg2 HO1.out.2.size (fun q hq => (HO1.out.1.lt q hq).1)
  obtain ⟨A2, c2, rfl, hc2, -⟩ := own_split hown2
  have HRX := Hidden.mk (own_rdX3 (f := ecells) (fun _ => rfl) HSLN.out hown2)
  have HB2 := Hidden.mk hb2
  clear hown2 hb2 hg2 HO1 HSORT
  go_wp2_with fail
  go_loopg [5, 14] m (fun q av i wr => ∃ (k a : Nat), k ≤ m ∧ q = m - k ∧ i = .int .i64 (k : Int) ∧ av = .int .i64 (a : Int) ∧ a ≤ 12800 ∧ Hidden (gapM 288 T = gapM a (T.drop k) ∧ Below w2.heap.size w2 wr))
  case atStart => exact ⟨0, 288, by omega, rfl, rfl, rfl, by omega, ⟨by rw [List.drop_zero], Below.refl _ _⟩⟩
  case round =>
    obtain ⟨k, a, hk, rfl, rfl, rfl, ha, hst⟩ := hrel
    by_cases hlt : k < m
    · have hkT : k < T.length := by rw [HSLN.out]; exact hlt
      obtain ⟨pp, oo, rfl, hcx⟩ := (HRX.out.below hst.out.2) k hkT
      have x0 := hcx 0 _ rfl
      have x1 := hcx 1 _ rfl
      have x2 := hcx 2 _ rfl
      have x3 := hcx 3 _ rfl
      rw [Nat.add_zero] at x0
      have HG : Hidden (gapM 288 T = if a < rAt T[k].2 then some (T[k], a) else gapM (rAt T[k].2 + rLen T[k].2) (T.drop (k + 1))) := ⟨by rw [hst.out.1, List.drop_eq_getElem_cons hkT]; rfl⟩
      have hbd := HSB.out T[k] (List.getElem_mem hkT)
      have HMVK : Hidden (∀ W : World, Hp w0 W F h l → gapM 288 T = some (T[k], a) → Calls Tryz.prog 91 #[.pointer (some ⟨h, 0, none⟩), .agg #[.int .i64 T[k].1, .int .i64 (rAt T[k].2), .int .i64 (rLen T[k].2), .int .i64 (rTag T[k].2)], .int .i64 (a : Int)] W fun e w' => e = .returned .nilIface ∧ ∃ F', HpM w0 W w' F F' h l') := ⟨fun W hW hgap => HMV.out W _ a hW hgap⟩
      generalize T[k] = e at *
      have HSM : Hidden (gapM 288 T = some (e, a) → sb = true) := ⟨fun hh => by rw [HB.out, hh]; rfl⟩
      generalize some (e, a) = se at *
      generalize e.1 = e0 at *
      generalize rAt e.2 = e1 at *
      generalize rLen e.2 = e2 at *
      generalize rTag e.2 = e3 at *
      have i0 : (0 : Int) ≤ k := by omega
      have i1 : (k : Int) < m := by omega
      have s1 : IntKind.i64.wrap ((e1 : Int) + e2) = (e1 : Int) + e2 := IntWalk.i64_in _ (by omega)
      have s3 : IntKind.i64.wrap ((k : Int) + 1) = (k : Int) + 1 := IntWalk.i64_in _ (by omega)
      have hal : Below wr.heap.size wr (wr.alloc (.cells #[.int .i64 e0, .int .i64 e1, .int .i64 e2, .int .i64 e3] 66)) := (Below.refl _ _).alloc (Nat.le_refl _) _
      have HN := Hidden.mk (hst.out.2.trans (hal.mono hst.out.2.size))
      clear hcx hal hst
      by_cases hc : a < e1
      · have d1 : decide ((a : Int) < e1) = true := by simp; omega
        have d1' : decide (a < e1) = true := by simpa using hc
        have hgs : gapM 288 T = se := by rw [HG.out, if_pos hc]
        have hsb := HSM.out hgs
        subst hsb
        have hbw := HB2.out.trans (HN.out.mono HB2.out.size)
        have HCM := Hidden.mk (HMVK.out _ (HP.out.below hbw) hgs)
        have HBW := Hidden.mk (HP.out.same hbw)
        clear hgs hbw HSM HMVK HG hc
        go_wp2_with fail
        refine HCM.out.mono ?_
        rintro e w9 ⟨rfl, F', hm9⟩
        have HF := Hidden.mk (HBW.out.trans hm9)
        clear hm9 HCM
        go_wp2_with fail
        go_ret2
        exact ⟨rfl, F', HF.out⟩
      · have d1 : decide ((a : Int) < e1) = false := by simp; omega
        have d1' : decide (a < e1) = false := by simpa using hc
        have hgs : Hidden (gapM 288 T = gapM (e1 + e2) (T.drop (k + 1))) := ⟨by rw [HG.out, if_neg hc]⟩
        clear HSM HMVK HG hc
        go_wp2_with fail
        go_roundg (m - (k + 1))
        case measure => omega
        case rel => exact ⟨k + 1, e1 + e2, by omega, rfl, by go_num, by go_num, by omega, ⟨hgs.out, HN.out⟩⟩
    · obtain rfl : k = m := by omega
      have hgn : gapM 288 T = none := by rw [hst.out.1, List.drop_eq_nil_of_le (by rw [HSLN.out]; exact Nat.le_refl _)]; rfl
      have hsb : sb = false := by rw [HB.out, hgn]; rfl
      have hll := HNO.out hgn
      subst hsb hll
      have HF := Hidden.mk (HP.out.same (HB2.out.trans (hst.out.2.mono HB2.out.size)))
      clear hst hgn
      go_wp2_with fail
      go_ret2
      exact ⟨rfl, F, HF.out⟩
end
end Go.Proofs.YtbnobjlphmkgeaaGreatDoor
/- Package move: All, Gain; stat.Heap. -/
namespace Go.Proofs.YtbnobjlphmkgeaaGreatDoor
open Go.RowKit

/-- what moving leaves as it was -/
structure MovedR (l l' : Bytes) : Prop where
  good : Good l'
  len : l'.length = l.length
  obj : ∀ j, j < 40 → objT l' j = objT l j ∧ objS l' j = objS l j
  roots : rootsL l' = rootsL l
  rots : ∀ i, i < 8 → rawR l' i = rawR l i
  many : (takenL l').length = (takenL l).length
  sum : sumX (takenL l') = sumX (takenL l)
  has : ∀ j, j < 40 → hasE (rawE l' j) = hasE (rawE l j)
theorem MovedR.refl {l : Bytes} (hg : Good l) : MovedR l l := ⟨hg, rfl, fun _ _ => ⟨rfl, rfl⟩, rfl, fun _ _ => rfl, rfl, rfl, fun _ _ => rfl⟩
theorem MovedR.trans {l l' l'' : Bytes} (a : MovedR l l') (b : MovedR l' l'') : MovedR l l'' :=
  ⟨b.good, b.len.trans a.len, fun j hj => ⟨(b.obj j hj).1.trans (a.obj j hj).1, (b.obj j hj).2.trans (a.obj j hj).2⟩, b.roots.trans a.roots, fun i hi => (b.rots i hi).trans (a.rots i hi), b.many.trans a.many, b.sum.trans a.sum, fun j hj => (b.has j hj).trans (a.has j hj)⟩
theorem MoveIs.moved {l l' : Bytes} {k a : Nat} (h : MoveIs l l' k a) (hg : Good l) : MovedR l l' := by
  obtain ⟨t1, t2⟩ := h.taken hg
  refine ⟨h.good hg, h.len, fun j hj => h.keep hg hj, h.roots, h.rots, t1, t2, fun j hj => ?_⟩
  by_cases e : j = k
  · rw [e, (h.ent hg).1, h.has]
  · rw [h.ents j hj, if_neg e]
theorem step_moved {l : Bytes} (hg : Good l) : MovedR l (stepL l) ∧ (stepB l = true → packM 288 (sortM (stepL l)) < packM 288 (sortM l)) ∧ (stepB l = false → stepL l = l ∧ gapM 288 (sortM l) = none) := by
  cases hgap : gapM 288 (sortM l) with
  | none => exact ⟨by rw [stepL_none hgap]; exact MovedR.refl hg, fun h => (by unfold stepB at h; rw [hgap] at h; cases h), fun _ => ⟨stepL_none hgap, rfl⟩⟩
  | some p =>
    obtain ⟨e, a⟩ := p
    obtain ⟨k, he, hM, hp⟩ := step_is hg hgap
    have hk : (e.1 - 1).toNat = k := by rw [he]; dsimp only; omega
    have hs := stepL_some hgap
    rw [hk] at hs
    exact ⟨by rw [hs]; exact hM.moved hg, fun _ => (by rw [hs]; exact hp), fun h => (by unfold stepB at h; rw [hgap] at h; cases h)⟩
section
variable {w0 w : World} {F : Nat → Prop} {h : Nat} {l : Bytes}
end
end Go.Proofs.YtbnobjlphmkgeaaGreatDoor
/- UndoBack: the plain law: how many bytes differ, and what an op makes of an image. -/
namespace Go.Proofs.YtbnobjlphmkgeaaGreatDoor
open Go.RowKit

/-- an image that came of another by one op -/
structure StepR (l l' : Bytes) : Prop where
  good : Good l'
  len : l'.length = l.length
theorem stepR_alloc {l : Bytes} (hg : Good l) (n t : Int) : StepR l (allocL l n t) := by
  refine ⟨alloc_good hg _ _, ?_⟩
  by_cases h0 : allocE l n t = 0
  · obtain ⟨k, a, n', t', _, _, _, _, h⟩ := alloc_is hg h0
    exact h.len
  · have : allocL l n t = l := by unfold allocL; rw [if_neg h0]
    rw [this]
theorem stepR_free {l : Bytes} (hg : Good l) (x : Int) : StepR l (freeL l x) := by
  refine ⟨free_good hg _, ?_⟩
  by_cases h0 : freeE l x = 0
  · obtain ⟨k, _, h⟩ := free_is hg h0
    exact h.len
  · have : freeL l x = l := by unfold freeL; rw [if_neg h0]
    rw [this]
theorem stepR_write {l : Bytes} (hg : Good l) (x c : Int) (b : Bytes) : StepR l (writeL l x c b) := by
  refine ⟨write_good hg x c b, ?_⟩
  by_cases h : someE l x c b.length = 0
  · obtain ⟨k, o, _, _, hw⟩ := write_is hg h
    exact hw.len
  · have : writeL l x c b = l := by unfold writeL; rw [if_neg h]
    rw [this]
theorem stepR_set {l : Bytes} (hg : Good l) (s : Bytes) (x : Int) : StepR l (setL l s x) := by
  by_cases h : setE l s x = 0
  · have hs := setE_is hg h
    obtain ⟨i, hp⟩ := hs.puts
    exact ⟨hs.good, hp.len hg.bd.1⟩
  · have : setL l s x = l := by unfold setL; rw [if_neg h]
    rw [this]; exact ⟨hg, rfl⟩
theorem stepR_unset {l : Bytes} (hg : Good l) (s : Bytes) : StepR l (unL l s) := by
  refine ⟨unL_good hg, ?_⟩
  unfold unL
  split
  · rename_i h
    obtain ⟨p1, -⟩ := placeF_spec l s 8 (Nat.le_refl _)
    have hb := hg.bd
    rw [splice_len _ _ _ (by
      rw [List.length_replicate]
      rcases p1 with ⟨p1, -⟩ | ⟨i, h1, h2, h3, -⟩
      · exfalso
        unfold unE at h
        split at h
        · omega
        · rw [if_pos (by rw [p1]; decide)] at h; omega
      · rw [h3, Int.toNat_natCast]; omega)]
  · rfl
theorem stepR_moved {l l' : Bytes} (h : MovedR l l') : StepR l l' := ⟨h.good, h.len⟩
theorem StepR.refl {l : Bytes} (hg : Good l) : StepR l l := ⟨hg, rfl⟩
theorem StepR.trans {l l' l'' : Bytes} (a : StepR l l') (b : StepR l' l'') : StepR l l'' := ⟨b.good, b.len.trans a.len⟩
end Go.Proofs.YtbnobjlphmkgeaaGreatDoor
/- What comes in: slices of ops. -/
namespace Go.Proofs.YtbnobjlphmkgeaaGreatDoor
open Go.RowKit Go.ChangeShapes Go.WideShapes Go.ChangeAt

/-- an op: what, handle, at, len, name, body -/
structure OpX where
  what : Int
  handle : Int
  at_ : Int
  len : Int
  name : Bytes
  A : Option Addr
  cap : Nat
  body : Bytes
  deriving Inhabited
def ocells (x : OpX) : List Value := [.int .i64 x.what, .int .i64 x.handle, .int .i64 x.at_, .int .i64 x.len, sv x.name, .slice x.A x.body.length x.cap]
structure OpOk (w : World) (x : OpX) : Prop where
  what : -9223372036854775808 ≤ x.what ∧ x.what ≤ 9223372036854775807
  handle : -9223372036854775808 ≤ x.handle ∧ x.handle ≤ 9223372036854775807
  at_ : -9223372036854775808 ≤ x.at_ ∧ x.at_ ≤ 9223372036854775807
  len : -9223372036854775808 ≤ x.len ∧ x.len ≤ 9223372036854775807
  name : x.name.length ≤ 140737488351232
  cap : x.body.length ≤ x.cap
  le : x.cap ≤ 140737488351232
  rd : Rd w x.A x.body
theorem OpOk.below {w w' : World} {x : OpX} (h : OpOk w x) (hb : Below w.heap.size w w') : OpOk w' x := ⟨h.what, h.handle, h.at_, h.len, h.name, h.cap, h.le, h.rd.below hb⟩
section
variable {H : Type} {enc : TypeId × Value → H} {w : World} {v : Value} {d : DataW H} {ps : List MemPlace} {base : Nat} {r : Reach}
set_option maxRecDepth 20000 in
theorem open_ops (hv : Value.okWide Tryz.prog w r base 23 v) (h : DataW.Trod enc Tryz.prog w 0 (fun _ => true) true 23 v d ps) (hz : (d.weights Tryz.prog 23).all (· ≤ reachBytes) = true) :
    ∃ (A : Option Addr) (c : Nat) (L : List OpX), v = .slice A L.length c ∧ L.length ≤ c ∧ c ≤ 140737488351232 ∧ (∀ x ∈ L, OpOk w x) ∧ RdX ocells 6 w A L := by
  have hb : decide (1 ≤ Tryz.prog.bytesOf 35) = true := by kernel_rfl
  have hC : Tryz.prog.cellsOf 35 = 6 := by kernel_rfl
  refine open_seq (P := Tryz.prog) ocells 6 OpOk Tryz.underlying23 hC (by omega) (of_decide_eq_true hb) (fun n cs x hl ht hz => ?_) hv h hz
  match cs, hl with
  | [c0, c1, c2, c3, c4, c5], _ =>
    obtain ⟨xs, m, _, hx, _, hlen, hg⟩ := DataW.trod_struct Tryz.underlying35 ht
    match xs, hlen with
    | [y0, y1, y2, y3, y4, y5], _ =>
      have k0 : Tryz.prog.cellsOf 3 = 1 := by kernel_rfl
      have k1 : Tryz.prog.cellsOf 9 = 1 := by kernel_rfl
      have k2 : Tryz.prog.cellsOf 22 = 1 := by kernel_rfl
      have t0 : DataW.trod enc Tryz.prog w 0 (fun _ => true) true m 3 [c0] = some y0 := by simpa [k0] using hg 0 _ rfl
      have t1 : DataW.trod enc Tryz.prog w 0 (fun _ => true) true m 3 [c1] = some y1 := by simpa [k0] using hg 1 _ rfl
      have t2 : DataW.trod enc Tryz.prog w 0 (fun _ => true) true m 3 [c2] = some y2 := by simpa [k0] using hg 2 _ rfl
      have t3 : DataW.trod enc Tryz.prog w 0 (fun _ => true) true m 3 [c3] = some y3 := by simpa [k0] using hg 3 _ rfl
      have t4 : DataW.trod enc Tryz.prog w 0 (fun _ => true) true m 9 [c4] = some y4 := by simpa [k1] using hg 4 _ rfl
      have t5 : DataW.trod enc Tryz.prog w 0 (fun _ => true) true m 22 [c5] = some y5 := by simpa [k2] using hg 5 _ rfl
      obtain ⟨a0, ha0, -, wa0⟩ := DataW.trod_int Tryz.underlying3 t0
      obtain ⟨a1, ha1, -, wa1⟩ := DataW.trod_int Tryz.underlying3 t1
      obtain ⟨a2, ha2, -, wa2⟩ := DataW.trod_int Tryz.underlying3 t2
      obtain ⟨a3, ha3, -, wa3⟩ := DataW.trod_int Tryz.underlying3 t3
      obtain ⟨s, ha4, hy4, -⟩ := DataW.trod_string Tryz.underlying9 t4
      simp only [List.cons.injEq, and_true] at ha0 ha1 ha2 ha3 ha4
      subst ha0 ha1 ha2 ha3 ha4 hy4
      rw [hx] at hz
      simp only [DataW.weights, Tryz.underlying35, DataW.weightsEach, List.all_append, Bool.and_eq_true, List.map_cons, List.map_nil] at hz
      obtain ⟨-, -, -, -, z4, z5, -⟩ := hz
      obtain ⟨A, c, l, hb', hc, hm, hr⟩ := open_bytes_in Tryz.underlying22 Tryz.underlying5 (by kernel_rfl) (by kernel_rfl) t5 z5
      have h2 := of_decide_eq_true (List.all_eq_true.1 z4 s.data.toList.length (by simp))
      have h3 : reachBytes = 140737488351232 := by decide
      exact ⟨⟨a0, a1, a2, a3, s.data.toList, A, c, l⟩, by rw [hb']; rfl, wf_i64' wa0, wf_i64' wa1, wf_i64' wa2, wf_i64' wa3, by simp only at *; omega, hc, hm, hr⟩
end
end Go.Proofs.YtbnobjlphmkgeaaGreatDoor
/- Package reach: what an object names. -/
namespace Go.Proofs.YtbnobjlphmkgeaaGreatDoor
open Go.RowKit

theorem indexN_any (A : Option Addr) (n c : Nat) (L : List Nat) (x : Nat) (w : World) (hn : L.length = n) (hl : n ≤ 100000) (hr : RdX ncell 1 w A L) :
    Calls Tryz.prog 248 #[.slice A n c, .int .i64 (x : Int)] w fun e w' => ∃ z : Int, e = .returned (.int .i64 z) ∧ decide (0 ≤ z) = decide (x ∈ L) ∧ w = w' := by
  subst hn
  go_enter Tryz.func248, Tryz.ntmps248
  go_wp2_with fail
  go_loopw [8] (fun i wr => w = wr ∧ ∃ k : Nat, k ≤ L.length ∧ i = .int .i64 k ∧ Hidden (x ∉ L.take k)) (fun i _ => L.length - (intOf i).toNat)
  case atStart => exact ⟨rfl, 0, Nat.zero_le _, rfl, ⟨by simp⟩⟩
  case round =>
    obtain ⟨rfl, k, hk, rfl, hnot⟩ := hrel
    by_cases hlt : k < L.length
    · obtain ⟨b, off, rfl, hcx⟩ := hr k hlt
      have c0 : w.cell? ⟨b, off + k, none⟩ = some (.int .i64 (L[k] : Int)) := by simpa using hcx 0 _ rfl
      have i0 : (0 : Int) ≤ k := by omega
      have i1 : (k : Int) < L.length := by omega
      by_cases he : x = L[k]
      · have hi : Hidden (true = decide (x ∈ L)) := ⟨(decide_eq_true (he ▸ List.getElem_mem hlt)).symm⟩
        have d1 : decide ((x : Int) = (L[k] : Int)) = true := decide_eq_true (by omega)
        have d2 : ((x : Int) == (L[k] : Int)) = true := by simp; omega
        have d3 : decide (x = L[k]) = true := decide_eq_true he
        generalize L[k] = y at *
        clear hcx he
        go_wp2_with fail
        go_ret
        exact ⟨_, rfl, by rw [← hi.out]; simp, rfl⟩
      · have hnk : Hidden (x ∉ L.take (k + 1)) := ⟨fun h => by
          rw [List.take_succ_eq_append_getElem hlt] at h
          rcases List.mem_append.1 h with h | h
          · exact hnot.out h
          · simp only [List.mem_singleton] at h; exact he h⟩
        have d1 : decide ((x : Int) = (L[k] : Int)) = false := decide_eq_false (by omega)
        have d2 : ((x : Int) == (L[k] : Int)) = false := by simp; omega
        have d3 : decide (x = L[k]) = false := decide_eq_false he
        generalize L[k] = y at *
        clear hnot hcx he
        go_wp2_with fail
        go_roundw
        case rel => exact ⟨by trivial, k + 1, by omega, by go_num, hnk⟩
        case measure => simp [intOf]; omega
    · have hi : Hidden (false = decide (x ∈ L)) := ⟨by
        have := hnot.out
        rw [List.take_of_length_le (by omega)] at this
        exact (decide_eq_false this).symm⟩
      go_wp2_with fail
      go_ret
      exact ⟨-1, rfl, by rw [← hi.out]; rfl, rfl⟩
theorem containsN_any (A : Option Addr) (n c : Nat) (L : List Nat) (x : Nat) (w : World) (hn : L.length = n) (hl : n ≤ 100000) (hr : RdX ncell 1 w A L) :
    Calls Tryz.prog 227 #[.slice A n c, .int .i64 (x : Int)] w fun e w' => e = .returned (.bool (decide (x ∈ L))) ∧ w = w' := by
  have HC := Hidden.mk (indexN_any A n c L x w hn hl hr)
  go_enter Tryz.func227, Tryz.ntmps227
  go_wp2_with fail
  refine HC.out.mono ?_
  rintro e w1 ⟨z, rfl, hz, rfl⟩
  have HZ := Hidden.mk hz
  clear hz
  go_wp2_with fail
  go_ret
  exact ⟨congrArg (fun b => Ending.returned (.bool b)) HZ.out, rfl⟩
/-- the objects that some bytes name -/
def refB (l : Bytes) (out : List Nat) (c : UInt8) : List Nat := if hE l (c.toNat : Int) = 0 ∧ c.toNat ∉ out then out ++ [c.toNat] else out
def refsB (l b : Bytes) : List Nat := b.foldl (refB l) []
/-- the objects that an object names -/
def refsL (l : Bytes) (x : Int) : List Nat := refsB l (readL l x 0 (min (gL l x) (gT l x)))
theorem refsB_succ (l b : Bytes) (k : Nat) (hk : k < b.length) : refsB l (b.take (k + 1)) = refB l (refsB l (b.take k)) b[k] := by
  unfold refsB; rw [List.take_succ_eq_append_getElem hk, List.foldl_append]; rfl
theorem refsB_len (l b : Bytes) : ∀ k, k ≤ b.length → (refsB l (b.take k)).length ≤ k
  | 0, _ => by simp [refsB]
  | k + 1, hk => by
    rw [refsB_succ l b k hk]
    have := refsB_len l b k (by omega)
    unfold refB
    split
    · simp; omega
    · omega
theorem refsB_mem (l b : Bytes) : ∀ k, k ≤ b.length → ∀ x ∈ refsB l (b.take k), hE l (x : Int) = 0
  | 0, _, x, h => by simp [refsB] at h
  | k + 1, hk, x, h => by
    rw [refsB_succ l b k hk] at h
    unfold refB at h
    split at h
    · rename_i hc
      rcases List.mem_append.1 h with h | h
      · exact refsB_mem l b k (by omega) x h
      · simp only [List.mem_singleton] at h; subst h; exact hc.1
    · exact refsB_mem l b k (by omega) x h
section
variable {w0 w : World} {F : Nat → Prop} {h : Nat} {l : Bytes}
set_option maxRecDepth 100000 in
theorem refs_any (x : Int) (hp : Hp w0 w F h l) (hg : Good l) :
    Calls Tryz.prog 208 #[.pointer (some ⟨h, 0, none⟩), .int .i64 x] w fun e w' => ∃ v, e = .returned v ∧ w'.ownsRow w.heap.size 3 1 v (refsL l x).length ((refsL l x).flatMap ncell) ∧ Below w.heap.size w w' := by
  obtain ⟨i0', hi0, hz0, hz1, hz2⟩ := info_parts int_infoC
  have HI := Hidden.mk (And.intro hi0 (And.intro hz0 (And.intro hz1 hz2)))
  have HP := Hidden.mk hp
  have HSZ := Hidden.mk (hsize_any x hp)
  have HTG : Hidden (∀ (y : Int) (W : World), Below w.heap.size w W → Calls Tryz.prog 31 #[.pointer (some ⟨h, 0, none⟩), .int .i64 y] W fun e w' => e = .returned (.tuple #[.int .i64 (gT l y), errV (hE l y)]) ∧ Below W.heap.size W w') := ⟨fun y W hW => htag_any y (hp.below hW)⟩
  have hgl : gL l x ≤ 65535 := by
    unfold gL; split
    · have := rLen_le (hR l x); omega
    · omega
  have HRD : Hidden (∀ W, Below w.heap.size w W → Calls Tryz.prog 27 #[.pointer (some ⟨h, 0, none⟩), .int .i64 x, .int .i64 0, .int .i64 (min (gL l x) (gT l x))] W fun e w' => ∃ A' c', e = .returned (.tuple #[.slice A' (readL l x 0 (min (gL l x) (gT l x))).length c', errV (someE l x 0 (min (gL l x) (gT l x)))]) ∧ (readL l x 0 (min (gL l x) (gT l x))).length ≤ c' ∧ Rd w' A' (readL l x 0 (min (gL l x) (gT l x))) ∧ (∀ ad, A' = some ad → W.heap.size ≤ ad.block) ∧ Below W.heap.size W w') := ⟨fun W hW => hread_any x 0 _ (hp.below hW) hg (by omega)⟩
  have hbl : (readL l x 0 (min (gL l x) (gT l x))).length ≤ 65535 := by
    unfold readL; split
    · simp; omega
    · simp
  have HRL : Hidden (refsL l x = refsB l (readL l x 0 (min (gL l x) (gT l x)))) := ⟨rfl⟩
  generalize readL l x 0 (min (gL l x) (gT l x)) = b at *
  generalize refsL l x = R at *
  generalize errV (someE l x 0 (min (gL l x) (gT l x))) = er at *
  have HTX := Hidden.mk (HTG.out x)
  generalize errV (hE l x) = ex at *
  generalize gL l x = n0 at *
  generalize gT l x = t0 at *
  clear hi0 hz0 hz1 hz2 hp hg
  go_enter Tryz.func208, Tryz.ntmps208
  go_wp2_with fail
  refine HSZ.out.mono ?_
  rintro e w1 ⟨rfl, hb1⟩
  have HB1 := Hidden.mk hb1
  clear hb1 HSZ
  go_wp2_with fail
  refine (HTX.out w1 HB1.out).mono ?_
  rintro e w2 ⟨rfl, hb2⟩
  have HB2 := Hidden.mk (HB1.out.trans (hb2.mono HB1.out.size))
  clear hb2 HTX HB1
  go_wp2_with fail
  refine (HRD.out w2 HB2.out).mono ?_
  rintro e w3 ⟨A3, c3, rfl, hc3, hr3, -, hb3⟩
  have HB3 := Hidden.mk (HB2.out.trans (hb3.mono HB2.out.size))
  have HR3 := Hidden.mk hr3
  generalize hm : b.length = m at *
  have HM := Hidden.mk hm
  clear hc3 hr3 hb3 HRD HB2 hm
  go_wp2_with fail
  go_loopg [4, 38] m (fun q v i wr => ∃ k : Nat, k ≤ m ∧ q = m - k ∧ i = .int .i64 (k : Int) ∧ Hidden (Below w3.heap.size w3 wr ∧ wr.ownsRow w3.heap.size 3 1 v (refsB l (b.take k)).length ((refsB l (b.take k)).flatMap ncell)))
  case atStart => exact ⟨0, by omega, rfl, rfl, ⟨Below.refl _ _, World.ownsRow_nil _ _ _ _⟩⟩
  case round =>
    obtain ⟨k, hk, rfl, rfl, hst⟩ := hrel
    by_cases hlt : k < m
    · have hkb : k < b.length := by rw [HM.out]; exact hlt
      have HS := Hidden.mk (refsB_succ l b k hkb)
      have hll := refsB_len l b k (by omega)
      obtain ⟨pb, ob, rfl, x0⟩ := (HR3.out.below hst.out.1) k hkb
      obtain ⟨A4, c4, rfl, hc4, hc4m⟩ := own_split hst.out.2
      have hc255 := u8_lt b[k]
      have HO4 := Hidden.mk hst.out
      have HBW : Hidden (Below w.heap.size w wr) := ⟨HB3.out.trans (hst.out.1.mono HB3.out.size)⟩
      generalize b[k] = cb at *
      generalize refsB l (b.take k) = L at *
      generalize hL2 : refsB l (b.take (k + 1)) = L2 at *
      have HL2 := Hidden.mk hL2
      have i0 : (0 : Int) ≤ k := by omega
      have i1 : (k : Int) < m := by omega
      have s1 : IntKind.i64.wrap (cb.toNat : Int) = (cb.toNat : Int) := IntWalk.i64_in _ (by omega)
      have s3 : IntKind.i64.wrap ((k : Int) + 1) = (k : Int) + 1 := IntWalk.i64_in _ (by omega)
      have HT := Hidden.mk (HTG.out (cb.toNat : Int) wr HBW.out)
      generalize gT l (cb.toNat : Int) = tg at *
      clear hst hL2
      by_cases h0 : hE l (cb.toNat : Int) = 0
      · rw [h0, show errV 0 = Value.nilIface from rfl] at HT
        have HS1 : Hidden (L2 = if cb.toNat ∉ L then L ++ [cb.toNat] else L) := ⟨by rw [HS.out]; unfold refB; simp only [h0, true_and]⟩
        clear h0 HS
        go_wp2_with fail
        refine HT.out.mono ?_
        rintro e w5 ⟨rfl, hb5⟩
        have HO5 : Hidden (Below w3.heap.size w3 w5 ∧ w5.ownsRow w3.heap.size 3 1 (.slice A4 L.length c4) L.length (L.flatMap ncell)) := ⟨HO4.out.1.trans (hb5.mono HO4.out.1.size), own_below HO4.out.2 hb5⟩
        have HCN := Hidden.mk (containsN_any A4 L.length c4 L cb.toNat w5 rfl (by omega) (own_rdX3 (f := ncell) (fun _ => rfl) rfl HO5.out.2))
        clear hb5 HT HO4
        by_cases hin : cb.toNat ∈ L
        · rw [decide_eq_true hin] at HCN
          have HLL : Hidden (L2 = L) := ⟨by rw [HS1.out, if_neg (fun h => h hin)]⟩
          clear hin HS1
          go_wp2_with fail
          refine HCN.out.mono ?_
          rintro e w6 ⟨rfl, rfl⟩
          clear HCN
          go_wp2_with fail
          go_roundg (m - (k + 1))
          case measure => omega
          case rel => exact ⟨k + 1, by omega, rfl, by go_num, ⟨by rw [HL2.out, HLL.out]; exact HO5.out⟩⟩
        · rw [decide_eq_false hin] at HCN
          have HLL : Hidden (L2 = L ++ [cb.toNat]) := ⟨by rw [HS1.out, if_pos hin]⟩
          obtain ⟨hi0, hz0, hz1, hz2⟩ := HI.out
          clear hin HS1
          go_wp2_with fail
          refine HCN.out.mono ?_
          rintro e w6 ⟨rfl, rfl⟩
          clear HCN
          go_wp2_with (at_builtin; refine wpList_append_lies _ rfl (.tmp 58) (.tmp 61) _ rfl w3.heap.size 3 i0' _ 1 8 Tryz.underlying54 hi0 hz0 hz1 hz2 rfl (by decide) (.slice A4 L.length c4) L.length (L.flatMap ncell) rfl (own_below HO5.out.2 ((Below.refl _ _).alloc (Nat.le_refl _) _)) ⟨(w5).heap.size, 0, none⟩ 1 1 [.int .i64 (cb.toNat : Int)] rfl rfl (World.news_of_block (cs := #[.int .i64 (cb.toNat : Int)]) (t := 3) (fr := (0, 0)) (heap_alloc_new (w5) _)) (by simp [Value.oneCell']) (by omega) (by simp only [maxLen]; omega) (by omega) (by have hz_ := HO5.out.1.size; rw [World.size_alloc]; omega) ((w5).heap.size + 1) (by simp) ?_; intro g8 cap8 w8 hown8 hg8 hat8 hlt8)
          have hgW := grown_trans' ((Below.refl w5.heap.size w5).alloc (Nat.le_refl _) _) hg8
          have hB8 : Below w3.heap.size w3 w8 := HO5.out.1.grown hgW HO5.out.1.size (fun q hq => (HO5.out.2.lt q hq).1)
          have HF : Hidden (Below w3.heap.size w3 w8 ∧ w8.ownsRow w3.heap.size 3 1 (.slice (some ⟨g8, 0, none⟩) (L.length + 1) cap8) L2.length (L2.flatMap ncell)) := ⟨hB8, by rw [HLL.out]; simpa [ncell] using hown8⟩
          clear hgW hB8 hown8 hg8 hat8 hlt8 hi0 hz0 hz1 hz2
          go_roundg (m - (k + 1))
          case measure => omega
          case rel => exact ⟨k + 1, by omega, rfl, by go_num, ⟨by rw [HL2.out]; exact HF.out⟩⟩
      · obtain ⟨ec, hec⟩ : ∃ ec, hE l (cb.toNat : Int) = ec + 1 := ⟨hE l (cb.toNat : Int) - 1, by omega⟩
        have HLL : Hidden (L2 = L) := ⟨by rw [HS.out]; unfold refB; rw [if_neg (fun h => h0 h.1)]⟩
        rw [hec, show errV (ec + 1) = .iface 111 (.int .i64 ((ec + 1 : Nat) : Int)) from rfl] at HT
        clear h0 hec HS
        go_wp2_with fail
        refine HT.out.mono ?_
        rintro e w5 ⟨rfl, hb5⟩
        have HO5 : Hidden (Below w3.heap.size w3 w5 ∧ w5.ownsRow w3.heap.size 3 1 (.slice A4 L.length c4) L.length (L.flatMap ncell)) := ⟨HO4.out.1.trans (hb5.mono HO4.out.1.size), own_below HO4.out.2 hb5⟩
        clear hb5 HT HO4
        go_wp2_with fail
        go_roundg (m - (k + 1))
        case measure => omega
        case rel => exact ⟨k + 1, by omega, rfl, by go_num, ⟨by rw [HL2.out, HLL.out]; exact HO5.out⟩⟩
    · have hkm : k = m := by omega
      have hT := hst.out
      rw [hkm, List.take_of_length_le (by rw [HM.out]; exact Nat.le_refl _), ← HRL.out] at hT
      have HF : Hidden (wr.ownsRow w.heap.size 3 1 u4 R.length (R.flatMap ncell) ∧ Below w.heap.size w wr) := ⟨own_base hT.2 HB3.out.size, HB3.out.trans (hT.1.mono HB3.out.size)⟩
      have dk : decide ((k : Int) < m) = false := decide_eq_false (by omega)
      have dk' : decide (k < m) = false := decide_eq_false (by omega)
      clear hT hst hkm
      go_wp2_with fail
      go_ret
      exact ⟨_, rfl, HF.out.1, HF.out.2⟩
end
end Go.Proofs.YtbnobjlphmkgeaaGreatDoor
/- Package reach, plain: who is led to, level by level, and by which way. -/
namespace Go.Proofs.YtbnobjlphmkgeaaGreatDoor
open Go.RowKit

def sortNat (L : List Nat) : List Nat := L.mergeSort (fun x y => decide (x ≤ y))
theorem sortNat_mem {L : List Nat} {x : Nat} : x ∈ sortNat L ↔ x ∈ L := by unfold sortNat; exact List.mem_mergeSort
theorem sortNat_len (L : List Nat) : (sortNat L).length = L.length := by unfold sortNat; exact List.length_mergeSort _
theorem sortNat_up (L : List Nat) : (sortNat L).Pairwise (· ≤ ·) := by
  have := List.pairwise_mergeSort (le := fun x y : Nat => decide (x ≤ y)) (fun a b c h1 h2 => by simp only [decide_eq_true_eq] at *; omega) (fun a b => by simp only [Bool.or_eq_true, decide_eq_true_eq]; omega) L
  exact this.imp fun h => of_decide_eq_true h
/-- what compacting leaves, plain -/
def dedup : List Nat → List Nat
  | [] => []
  | [x] => [x]
  | x :: y :: r => if x = y then dedup (y :: r) else x :: dedup (y :: r)
theorem dedup_mem (x : Nat) : ∀ L, x ∈ dedup L ↔ x ∈ L
  | [] => Iff.rfl
  | [y] => Iff.rfl
  | y :: z :: r => by
    unfold dedup
    split
    · rename_i h
      rw [dedup_mem x (z :: r), h]; simp
    · rw [List.mem_cons, dedup_mem x (z :: r), List.mem_cons (b := y)]
theorem dedup_up : ∀ L : List Nat, L.Pairwise (· ≤ ·) → (dedup L).Pairwise (· < ·)
  | [], _ => List.Pairwise.nil
  | [y], _ => List.pairwise_singleton ..
  | y :: z :: r, h => by
    have h1 := (List.pairwise_cons.1 h)
    unfold dedup
    split
    · exact dedup_up _ h1.2
    · rename_i hn
      refine List.pairwise_cons.2 ⟨fun a ha => ?_, dedup_up _ h1.2⟩
      have ha' := (dedup_mem a _).1 ha
      have h2 := List.pairwise_cons.1 h1.2
      have hyz := h1.1 z (List.mem_cons_self ..)
      rcases List.mem_cons.1 ha' with rfl | hr
      · omega
      · have := h2.1 a hr; omega
theorem mem_compact {L : List Int} {x : Int} : x ∈ Lib.compact L ↔ x ∈ L := by
  unfold Lib.compact Lib.compactUpTo
  rw [List.mem_map]
  constructor
  · rintro ⟨j, hj, rfl⟩
    have hj' := List.mem_range.1 (List.mem_filter.1 hj).1
    rw [getElem!_pos _ j (by simpa using hj')]
    simp
  · intro hx
    have hex : ∃ j : Nat, ∃ h : j < L.length, L[j] = x := by
      obtain ⟨j, hj, he⟩ := List.getElem_of_mem hx
      exact ⟨j, hj, he⟩
    -- the first place where it stands
    have hmin : ∃ j : Nat, (∃ h : j < L.length, L[j] = x) ∧ ∀ i, i < j → ¬ ∃ h : i < L.length, L[i] = x := by
      obtain ⟨j, hj⟩ := hex
      induction j using Nat.strongRecOn with
      | ind j ih =>
        by_cases hb : ∃ i, i < j ∧ ∃ h : i < L.length, L[i] = x
        · obtain ⟨i, hi, hx'⟩ := hb; exact ih i hi hx'
        · exact ⟨j, hj, fun i hi hx' => hb ⟨i, hi, hx'⟩⟩
    obtain ⟨j, ⟨hj, he⟩, hno⟩ := hmin
    refine ⟨j, List.mem_filter.2 ⟨List.mem_range.2 hj, ?_⟩, ?_⟩
    · unfold Lib.keeps
      refine decide_eq_true ?_
      by_cases h0 : j = 0
      · exact .inl h0
      · refine .inr fun h => hno (j - 1) (by omega) ⟨by omega, ?_⟩
        rw [getElem!_pos _ j (by simpa using hj), getElem!_pos _ (j - 1) (by simp; omega)] at h
        simpa [he] using h.symm
    · rw [getElem!_pos _ j (by simpa using hj)]; simpa using he
theorem compact_up (L : List Int) (h : L.Pairwise (· ≤ ·)) : (Lib.compact L).Pairwise (· < ·) := by
  unfold Lib.compact Lib.compactUpTo
  refine List.pairwise_map.2 ?_
  refine List.Pairwise.imp_of_mem ?_ ((List.pairwise_lt_range (n := L.length)).filter _)
  intro i j hi hj hij
  have hi' := List.mem_range.1 (List.mem_filter.1 hi).1
  have hj' := List.mem_range.1 (List.mem_filter.1 hj).1
  have hk := of_decide_eq_true (List.mem_filter.1 hj).2
  have hp := List.pairwise_iff_getElem.1 h
  rw [getElem!_pos _ i (by simpa using hi'), getElem!_pos _ j (by simpa using hj')]
  rcases hk with h0 | hk
  · omega
  · rw [getElem!_pos _ j (by simpa using hj'), getElem!_pos _ (j - 1) (by simp; omega)] at hk
    have h1 : L[j - 1] ≤ L[j] := hp (j - 1) j (by omega) hj' (by omega)
    have h2 : L[i] ≤ L[j - 1] := by
      by_cases e : i = j - 1
      · subst e; exact Int.le_refl _
      · exact hp i (j - 1) hi' (by omega) (by omega)
    simp only [List.getElem_toArray] at hk ⊢
    omega
/-- two lists that rise and have the same members are one -/
theorem up_ext : ∀ {A B : List Nat}, A.Pairwise (· < ·) → B.Pairwise (· < ·) → (∀ x, x ∈ A ↔ x ∈ B) → A = B
  | [], [], _, _, _ => rfl
  | [], b :: B, _, _, h => absurd ((h b).2 (List.mem_cons_self ..)) (by simp)
  | a :: A, [], _, _, h => absurd ((h a).1 (List.mem_cons_self ..)) (by simp)
  | a :: A, b :: B, hA, hB, h => by
    have ha := List.pairwise_cons.1 hA
    have hb := List.pairwise_cons.1 hB
    have e : a = b := by
      have h1 := (h a).1 (List.mem_cons_self ..)
      have h2 := (h b).2 (List.mem_cons_self ..)
      rcases List.mem_cons.1 h1 with h1 | h1
      · exact h1
      · rcases List.mem_cons.1 h2 with h2 | h2
        · exact h2.symm
        · have := hb.1 _ h1; have := ha.1 _ h2; omega
    subst e
    congr 1
    refine up_ext ha.2 hb.2 fun x => ?_
    constructor
    · intro hx
      rcases List.mem_cons.1 ((h x).1 (List.mem_cons_of_mem _ hx)) with e | hx'
      · subst e; have := ha.1 _ hx; omega
      · exact hx'
    · intro hx
      rcases List.mem_cons.1 ((h x).2 (List.mem_cons_of_mem _ hx)) with e | hx'
      · subst e; have := hb.1 _ hx; omega
      · exact hx'
theorem compact_cast (L : List Nat) : Lib.compact ((sortNat L).map fun i : Nat => (i : Int)) = (dedup (sortNat L)).map fun i : Nat => (i : Int) := by
  have hs : ((sortNat L).map fun i : Nat => (i : Int)).Pairwise (· ≤ ·) := List.pairwise_map.2 ((sortNat_up L).imp fun h => by omega)
  have h1 := compact_up _ hs
  have hc : Lib.compact ((sortNat L).map fun i : Nat => (i : Int)) = ((Lib.compact ((sortNat L).map fun i : Nat => (i : Int))).map Int.toNat).map fun i : Nat => (i : Int) := by
    rw [List.map_map]
    conv => lhs; rw [← List.map_id (Lib.compact _)]
    refine List.map_congr_left fun x hx => ?_
    obtain ⟨k, -, rfl⟩ := List.mem_map.1 (mem_compact.1 hx)
    simp
  rw [hc]
  congr 1
  refine up_ext ?_ (dedup_up _ (sortNat_up L)) fun x => ?_
  · refine List.pairwise_map.2 (h1.imp_of_mem fun {a b} ha hb hab => ?_)
    obtain ⟨k, -, rfl⟩ := List.mem_map.1 (mem_compact.1 ha)
    obtain ⟨m, -, rfl⟩ := List.mem_map.1 (mem_compact.1 hb)
    simp only [Int.toNat_natCast]; omega
  · rw [dedup_mem, List.mem_map]
    constructor
    · rintro ⟨y, hy, rfl⟩
      obtain ⟨k, hk, rfl⟩ := List.mem_map.1 (mem_compact.1 hy)
      simpa using hk
    · intro hx
      exact ⟨(x : Int), mem_compact.2 (List.mem_map.2 ⟨x, hx, rfl⟩), by simp⟩

/-- ways: to each object that is led to, the way there -/
abbrev Ways := Nat → Option (List Nat)
/-- who is ahead of the last one; the last one, if nobody is -/
def par (p : List Nat) : Nat := p.dropLast.getLast?.getD (p.getLast?.getD 0)
theorem par_two (q : List Nat) (x y : Nat) : par (q ++ [x, y]) = x := by
  unfold par
  rw [show q ++ [x, y] = (q ++ [x]) ++ [y] by simp, List.dropLast_concat, List.getLast?_concat]; rfl
def wset (W : Ways) (y : Nat) (p : List Nat) : Ways := fun q => if q = y then some p else W q
def wayOf (W : Ways) (x : Nat) : List Nat := (W x).getD []
def stepY (x : Nat) (s : Ways × List Nat) (y : Nat) : Ways × List Nat := if (s.1 y).isSome then s else (wset s.1 y (wayOf s.1 x ++ [y]), s.2 ++ [y])
def stepX (l : Bytes) (s : Ways × List Nat) (x : Nat) : Ways × List Nat := (sortNat (refsL l (x : Int))).foldl (stepY x) s
def lvl (l : Bytes) (s : Ways × List Nat) : Ways × List Nat := s.2.foldl (stepX l) (s.1, [])
def rootsH (l : Bytes) : List Nat := (rootsL l).map (·.2)
def startW (l : Bytes) : Ways := fun q => if q ∈ rootsH l then some [q] else none
def lvlN (l : Bytes) : Nat → Ways × List Nat
  | 0 => (startW l, dedup (sortNat (rootsH l)))
  | k + 1 => lvl l (lvlN l k)
def fromW (l : Bytes) : Ways := (lvlN l 41).1

/-- what holds of ways while they are found: D is who has one -/
structure WOk (l : Bytes) (W : Ways) (D : List Nat) : Prop where
  dn : D.Nodup
  dk : ∀ k, (W k).isSome = true ↔ k ∈ D
  dh : ∀ k ∈ D, hE l (k : Int) = 0
  ways : ∀ y p, W y = some p → ∃ q, p = q ++ [y] ∧ ((q = [] ∧ y ∈ rootsH l) ∨ ∃ x, W x = some q ∧ y ∈ refsL l (x : Int))
  roots : ∀ r ∈ rootsH l, W r = some [r]
theorem hE_nat {l : Bytes} {k : Nat} (h : hE l (k : Int) = 0) : 1 ≤ k ∧ k ≤ 40 := by
  obtain ⟨j, hj, e, -⟩ := hE_zero h
  omega
theorem nodup_le1 {D : List Nat} (hn : D.Nodup) {m : Nat} (h : ∀ k ∈ D, 1 ≤ k ∧ k ≤ m) : D.length ≤ m := by
  have hs : D ⊆ (List.range m).map (· + 1) := fun k hk => by
    have := h k hk
    exact List.mem_map.2 ⟨k - 1, List.mem_range.2 (by omega), by omega⟩
  have := hn.length_le_of_subset hs
  simpa using this
theorem WOk.le {l : Bytes} {W : Ways} {D : List Nat} (h : WOk l W D) : D.length ≤ 40 := nodup_le1 h.dn fun k hk => hE_nat (h.dh k hk)
theorem refsL_mem {l : Bytes} {x _y : Int} {z : Nat} (h : z ∈ refsL l x) : hE l (z : Int) = 0 := by
  unfold refsL at h
  have := refsB_mem l (readL l x 0 (min (gL l x) (gT l x))) _ (Nat.le_refl _) z
  rw [List.take_length] at this
  exact this h
theorem rootsH_mem {l : Bytes} (hg : Good l) {r : Nat} (h : r ∈ rootsH l) : hE l (r : Int) = 0 := by
  unfold rootsH at h
  obtain ⟨x, hx, rfl⟩ := List.mem_map.1 h
  exact (good_roots hg hx).2.2
theorem startW_ok {l : Bytes} (hg : Good l) : WOk l (startW l) (dedup (sortNat (rootsH l))) where
  dn := (dedup_up _ (sortNat_up _)).imp fun h => by omega
  dk k := by
    rw [dedup_mem, sortNat_mem]; unfold startW; split <;> simp_all
  dh k hk := rootsH_mem hg (sortNat_mem.1 ((dedup_mem _ _).1 hk))
  ways y p h := by
    unfold startW at h; split at h
    · rename_i hy; cases h; exact ⟨[], rfl, .inl ⟨rfl, hy⟩⟩
    · cases h
  roots r hr := by unfold startW; rw [if_pos hr]
theorem WOk.set {l : Bytes} {W : Ways} {D : List Nat} (h : WOk l W D) {x y : Nat} (hx : x ∈ D) (hy : y ∉ D) (hr : y ∈ refsL l (x : Int)) : WOk l (wset W y (wayOf W x ++ [y])) (D ++ [y]) := by
  obtain ⟨q, hq⟩ := Option.isSome_iff_exists.1 ((h.dk x).2 hx)
  have hne : ∀ k, k ∈ D → k ≠ y := fun k hk e => hy (e ▸ hk)
  have hold : ∀ k, k ∈ D → wset W y (wayOf W x ++ [y]) k = W k := fun k hk => by unfold wset; rw [if_neg (hne k hk)]
  have hin : ∀ k p, W k = some p → k ∈ D := fun k p hk => (h.dk k).1 (by rw [hk]; rfl)
  refine ⟨?_, fun k => ?_, fun k hk => ?_, fun k p hk => ?_, fun r hr => ?_⟩
  · exact List.nodup_append.2 ⟨h.dn, by simp, fun a ha b hb => by simp only [List.mem_singleton] at hb; subst hb; exact hne a ha⟩
  · by_cases e : k = y
    · subst e; unfold wset; simp
    · unfold wset; rw [if_neg e, h.dk k]; simp [e]
  · rcases List.mem_append.1 hk with hk | hk
    · exact h.dh k hk
    · simp only [List.mem_singleton] at hk; subst hk; exact refsL_mem (_y := 0) hr
  · by_cases e : k = y
    · subst e
      unfold wset at hk; rw [if_pos rfl] at hk
      cases hk
      refine ⟨_, rfl, .inr ⟨x, ?_, hr⟩⟩
      rw [hold x hx, hq]; unfold wayOf; rw [hq]; rfl
    · unfold wset at hk; rw [if_neg e] at hk
      obtain ⟨q', e1, h1⟩ := h.ways k p hk
      refine ⟨q', e1, h1.imp id fun ⟨x', e2, e3⟩ => ⟨x', ?_, e3⟩⟩
      rw [hold x' (hin _ _ e2)]; exact e2
  · rw [hold r ((h.dk r).1 (by rw [h.roots r hr]; rfl))]; exact h.roots r hr
/-- a level that is under way: ways W of D, of which N are new -/
structure LOk (l : Bytes) (s : Ways × List Nat) (D : List Nat) (W0 : Ways) (D0 : List Nat) : Prop where
  ok : WOk l s.1 D
  spl : D = D0 ++ s.2
  old : ∀ k, k ∈ D0 → s.1 k = W0 k
theorem LOk.stepY {l : Bytes} {s : Ways × List Nat} {D D0 : List Nat} {W0 : Ways} (h : LOk l s D W0 D0) {x y : Nat} (hx : x ∈ D0) (hr : y ∈ refsL l (x : Int)) :
    ∃ D', LOk l (stepY x s y) D' W0 D0 ∧ y ∈ D' ∧ (∀ k ∈ D, k ∈ D') ∧ D'.length = (if (s.1 y).isSome then D.length else D.length + 1) := by
  unfold Go.Proofs.YtbnobjlphmkgeaaGreatDoor.stepY
  by_cases hy : (s.1 y).isSome
  · rw [if_pos hy, if_pos hy]
    exact ⟨D, h, (h.ok.dk y).1 hy, fun _ hk => hk, rfl⟩
  · rw [if_neg hy, if_neg hy]
    have hyD : y ∉ D := fun hk => hy ((h.ok.dk y).2 hk)
    have hxD : x ∈ D := by rw [h.spl]; exact List.mem_append_left _ hx
    refine ⟨D ++ [y], ⟨h.ok.set hxD hyD hr, by rw [h.spl, List.append_assoc], fun k hk => ?_⟩, by simp, fun k hk => List.mem_append_left _ hk, by simp⟩
    have hk' : k ≠ y := fun e => hyD (by rw [h.spl, ← e]; exact List.mem_append_left _ hk)
    show wset s.1 y _ k = _
    unfold wset; rw [if_neg hk']; exact h.old k hk
theorem LOk.foldY {l : Bytes} {D0 : List Nat} {W0 : Ways} {x : Nat} (hx : x ∈ D0) : ∀ (L : List Nat) (s : Ways × List Nat) (D : List Nat), LOk l s D W0 D0 → (∀ y ∈ L, y ∈ refsL l (x : Int)) →
    ∃ D', LOk l (L.foldl (Go.Proofs.YtbnobjlphmkgeaaGreatDoor.stepY x) s) D' W0 D0 ∧ (∀ y ∈ L, y ∈ D') ∧ (∀ k ∈ D, k ∈ D')
  | [], s, D, h, _ => ⟨D, h, fun _ hy => by simp at hy, fun _ hk => hk⟩
  | y :: L, s, D, h, hL => by
    obtain ⟨D1, h1, hy1, hd1, -⟩ := h.stepY hx (hL y (List.mem_cons_self ..))
    obtain ⟨D2, h2, hy2, hd2⟩ := LOk.foldY hx L _ D1 h1 (fun z hz => hL z (List.mem_cons_of_mem _ hz))
    refine ⟨D2, h2, fun z hz => ?_, fun k hk => hd2 k (hd1 k hk)⟩
    rcases List.mem_cons.1 hz with rfl | hz
    · exact hd2 _ hy1
    · exact hy2 z hz
theorem LOk.stepX {l : Bytes} {s : Ways × List Nat} {D D0 : List Nat} {W0 : Ways} (h : LOk l s D W0 D0) {x : Nat} (hx : x ∈ D0) :
    ∃ D', LOk l (stepX l s x) D' W0 D0 ∧ (∀ y ∈ refsL l (x : Int), y ∈ D') ∧ (∀ k ∈ D, k ∈ D') := by
  obtain ⟨D', h1, h2, h3⟩ := LOk.foldY hx (sortNat (refsL l (x : Int))) s D h (fun y hy => sortNat_mem.1 hy)
  exact ⟨D', h1, fun y hy => h2 y (sortNat_mem.2 hy), h3⟩
theorem LOk.foldX {l : Bytes} {D0 : List Nat} {W0 : Ways} : ∀ (L : List Nat) (s : Ways × List Nat) (D : List Nat), LOk l s D W0 D0 → (∀ x ∈ L, x ∈ D0) →
    ∃ D', LOk l (L.foldl (Go.Proofs.YtbnobjlphmkgeaaGreatDoor.stepX l) s) D' W0 D0 ∧ (∀ x ∈ L, ∀ y ∈ refsL l (x : Int), y ∈ D') ∧ (∀ k ∈ D, k ∈ D')
  | [], s, D, h, _ => ⟨D, h, fun _ hy => by simp at hy, fun _ hk => hk⟩
  | x :: L, s, D, h, hL => by
    obtain ⟨D1, h1, hy1, hd1⟩ := h.stepX (hL x (List.mem_cons_self ..))
    obtain ⟨D2, h2, hy2, hd2⟩ := LOk.foldX L _ D1 h1 (fun z hz => hL z (List.mem_cons_of_mem _ hz))
    refine ⟨D2, h2, fun z hz => ?_, fun k hk => hd2 k (hd1 k hk)⟩
    rcases List.mem_cons.1 hz with rfl | hz
    · exact fun y hy => hd2 _ (hy1 y hy)
    · exact hy2 z hz
/-- between two levels: D has ways, row are those that have not been asked yet -/
structure LvOk (l : Bytes) (s : Ways × List Nat) (D : List Nat) : Prop where
  ok : WOk l s.1 D
  row : ∀ x ∈ s.2, x ∈ D
  closed : ∀ x ∈ D, x ∉ s.2 → ∀ y ∈ refsL l (x : Int), y ∈ D
theorem LvOk.start {l : Bytes} (hg : Good l) : LvOk l (lvlN l 0) (dedup (sortNat (rootsH l))) := ⟨startW_ok hg, fun _ h => h, fun _ h hn => absurd h hn⟩
theorem LvOk.next {l : Bytes} {s : Ways × List Nat} {D : List Nat} (h : LvOk l s D) : ∃ D', LvOk l (lvl l s) D' ∧ D'.length = D.length + (lvl l s).2.length ∧ (∀ k ∈ D, k ∈ D') := by
  obtain ⟨D', h1, h2, h3⟩ := LOk.foldX (l := l) (D0 := D) (W0 := s.1) s.2 (s.1, []) D ⟨h.ok, by simp, fun _ _ => rfl⟩ h.row
  refine ⟨D', ⟨h1.ok, fun x hx => by rw [h1.spl]; exact List.mem_append_right _ hx, fun x hx hn y hy => ?_⟩, by rw [h1.spl, List.length_append]; rfl, h3⟩
  have hxD : x ∈ D := by
    rw [h1.spl] at hx
    rcases List.mem_append.1 hx with hx | hx
    · exact hx
    · exact absurd hx hn
  by_cases hr : x ∈ s.2
  · exact h2 x hr y hy
  · exact h3 y (h.closed x hxD hr y hy)
theorem LvOk.at_ {l : Bytes} (hg : Good l) : ∀ k, ∃ D, LvOk l (lvlN l k) D ∧ ((lvlN l k).2 = [] ∨ k < D.length)
  | 0 => by
    refine ⟨_, LvOk.start hg, ?_⟩
    by_cases h : (lvlN l 0).2 = []
    · exact .inl h
    · exact .inr (List.length_pos_iff.2 h)
  | k + 1 => by
    obtain ⟨D, h, hd⟩ := LvOk.at_ hg k
    obtain ⟨D', h', hl, -⟩ := h.next
    refine ⟨D', h', ?_⟩
    by_cases hn : (lvlN l (k + 1)).2 = []
    · exact .inl hn
    · right
      have hp : 0 < (lvl l (lvlN l k)).2.length := List.length_pos_iff.2 hn
      rcases hd with hd | hd
      · refine absurd ?_ hn
        show (lvl l (lvlN l k)).2 = []
        have e : lvlN l k = ((lvlN l k).1, []) := by rw [← hd]
        rw [e]; rfl
      · omega
theorem lvlN_end {l : Bytes} (hg : Good l) : (lvlN l 41).2 = [] := by
  obtain ⟨D, h, hd⟩ := LvOk.at_ hg 41
  rcases hd with hd | hd
  · exact hd
  · have := h.ok.le; omega
/-- once a row is empty nothing more comes -/
theorem lvlN_stop {l : Bytes} {k : Nat} (h : (lvlN l k).2 = []) : ∀ m, lvlN l (k + m) = lvlN l k
  | 0 => rfl
  | m + 1 => by
    show lvl l (lvlN l (k + m)) = _
    rw [lvlN_stop h m]
    have e : lvlN l k = ((lvlN l k).1, []) := by rw [← h]
    rw [e]; rfl
theorem fromW_of {l : Bytes} {k : Nat} (hk : k ≤ 41) (h : (lvlN l k).2 = []) : (lvlN l k).1 = fromW l := by
  unfold fromW
  rw [show 41 = k + (41 - k) by omega, lvlN_stop h]
/-- what the whole of it comes to -/
theorem fromW_ok {l : Bytes} (hg : Good l) : ∃ D, WOk l (fromW l) D ∧ ∀ x ∈ D, ∀ y ∈ refsL l (x : Int), y ∈ D := by
  obtain ⟨D, h, -⟩ := LvOk.at_ hg 41
  exact ⟨D, h.ok, fun x hx => h.closed x hx (by rw [lvlN_end hg]; simp)⟩
end Go.Proofs.YtbnobjlphmkgeaaGreatDoor
/- Package reach, plain: the dead, and the image without them. -/
namespace Go.Proofs.YtbnobjlphmkgeaaGreatDoor
open Go.RowKit

/-- the dead among some entries -/
def deadE (l : Bytes) (E : List Ent) : List Nat := (E.filter fun e => (fromW l e.1.toNat).isNone).map fun e => e.1.toNat
def deadL (l : Bytes) : List Nat := deadE l (entriesL l)
theorem filter_take_succ {A B : Type} (p : A → Bool) (f : A → B) (E : List A) (k : Nat) (hk : k < E.length) : ((E.take (k + 1)).filter p).map f = ((E.take k).filter p).map f ++ (if p E[k] = true then [f E[k]] else []) := by
  rw [List.take_succ_eq_append_getElem hk, List.filter_append, List.map_append]
  congr 1
  cases h : p E[k] <;> simp [h]
theorem deadE_succ (l : Bytes) (E : List Ent) (k : Nat) (hk : k < E.length) : deadE l (E.take (k + 1)) = deadE l (E.take k) ++ (if (fromW l E[k].1.toNat).isNone then [E[k].1.toNat] else []) := by
  exact filter_take_succ (fun e : Ent => (fromW l e.1.toNat).isNone) (fun e => e.1.toNat) E k hk
theorem deadE_len (l : Bytes) (E : List Ent) : (deadE l E).length ≤ E.length := by
  unfold deadE; rw [List.length_map]; exact List.length_filter_le ..
theorem deadL_mem {l : Bytes} {x : Nat} : x ∈ deadL l ↔ ∃ k, k < 40 ∧ hasE (rawE l k) = true ∧ fromW l (k + 1) = none ∧ x = k + 1 := by
  unfold deadL deadE
  simp only [List.mem_map, List.mem_filter, entL_mem]
  constructor
  · rintro ⟨e, ⟨⟨k, h1, h2, rfl⟩, h3⟩, rfl⟩
    have e1 : ((k : Int) + 1).toNat = k + 1 := by omega
    rw [e1] at h3 ⊢
    exact ⟨k, h1, h2, by simpa using h3, rfl⟩
  · rintro ⟨k, h1, h2, h3, rfl⟩
    refine ⟨((k : Int) + 1, rawE l k), ⟨⟨k, h1, h2, rfl⟩, ?_⟩, ?_⟩
    · have e1 : ((k : Int) + 1).toNat = k + 1 := by omega
      dsimp only
      rw [e1, h3]; rfl
    · dsimp only; omega
theorem deadL_nodup (l : Bytes) : (deadL l).Nodup := by
  unfold deadL deadE
  refine List.pairwise_map.2 ?_
  refine List.Pairwise.imp_of_mem ?_ ((entL_nodup l).filter _)
  intro a b ha hb hab e
  obtain ⟨k, h1, h2, rfl⟩ := entL_mem.1 (List.mem_filter.1 ha).1
  obtain ⟨m, h3, h4, rfl⟩ := entL_mem.1 (List.mem_filter.1 hb).1
  dsimp only at e hab
  omega
def sweepT (l : Bytes) (D : List Nat) : Bytes := D.foldl (fun l (x : Nat) => freeL l (x : Int)) l
def sweepL (l : Bytes) : Bytes := sweepT l (deadL l)
theorem sweepT_succ (l : Bytes) (D : List Nat) (k : Nat) (hk : k < D.length) : sweepT l (D.take (k + 1)) = freeL (sweepT l (D.take k)) (D[k] : Int) := by
  unfold sweepT; rw [List.take_succ_eq_append_getElem hk, List.foldl_append]; rfl
/-- an image without some of its objects -/
structure SwpR (l l' : Bytes) (gone : List Nat) : Prop where
  good : Good l'
  len : l'.length = l.length
  ents : ∀ j, j < 40 → rawE l' j = if j + 1 ∈ gone then List.replicate 5 0 else rawE l j
  rots : ∀ i, i < 8 → rawR l' i = rawR l i
  rest : ∀ b m, 288 ≤ b → (l'.drop b).take m = (l.drop b).take m
theorem SwpR.refl {l : Bytes} (hg : Good l) : SwpR l l [] := ⟨hg, rfl, fun j _ => by simp, fun _ _ => rfl, fun _ _ _ => rfl⟩
theorem SwpR.roots {l l' : Bytes} {gone : List Nat} (h : SwpR l l' gone) : rootsL l' = rootsL l := by
  unfold rootsL; exact rootsF_congr _ _ 8 fun j hj => h.rots j hj
theorem has_zero5 : hasE (List.replicate 5 0) = false := rfl
theorem SwpR.has {l l' : Bytes} {gone : List Nat} (h : SwpR l l' gone) {j : Nat} (hj : j < 40) : hasE (rawE l' j) = true ↔ hasE (rawE l j) = true ∧ j + 1 ∉ gone := by
  rw [h.ents j hj]
  split
  · rename_i hm; rw [has_zero5]; simp [hm]
  · rename_i hm; simp [hm]
theorem SwpR.obj {l l' : Bytes} {gone : List Nat} (h : SwpR l l' gone) (hg : Good l) {j : Nat} (hj : j < 40) (hm : j + 1 ∉ gone) : objT l' j = objT l j ∧ objS l' j = objS l j := by
  have he : rawE l' j = rawE l j := by rw [h.ents j hj, if_neg hm]
  refine obj_congr he fun hh => ?_
  have hs := strayE_false (hg.s.fit j hj hh)
  exact h.rest _ _ (by omega)
theorem SwpR.free {l l' : Bytes} {gone : List Nat} (h : SwpR l l' gone) {x : Nat} (h0 : freeE l' (x : Int) = 0) : SwpR l (freeL l' (x : Int)) (gone ++ [x]) := by
  obtain ⟨k, hx, hf⟩ := free_is h.good h0
  obtain rfl : x = k + 1 := by omega
  refine ⟨hf.good h.good, hf.len.trans h.len, fun j hj => ?_, fun i hi => (hf.rots i hi).trans (h.rots i hi), fun b m hb => (hf.rest b m hb).trans (h.rest b m hb)⟩
  rw [hf.ents j hj, h.ents j hj]
  by_cases e : j = k
  · subst e; simp
  · rw [if_neg e]
    have : (j + 1 ∈ gone ++ [k + 1]) ↔ j + 1 ∈ gone := by simp; omega
    simp only [this]
theorem free_zero {l : Bytes} {k : Nat} (hk : k < 40) (hh : hasE (rawE l k) = true) (hr : k + 1 ∉ rootsH l) : freeE l ((k : Int) + 1) = 0 := by
  unfold freeE
  rw [if_neg (by rw [(hE_has hk hh).1]; simp), if_neg]
  intro ha
  obtain ⟨r, hr1, hr2⟩ := List.any_eq_true.1 ha
  have e : (r.2 : Int) = (k : Int) + 1 := by simpa using hr2
  refine hr ?_
  unfold rootsH
  exact List.mem_map.2 ⟨r, hr1, by omega⟩
theorem root_way {l : Bytes} (hg : Good l) {r : Nat} (h : r ∈ rootsH l) : fromW l r = some [r] := by
  obtain ⟨D, hD, -⟩ := fromW_ok hg
  exact hD.roots r h
theorem sweep_at {l : Bytes} (hg : Good l) : ∀ i, i ≤ (deadL l).length → SwpR l (sweepT l ((deadL l).take i)) ((deadL l).take i)
  | 0, _ => by simpa [sweepT] using SwpR.refl hg
  | i + 1, hi => by
    have ih := sweep_at hg i (by omega)
    have hlt : i < (deadL l).length := by omega
    rw [sweepT_succ l _ i hlt, List.take_succ_eq_append_getElem hlt]
    refine ih.free ?_
    obtain ⟨k, h1, h2, h3, h4⟩ := deadL_mem.1 (List.getElem_mem hlt)
    rw [h4]
    show freeE _ ((k + 1 : Nat) : Int) = 0
    rw [show ((k + 1 : Nat) : Int) = (k : Int) + 1 by omega]
    refine free_zero h1 ?_ ?_
    · rw [ih.has h1]
      refine ⟨h2, fun hm => ?_⟩
      rw [← h4] at hm
      have hnd := deadL_nodup l
      rw [← List.take_append_drop i (deadL l)] at hnd
      have := (List.nodup_append.1 hnd).2.2 _ hm (deadL l)[i] (by rw [List.drop_eq_getElem_cons hlt]; exact List.mem_cons_self ..)
      exact this rfl
    · intro hr
      unfold rootsH at hr
      rw [ih.roots] at hr
      have := root_way hg hr
      rw [h3] at this; cases this
theorem sweep_free {l : Bytes} (hg : Good l) {i : Nat} (hi : i < (deadL l).length) : freeE (sweepT l ((deadL l).take i)) ((deadL l)[i] : Int) = 0 := by
  have ih := sweep_at hg i (by omega)
  obtain ⟨k, h1, h2, h3, h4⟩ := deadL_mem.1 (List.getElem_mem hi)
  rw [h4, show ((k + 1 : Nat) : Int) = (k : Int) + 1 by omega]
  refine free_zero h1 ?_ ?_
  · rw [ih.has h1]
    refine ⟨h2, fun hm => ?_⟩
    rw [← h4] at hm
    have hnd := deadL_nodup l
    rw [← List.take_append_drop i (deadL l)] at hnd
    have := (List.nodup_append.1 hnd).2.2 _ hm (deadL l)[i] (by rw [List.drop_eq_getElem_cons hi]; exact List.mem_cons_self ..)
    exact this rfl
  · intro hr
    unfold rootsH at hr
    rw [ih.roots] at hr
    have := root_way hg hr
    rw [h3] at this; cases this
theorem SwpR.hE {l l' : Bytes} {gone : List Nat} (h : SwpR l l' gone) {x : Int} (hx : ∀ g ∈ gone, (g : Int) ≠ x) : hE l' x = hE l x ∧ gT l' x = gT l x ∧ gA l' x = gA l x ∧ gL l' x = gL l x := by
  have hx2 : Go.Proofs.YtbnobjlphmkgeaaGreatDoor.hE l' x = Go.Proofs.YtbnobjlphmkgeaaGreatDoor.hE l x ∧ (Go.Proofs.YtbnobjlphmkgeaaGreatDoor.hE l x = 0 → hR l' x = hR l x) := by
    unfold Go.Proofs.YtbnobjlphmkgeaaGreatDoor.hE hR
    by_cases hb : handleB x = false
    · rw [if_pos hb, if_pos hb]; exact ⟨rfl, fun e => by omega⟩
    · rw [if_neg hb, if_neg hb]
      have hb' := handleB_true.1 (by simpa using hb)
      have he : rawE l' (x - 1).toNat = rawE l (x - 1).toNat := by
        rw [h.ents _ (by omega), if_neg]
        intro hm
        exact hx _ hm (by omega)
      rw [he]; exact ⟨rfl, fun _ => rfl⟩
  obtain ⟨e1, e2⟩ := hx2
  unfold gT gA gL
  rw [e1]
  by_cases h0 : Go.Proofs.YtbnobjlphmkgeaaGreatDoor.hE l x = 0
  · rw [e2 h0]; exact ⟨rfl, rfl, rfl, rfl⟩
  · simp [h0]
end Go.Proofs.YtbnobjlphmkgeaaGreatDoor
/- A store, plainly: which pages differ, what a commit of them makes, what an op of a script makes. No program in sight. -/
namespace Go.Proofs.YtbnobjlphmkgeaaGreatDoor
open Go.RowKit Go.Maps Go.ChangeMaps

/-- pages that differ -/
def difB (N K : Bytes) (k : Nat) : Bool := pgB N k != pgB K k
def dS (N K : Bytes) (n k : Nat) : Bool := decide (k < n) && difB N K k
/-- a store: its device, its stamp, its image, what it kept -/
structure Sto where
  D : Dv
  st : Nat
  l : Bytes
  K : Bytes
end Go.Proofs.YtbnobjlphmkgeaaGreatDoor
/- Laid: maps.Keys at maps from numbers to rows of bytes. -/
namespace Go.Proofs.YtbnobjlphmkgeaaGreatDoor
open Go.Shelf
end Go.Proofs.YtbnobjlphmkgeaaGreatDoor
/- slices.Sorted(maps.Keys(m)) of maps from numbers to rows of bytes. -/
namespace Go.Proofs.YtbnobjlphmkgeaaGreatDoor
open Go.RowKit Go.Maps Go.ChangeMaps Go.Sort Go.Shelf

end Go.Proofs.YtbnobjlphmkgeaaGreatDoor
/- Laid: library functions whose contracts are proved over whatever program: the table of numbers, and a field a function or a type. -/
namespace Go.Proofs.YtbnobjlphmkgeaaGreatDoor
open Go.Shelf
end Go.Proofs.YtbnobjlphmkgeaaGreatDoor
/- Package undo: a heap with its marks. -/
namespace Go.Proofs.YtbnobjlphmkgeaaGreatDoor
open Go.RowKit Go.Maps Go.ChangeMaps Go.Shelf

section
variable {w0 w w' : World} {F F' : Nat → Prop} {h u mb last : Nat} {l : Bytes} {I : Nat → Option Bytes}
end
end Go.Proofs.YtbnobjlphmkgeaaGreatDoor
/- A store in memory, and what keeps it; Heap, Stamp, Abort. -/
namespace Go.Proofs.YtbnobjlphmkgeaaGreatDoor
open Go.RowKit Go.Maps Go.ChangeMaps

section
variable {w0 w w' : World} {F F' GH GH' G : Nat → Prop} {s p d h gk ck st n : Nat} {l l' K : Bytes}
end
end Go.Proofs.YtbnobjlphmkgeaaGreatDoor
/- The contract of slices.Equal at bytes. -/
namespace Go.Proofs.YtbnobjlphmkgeaaGreatDoor
open Go.RowKit

end Go.Proofs.YtbnobjlphmkgeaaGreatDoor
/- Laid by hand: slices.Compact and slices.Reverse at ints. -/
namespace Go.Proofs.YtbnobjlphmkgeaaGreatDoor
open Go.Shelf
def compactI_ren : Go.Shelf.Ren := ⟨fun | 20 => 207 | n => n, fun | 0 => 0 | 3 => 3 | 4 => 4 | 22 => 54 | n => n, fun | n => n⟩
theorem compactI : Go.Proofs.Lays2.n20 Tryz.prog compactI_ren := {
  mixed := by kernel_rfl
  f20 := Tryz.func207.trans (congrArg some (by kernel_rfl))
  t0 := Tryz.underlying0
  a0 := Tryz.isAgg0
  z0 := Tryz.sizeOf0
  v0 := Tryz.zeroValue0
  t3 := Tryz.underlying3
  a3 := Tryz.isAgg3
  z3 := Tryz.sizeOf3
  v3 := Tryz.zeroValue3
  t4 := Tryz.underlying4
  a4 := Tryz.isAgg4
  z4 := Tryz.sizeOf4
  v4 := Tryz.zeroValue4
  t22 := Tryz.underlying54
  a22 := Tryz.isAgg54
  z22 := Tryz.sizeOf54
  v22 := Tryz.zeroValue54
  i3 := by kernel_rfl }
end Go.Proofs.YtbnobjlphmkgeaaGreatDoor
/- Sorting, compacting and turning own rows of ints. -/
namespace Go.Proofs.YtbnobjlphmkgeaaGreatDoor
open Go.RowKit Go.Sort Go.Shelf Go.Lib

theorem take_putCellsZ (enc : Int → Value) (cur : Array Value) (d : Array Int) (h : d.size ≤ cur.size) : (putCells enc 0 d cur).toList.take d.size = d.toList.map enc := by
  apply List.ext_getElem?
  intro j
  by_cases hj : j < d.size
  · rw [List.getElem?_take_of_lt hj, Array.getElem?_toList]
    simp [putCells, hj, show j < cur.size by omega]
  · rw [List.getElem?_take_eq_none (by omega), List.getElem?_eq_none (by simp; omega)]
theorem holdsZ_own {w : World} {base : Nat} {e : TypeId} {g n cap : Nat} {L : List Int} (h : w.ownsRow base e 1 (.slice (some ⟨g, 0, none⟩) n cap) n (L.map (Value.int .i64))) :
    Holds (Value.int .i64) w g 0 L.toArray ∧ g < w.heap.size := by
  rcases h.2 with ⟨h1, _⟩ | ⟨g', cap', cur, he, _, hh, _⟩
  · cases h1
  · injection he with he _ hcap
    injection he with he
    injection he with he
    subst he hcap
    refine ⟨fun j hj => ?_, (Array.getElem?_eq_some_iff.1 hh).1⟩
    have hj' : j < L.length := by simpa using hj
    have := h.cells (g := g) rfl j (.int .i64 L[j]) (by simp [hj'])
    rw [Addr.add_lit] at this
    rw [getElem!_pos _ j hj]
    exact ⟨by simpa using this, by simp [World.frozen?, hh]⟩
theorem own_putZ {w : World} {base : Nat} {e : TypeId} {g n cap m : Nat} {L : List Int} {d : Array Int} {os : Array Obj} (hd : d.size = n) (h : w.ownsRow base e 1 (.slice (some ⟨g, 0, none⟩) n cap) n (L.map (Value.int .i64))) :
    (grow (putRow (Value.int .i64) (Sort.ahead w m) g 0 d) os).ownsRow base e 1 (.slice (some ⟨g, 0, none⟩) n cap) n (d.toList.map (Value.int .i64)) ∧ w.grownBy (grow (putRow (Value.int .i64) (Sort.ahead w m) g 0 d) os) (some g) := by
  rcases h.2 with ⟨h1, _⟩ | ⟨g', cap', cur, he, hb, hh, hc, hm, hz, ht⟩
  · cases h1
  · injection he with he _ hcap
    injection he with he
    injection he with he
    subst he hcap
    have hg : g < w.heap.size := (Array.getElem?_eq_some_iff.1 hh).1
    have hheap : (grow (putRow (Value.int .i64) (Sort.ahead w m) g 0 d) os).heap[g]? = some (.cells (putCells (Value.int .i64) 0 d cur) e (0, 0)) := by
      rw [heap_grow_old _ _ (by simpa [putRow, mapBlock, Sort.ahead] using hg)]
      simp [putRow, mapBlock, Sort.ahead, Array.getElem?_modify, hh, onCells]
    refine ⟨⟨by simp [hd], .inr ⟨g, cap, _, rfl, hb, hheap, hc, hm, by simp [putCells, hz], ?_⟩⟩, ?_⟩
    · rw [Nat.mul_one, ← hd, take_putCellsZ _ _ _ (by omega)]
    · refine ⟨rfl, rfl, rfl, by simp [putRow, mapBlock, Sort.ahead], fun q hq hne => ?_⟩
      rw [heap_grow_old _ _ (by simpa [putRow, mapBlock, Sort.ahead] using hq)]
      have : g ≠ q := fun e => hne (by rw [e])
      simp [putRow, mapBlock, Sort.ahead, Array.getElem?_modify, this]
def sortZ (L : List Int) : List Int := L.mergeSort fun x y => decide (x ≤ y)
theorem sortZ_any (base g n cap : Nat) (L : List Int) (w : World) (hn : L.length = n) (hl : n ≤ 100000) (h : w.ownsRow base 3 1 (.slice (some ⟨g, 0, none⟩) n cap) n (L.map (Value.int .i64))) :
    Calls Tryz.prog 206 #[.slice (some ⟨g, 0, none⟩) n cap] w fun e w' => e = .returned (.tuple #[]) ∧ w'.ownsRow base 3 1 (.slice (some ⟨g, 0, none⟩) n cap) n ((sortZ L).map (Value.int .i64)) ∧ w.grownBy w' (some g) := by
  subst hn
  obtain ⟨hH, hg⟩ := holdsZ_own h
  have hc := AnyM.slices_Sort_int sortI g 0 cap L w hH hg (by omega)
  change Calls Tryz.prog 206 _ _ _ at hc
  refine hc.mono ?_
  rintro e w' ⟨rfl, m, os, rfl⟩
  have h2 := own_putZ (m := m) (os := os) (d := (sortZ L).toArray) (by simp [sortZ]) h
  refine ⟨rfl, ?_, h2.2⟩
  have h3 := h2.1
  rw [List.toList_toArray] at h3
  exact h3
theorem grow_none (w : World) : grow w #[] = w := by
  unfold grow; simp
theorem own_putZ0 {w : World} {base : Nat} {e : TypeId} {g n cap m : Nat} {L : List Int} {d : Array Int} (hd : d.size = n) (h : w.ownsRow base e 1 (.slice (some ⟨g, 0, none⟩) n cap) n (L.map (Value.int .i64))) :
    (putRow (Value.int .i64) (Sort.ahead w m) g 0 d).ownsRow base e 1 (.slice (some ⟨g, 0, none⟩) n cap) n (d.toList.map (Value.int .i64)) ∧ w.grownBy (putRow (Value.int .i64) (Sort.ahead w m) g 0 d) (some g) := by
  have := own_putZ (m := m) (os := #[]) hd h
  rwa [grow_none] at this
theorem own_shrinkZ {w : World} {base : Nat} {e : TypeId} {g n k cap : Nat} {L M : List Int} (hk : k ≤ n) (hM : M.length = k) (h : w.ownsRow base e 1 (.slice (some ⟨g, 0, none⟩) n cap) n ((M ++ L).map (Value.int .i64))) :
    w.ownsRow base e 1 (.slice (some ⟨g, 0, none⟩) k cap) k (M.map (Value.int .i64)) := by
  rcases h.2 with ⟨h1, _⟩ | ⟨g', cap', cur, he, hb, hh, hc, hm, hz, ht⟩
  · cases h1
  · injection he with he _ hcap
    injection he with he
    injection he with he
    subst he hcap
    refine ⟨by simp [hM], .inr ⟨g, cap, cur, rfl, hb, hh, by omega, hm, hz, ?_⟩⟩
    have h3 := congrArg (List.take k) ht
    have h4 : List.take k (M.map (Value.int .i64)) = M.map (Value.int .i64) := List.take_of_length_le (by simp [hM])
    rw [List.take_take, Nat.mul_one, Nat.min_eq_left hk, List.map_append, List.take_append_of_le_length (by simp [hM]), h4] at h3
    rw [Nat.mul_one]
    exact h3
theorem compact_le (L : List Int) : (Lib.compact L).length ≤ L.length := by
  unfold Lib.compact Lib.compactUpTo
  rw [List.length_map]
  refine Nat.le_trans (List.length_filter_le ..) ?_
  simp
theorem compactZ_any (base g n cap : Nat) (L : List Int) (w : World) (hn : L.length = n) (hl : n ≤ 100000) (hcap : n ≤ cap) (h : w.ownsRow base 3 1 (.slice (some ⟨g, 0, none⟩) n cap) n (L.map (Value.int .i64))) :
    Calls Tryz.prog 207 #[.slice (some ⟨g, 0, none⟩) n cap] w fun e w' => e = .returned (.slice (some ⟨g, 0, none⟩) (Lib.compact L).length cap) ∧ w'.ownsRow base 3 1 (.slice (some ⟨g, 0, none⟩) (Lib.compact L).length cap) (Lib.compact L).length ((Lib.compact L).map (Value.int .i64)) ∧ w.grownBy w' (some g) := by
  subst hn
  obtain ⟨hH, hg⟩ := holdsZ_own h
  have hle := compact_le L
  have hc := Any.slices_Compact_int compactI g 0 cap L w hH (by omega) hcap
  change Calls Tryz.prog 207 _ _ _ at hc
  refine hc.mono ?_
  rintro e w' ⟨rfl, q, rfl⟩
  have h2 := own_putZ0 (m := q) (d := (Lib.compact L ++ List.replicate (L.length - (Lib.compact L).length) 0).toArray) (by simp; omega) h
  refine ⟨rfl, ?_, h2.2⟩
  have h3 := h2.1
  rw [List.toList_toArray] at h3
  exact own_shrinkZ hle rfl h3
end Go.Proofs.YtbnobjlphmkgeaaGreatDoor
/- Sorting, compacting and turning own rows of numbers. -/
namespace Go.Proofs.YtbnobjlphmkgeaaGreatDoor
open Go.RowKit Go.Sort Go.Shelf Go.Lib

theorem ncell_map (L : List Nat) : L.flatMap ncell = (L.map fun i : Nat => (i : Int)).map (Value.int .i64) := by
  rw [List.map_map, List.map_eq_flatMap]; rfl
theorem sortZ_cast (L : List Nat) : sortZ (L.map fun i : Nat => (i : Int)) = (sortNat L).map fun i : Nat => (i : Int) := by
  unfold sortZ sortNat
  rw [List.map_mergeSort]
  intro a _ b _
  simp
theorem sortNat_any (base n : Nat) (v : Value) (L : List Nat) (w : World) (hn : L.length = n) (hl : n ≤ 100000) (h : w.ownsRow base 3 1 v n (L.flatMap ncell)) :
    Calls Tryz.prog 206 #[v] w fun e w' => e = .returned (.tuple #[]) ∧ w'.ownsRow base 3 1 v n ((sortNat L).flatMap ncell) ∧ w.grownBy w' v.ownBlock := by
  rcases h.2 with ⟨rfl, h0⟩ | ⟨g, cap, cur, rfl, -⟩
  · have hL : L = [] := List.eq_nil_of_length_eq_zero (by omega)
    subst hL h0
    have hc := AnyM.slices_Sort_int_none sortI none 0 w
    change Calls Tryz.prog 206 _ _ _ at hc
    refine hc.mono ?_
    rintro e w' ⟨rfl, rfl⟩
    exact ⟨rfl, by rw [show sortNat [] = [] by simp [sortNat]]; exact h, World.grownBy.refl _ _⟩
  · have h' := h
    rw [ncell_map] at h'
    have hc := sortZ_any base g n cap _ w (by simpa using hn) hl h'
    refine hc.mono ?_
    rintro e w' ⟨rfl, h1, h2⟩
    rw [sortZ_cast, ← ncell_map] at h1
    exact ⟨rfl, h1, h2⟩
theorem compact_none (w : World) : Calls Tryz.prog 207 #[.slice none 0 0] w fun e w' => e = .returned (.slice none 0 0) ∧ w = w' := by
  go_enter Tryz.func207, Tryz.ntmps207
  go_wp2_with fail
  go_ret
  exact ⟨rfl, rfl⟩
theorem compactNat_any (base n : Nat) (v : Value) (L : List Nat) (w : World) (hn : L.length = n) (hl : n ≤ 100000) (h : w.ownsRow base 3 1 v n ((sortNat L).flatMap ncell)) :
    Calls Tryz.prog 207 #[v] w fun e w' => ∃ v', e = .returned v' ∧ w'.ownsRow base 3 1 v' (dedup (sortNat L)).length ((dedup (sortNat L)).flatMap ncell) ∧ w.grownBy w' v.ownBlock ∧ v'.ownBlock = v.ownBlock := by
  rcases h.2 with ⟨rfl, h0⟩ | ⟨g, cap, cur, rfl, -, -, hcap, -⟩
  · have hL : L = [] := List.eq_nil_of_length_eq_zero (by omega)
    subst hL h0
    have hs : sortNat [] = [] := by unfold sortNat; simp
    rw [hs] at h ⊢
    refine (compact_none w).mono ?_
    rintro e w' ⟨rfl, rfl⟩
    exact ⟨_, rfl, h, World.grownBy.refl _ _, rfl⟩
  · have h' := h
    rw [ncell_map] at h'
    have hc := compactZ_any base g n cap _ w (by rw [List.length_map, sortNat_len]; exact hn) hl hcap h'
    refine hc.mono ?_
    rintro e w' ⟨rfl, h1, h2⟩
    rw [compact_cast] at h1 ⊢
    rw [List.length_map, ← ncell_map] at h1
    rw [List.length_map]
    exact ⟨_, rfl, h1, h2, rfl⟩
end Go.Proofs.YtbnobjlphmkgeaaGreatDoor
