/- Contracts and plain laws, put together: RefS2, RefS3, RefXP, RefX1, RefX2, RefX3, RefX4, MoveRoomP, SameP, MoveKeepsP, Open5, MoveRoom1, Same2, DiffA, DiffA1, Same3, MoveKeeps1, MoveTells1. -/
import Derived.Test.YtecjjhfaljdcpaaGreatMoveTellsFrameM4
import Derived.Deep.LoopGhost
import Derived.BigQuiet
import Derived.Deep.RegionHeld3
import Derived.Deep.AppendLies
import Derived.Test.YtecjjhfaljdcpaaGreatMoveTellsFrameM3
import Derived.Test.YtecjjhfaljdcpaaGreatMoveTellsFrameM1
import Derived.Deep.DeepCutAuto
import Derived.Deep.CutBlock
import Derived.StillTailTactics
import Derived.Test.YtecjjhfaljdcpaaGreatMoveTellsFrameM2
/- The reference on heaps: Taken, Step. -/
namespace Go.Proofs.YtecjjhfaljdcpaaGreat
open Go.RowKit

set_option maxRecDepth 100000 in
theorem rtaken_ok (A : Option Addr) (n c : Nat) (l : Bytes) (w : World) (hn : l.length = n) (hr : rightB n = true) (hnc : n ≤ c) (hrd : Rd w A l) :
    Calls Tryz.prog 23 #[.slice A n c] w fun e w' => ∃ A' c', e = .returned (.slice A' (takenL l).length c') ∧ (takenL l).length ≤ c' ∧ RdX tcells 2 w' A' (takenL l) ∧ Below w.heap.size w w' := by
  obtain ⟨i0, hi0, hz0, hz1, hz2⟩ := info_parts extent_info
  have HI := Hidden.mk (And.intro hi0 (And.intro hz0 (And.intro hz1 hz2)))
  have HC := Hidden.mk (refEntries_ok A n c l w hn hr hnc hrd)
  have HT : Hidden (takenL l = (entriesL l).map takeX) := ⟨rfl⟩
  have hle : (entriesL l).length ≤ 40 := entsL_len _ _ 40
  generalize takenL l = TK at *
  generalize entriesL l = E at *
  clear hi0 hz0 hz1 hz2 hn hr hnc hrd
  go_enter Tryz.func23, Tryz.ntmps23
  go_wp2_with fail
  refine HC.out.mono ?_
  rintro e w1 ⟨v, rfl, hown, hb1⟩
  obtain ⟨A1, c1, rfl, hc1, -⟩ := own_split hown
  have HR := Hidden.mk (own_rdX3 (f := ecells) (fun _ => rfl) rfl hown)
  have HB := Hidden.mk hb1
  generalize hm : E.length = m at *
  have HM := Hidden.mk hm
  clear hown hb1 HC hm
  go_wp2_with fail
  go_loopg [3, 5] m (fun q v i wr => ∃ k : Nat, k ≤ m ∧ q = m - k ∧ i = .int .i64 (k : Int) ∧ Hidden (Below w1.heap.size w1 wr ∧ wr.ownsRow w1.heap.size 92 2 v k (((E.take k).map takeX).flatMap tcells)))
  case atStart => exact ⟨0, by omega, rfl, rfl, ⟨Below.refl _ _, World.ownsRow_nil _ _ _ _⟩⟩
  case round =>
    obtain ⟨k, hk, rfl, rfl, hst⟩ := hrel
    by_cases hlt : k < m
    · have hkE : k < E.length := by have := HM.out; omega
      obtain ⟨p, off, rfl, hcx⟩ := HR.out k hkE
      have x1 := hcx 1 _ rfl
      have x2 := hcx 2 _ rfl
      have HS : Hidden ((E.take (k + 1)).map takeX = (E.take k).map takeX ++ [takeX E[k]]) := ⟨by rw [List.take_succ_eq_append_getElem hkE, List.map_append]; rfl⟩
      have b1 := rAt_le E[k].2
      have b2 := rLen_le E[k].2
      have HX : Hidden (takeX E[k] = ((rAt E[k].2 : Int) - 288, (rLen E[k].2 : Int))) := ⟨rfl⟩
      generalize takeX E[k] = tx at *
      generalize rAt E[k].2 = e1 at *
      generalize rLen E[k].2 = e2 at *
      have s1 : IntKind.i64.wrap ((e1 : Int) - 288) = (e1 : Int) - 288 := IntWalk.i64_in _ (by omega)
      have s3 : IntKind.i64.wrap ((k : Int) + 1) = (k : Int) + 1 := IntWalk.i64_in _ (by omega)
      have k0 : (0 : Int) ≤ k := by omega
      have k1 : (k : Int) < m := by omega
      have HN : Hidden (Below w1.heap.size w1 wr.drew ∧ wr.drew.ownsRow w1.heap.size 92 2 u3 k (((E.take k).map takeX).flatMap tcells)) := ⟨hst.out.1.drew, own_below hst.out.2 (Below.refl _ _).drew⟩
      have KX : Hidden (∀ W, Below w1.heap.size w1 W → W.cell? ⟨p, off + k * 4 + 1, none⟩ = some (.int .i64 e1) ∧ W.cell? ⟨p, off + k * 4 + 2, none⟩ = some (.int .i64 e2)) := ⟨fun W hW => ⟨(hW.cell (p := ⟨p, off + k * 4 + 1, none⟩) (block_lt_of_cell x1)).trans x1, (hW.cell (p := ⟨p, off + k * 4 + 2, none⟩) (block_lt_of_cell x2)).trans x2⟩⟩
      obtain ⟨y1, y2⟩ := KX.out wr hst.out.1
      obtain ⟨hi0, hz0, hz1, hz2⟩ := HI.out
      have HZ : Hidden (w1.heap.size ≤ wr.heap.size) := ⟨hst.out.1.size⟩
      clear hcx hst x1 x2
      go_upto_region 6 with (fail)
      go_region_held3 (fun W => W.cell? ⟨p, off + k * 4 + 1, none⟩ = some (.int .i64 e1) ∧ W.cell? ⟨p, off + k * 4 + 2, none⟩ = some (.int .i64 e2)) (first | exact ⟨y1, y2⟩ | exact KX.out _ HN.out.1 | exact KX.out _ (HN.out.1.alloc HN.out.1.size _) | exact hk8) ((refine step_append_lies _ (by rfl) _ _ _ (by rfl) w1.heap.size 92 i0 _ 2 16 Tryz.underlying57 hi0 hz0 hz1 hz2 rfl (by omega) u3 k _ (by rfl) (own_below HN.out.2 ((Below.refl _ _).alloc (Nat.le_refl _) _)) ⟨wr.heap.size, 0, none⟩ 1 1 [.int .i64 ((e1 : Int) - 288), .int .i64 e2] (by rfl) (by rfl) (World.news_of_block (cs := #[.int .i64 ((e1 : Int) - 288), .int .i64 e2]) (t := 92) (fr := (0, 0)) (heap_alloc_new wr.drew _)) (by simp [Value.oneCell']) (by omega) (by simp only [maxLen]; omega) (by omega) (by have hz_ := HZ.out; simp; omega) (wr.heap.size + 1) (by simp) ?_; intro g8 cap8 w8 hown8 hg8 hat8 hlt8; have hgW := grown_trans' ((Below.refl wr.drew.heap.size wr.drew).alloc (Nat.le_refl _) _) hg8; have hB8 : Below w1.heap.size w1 w8 := HN.out.1.grown hgW HN.out.1.size (fun q hq => (HN.out.2.lt q hq).1); have hk8 := KX.out w8 hB8))
      have HF : Hidden (Below w1.heap.size w1 w8 ∧ w8.ownsRow w1.heap.size 92 2 (.slice (some ⟨g8, 0, none⟩) (k + 1) cap8) (k + 1) (((E.take (k + 1)).map takeX).flatMap tcells)) := ⟨hB8, by rw [HS.out, HX.out]; simpa [tcells] using hown8⟩
      go_wp2_with fail
      clear hk8 hgW hB8 hown8 hg8 hat8 hlt8 hi0 hz0 hz1 hz2
      go_roundg (m - (k + 1))
      case measure => omega
      case rel => exact ⟨k + 1, by omega, rfl, by go_num, HF⟩
    · obtain rfl : m = k := by omega
      have hT := hst.out.2
      rw [List.take_of_length_le (by have := HM.out; omega), ← HT.out] at hT
      have HL : Hidden (TK.length = m) := ⟨by rw [HT.out, List.length_map]; exact HM.out⟩
      obtain ⟨A3, c3, rfl, hc3, -⟩ := own_split hT
      have HF : Hidden (RdX tcells 2 wr A3 TK ∧ Below w.heap.size w wr) := ⟨own_rdX3 tcells_len HL.out hT, HB.out.trans (hst.out.1.mono HB.out.size)⟩
      clear hT hst
      go_wp2_with fail
      go_ret
      exact ⟨A3, c3, by rw [HL.out]; rfl, by rw [HL.out]; exact hc3, HF.out.1, HF.out.2⟩
end Go.Proofs.YtecjjhfaljdcpaaGreat
/- The reference's Step of moving. -/
namespace Go.Proofs.YtecjjhfaljdcpaaGreat
open Go.RowKit

def bH : Option Ent → Int
  | none => 0
  | some x => x.1
def bA : Option Ent → Nat
  | none => 0
  | some x => rAt x.2
def bL : Option Ent → Nat
  | none => 0
  | some x => rLen x.2
def bT : Option Ent → Int
  | none => 0
  | some x => rTag x.2
def FourB (w : World) (g : Nat) (a b c d : Int) : Prop := w.heap[g]? = some (.cells #[.int .i64 a, .int .i64 b, .int .i64 c, .int .i64 d] 94 (0, 0))
theorem FourB.get {w : World} {g : Nat} {a b c d : Int} (h : FourB w g a b c d) : FourAt w g a b c d ∧ ∀ q, w.frozen? ⟨g, q, none⟩ = false := by
  refine ⟨?_, fun q => frozen_of_row _ _ q _ _ h⟩
  unfold FourAt
  simp only [World.cell?]
  rw [h]
  exact ⟨rfl, rfl, rfl, rfl⟩
theorem FourB.set {w : World} {g : Nat} {a b c d : Int} (h : FourB w g a b c d) (x0 x1 x2 x3 : Int) :
    FourB ((((w.setCell ⟨g, 0, none⟩ (.int .i64 x0)).setCell ⟨g, 1, none⟩ (.int .i64 x1)).setCell ⟨g, 2, none⟩ (.int .i64 x2)).setCell ⟨g, 3, none⟩ (.int .i64 x3)) g x0 x1 x2 x3 := by
  have e0 : (w.setCell ⟨g, 0, none⟩ (.int .i64 x0)).heap[g]? = _ := heap_setK h _
  have e1 := heap_setK (k := 1) e0 (.int .i64 x1)
  have e2 := heap_setK (k := 2) e1 (.int .i64 x2)
  exact heap_setK (k := 3) e2 (.int .i64 x3)
theorem FourB.set1 {w : World} {g : Nat} {a b c d : Int} (h : FourB w g a b c d) (x : Int) : FourB (w.setCell ⟨g, 1, none⟩ (.int .i64 x)) g a x c d := heap_setK (k := 1) h _
/-- all but one block is as it was -/
abbrev But (g : Nat) (w w' : World) : Prop := Keep (fun k => k = g) w w'
theorem But.four {g : Nat} {w w' : World} (h : But g w w') (a b c d : Value) : But g w ((((w'.setCell ⟨g, 0, none⟩ a).setCell ⟨g, 1, none⟩ b).setCell ⟨g, 2, none⟩ c).setCell ⟨g, 3, none⟩ d) :=
  (((h.setCell (p := ⟨g, 0, none⟩) (.inl rfl) _).setCell (p := ⟨g, 1, none⟩) (.inl rfl) _).setCell (p := ⟨g, 2, none⟩) (.inl rfl) _).setCell (p := ⟨g, 3, none⟩) (.inl rfl) _
theorem own_far {X : Type} {f : X → List Value} {C : Nat} {w : World} {base : Nat} {e : TypeId} {A : Option Addr} {n c g : Nat} {L : List X} (hC : ∀ x, (f x).length = C) (hn : L.length = n) (h : w.ownsRow base e C (.slice A n c) n (L.flatMap f)) (hg : g < base) (W : World) (hW : But g w W) : RdX f C W A L := by
  refine (own_rdX3 hC hn h).block fun ad he hlt => hW.block _ hlt ?_
  rcases h.2 with ⟨he', _⟩ | ⟨g', cap, cur, he', hb, _⟩
  · injection he' with h1; rw [h1] at he; cases he
  · injection he' with h1
    rw [h1] at he
    have := Option.some.inj he
    subst this
    dsimp only; omega
set_option maxRecDepth 100000 in
set_option maxHeartbeats 1000000 in
theorem rstep_any (p off n c : Nat) (l : Bytes) (w : World) (hn : l.length = n) (hg : Good l) (hnc : n ≤ c) (hrd : Rd w (some ⟨p, off, none⟩) l) :
    Calls Tryz.prog 25 #[.slice (some ⟨p, off, none⟩) n c] w fun e w' => ∃ p' o' c', e = .returned (.tuple #[.slice (some ⟨p', o', none⟩) n c', .bool (stepB l)]) ∧ n ≤ c' ∧ (p' = p ∨ w.heap.size ≤ p') ∧ Rd w' (some ⟨p', o', none⟩) (stepL l) ∧ Below w.heap.size w w' := by
  have hbd := hg.bd
  have hr : rightB n = true := rightB_true.2 (by omega)
  have HE : Hidden (∀ W, Below w.heap.size w W → Calls Tryz.prog 67 #[.slice (some ⟨p, off, none⟩) n c] W fun e w' => ∃ v, e = .returned v ∧ w'.ownsRow W.heap.size 94 4 v (entriesL l).length ((entriesL l).flatMap ecells) ∧ Below W.heap.size W w') := ⟨fun W hW => refEntries_ok _ n c l W hn hr hnc (hrd.below hW)⟩
  have HO : Hidden (∀ (W : World) (k : Nat), k < 40 → Below w.heap.size w W → Calls Tryz.prog 34 #[.slice (some ⟨p, off, none⟩) n c, .int .i64 ((k : Int) + 1)] W fun e w' => e = .returned (.tuple #[.int .i64 (objT l k), sv (objS l k)]) ∧ Below W.heap.size W w') := ⟨fun W k hk hW => refObj_ok p off n c l k W hn hg hnc (hrd.below hW) hk⟩
  have HSL : Hidden (Stands l 0 288) := ⟨stands_start hg⟩
  have HGD := Hidden.mk hg
  have HRD := Hidden.mk hrd
  have HM : Hidden ((sortM l).length = (entriesL l).length) := ⟨(sortM_perm l).length_eq⟩
  have hle : (entriesL l).length ≤ 40 := entsL_len _ _ 40
  have HEM : Hidden (∀ x ∈ entriesL l, 1 ≤ x.1) := ⟨fun x hx => by
    obtain ⟨k, -, -, e⟩ := entL_mem.1 hx
    rw [e]; dsimp only; omega⟩
  have HLN := Hidden.mk hn
  generalize hm : (entriesL l).length = m at *
  have HMM := Hidden.mk hm
  clear hrd hg hr hm
  go_enter Tryz.func25, Tryz.ntmps25
  go_wp2_with fail
  go_loopg [4] m (fun q av wr => ∃ (k a : Nat), k ≤ m ∧ q = m - k ∧ av = .int .i64 (a : Int) ∧ a ≤ 140000 * (k + 1) ∧ Hidden (Stands l k a ∧ Below w.heap.size w wr))
  case atStart => exact ⟨0, 288, by omega, rfl, rfl, by omega, ⟨HSL.out, Below.refl _ _⟩⟩
  case round =>
    obtain ⟨k, a, hk, rfl, rfl, ha, hst⟩ := hrel
    have HST := Hidden.mk hst.out.1
    have HB0 : Hidden (Below w.heap.size w (wr.alloc (.cells #[.int .i64 0, .int .i64 0, .int .i64 0, .int .i64 0] 94)) ∧ w.heap.size ≤ wr.heap.size) := ⟨hst.out.2.alloc hst.out.2.size _, hst.out.2.size⟩
    have HBK0 : Hidden (FourB (wr.alloc (.cells #[.int .i64 0, .int .i64 0, .int .i64 0, .int .i64 0] 94)) wr.heap.size 0 0 0 0) := ⟨heap_alloc_new wr _⟩
    clear hst
    go_wp2_with fail
    have HSZ : Hidden ((wr.alloc (.cells #[.int .i64 0, .int .i64 0, .int .i64 0, .int .i64 0] 94)).heap.size = wr.heap.size + 1) := ⟨by simp⟩
    generalize wr.alloc (.cells #[.int .i64 0, .int .i64 0, .int .i64 0, .int .i64 0] 94) = wa at *
    generalize wr.heap.size = bb at *
    refine (HE.out wa HB0.out.1).mono ?_
    rintro e w1 ⟨v, rfl, hown, hb1⟩
    obtain ⟨A1, c1, rfl, hc1, -⟩ := own_split hown
    have HR : Hidden (∀ W, But bb w1 W → RdX ecells 4 W A1 (entriesL l)) := ⟨fun W hW => own_far (f := ecells) (fun _ => rfl) HMM.out hown (by have := HSZ.out; omega) W hW⟩
    have HB1 : Hidden (Below w.heap.size w w1) := ⟨HB0.out.1.trans (hb1.mono HB0.out.1.size)⟩
    have HBK1 : Hidden (FourB w1 bb 0 0 0 0) := ⟨(hb1.block _ (by have := HSZ.out; omega)).trans HBK0.out⟩
    have HBB : Hidden (w.heap.size ≤ bb) := ⟨HB0.out.2⟩
    have HBE := Hidden.mk (fun k' hk' => bestM_succ a (entriesL l) k' hk')
    have HBF := Hidden.mk (bestM_spec a (entriesL l))
    clear hown hb1 HSZ HB0 HBK0
    go_wp2_with fail
    go_loopg [7] m (fun q iv wr => ∃ (j : Nat), j ≤ m ∧ q = m - j ∧ iv = .int .i64 (j : Int) ∧ Hidden (But bb w1 wr ∧ FourB wr bb (bH (bestM a ((entriesL l).take j))) (bA (bestM a ((entriesL l).take j))) (bL (bestM a ((entriesL l).take j))) (bT (bestM a ((entriesL l).take j)))))
    case atStart => exact ⟨0, by omega, rfl, rfl, ⟨Keep.refl _ _, HBK1.out⟩⟩
    case round =>
      obtain ⟨j, hj, rfl, rfl, hst⟩ := hrel
      by_cases hlt : j < m
      · have hjE : j < (entriesL l).length := by rw [HMM.out]; exact hlt
        obtain ⟨pp, oo, rfl, hcx⟩ := (HR.out _ hst.out.1) j hjE
        have x0 := hcx 0 _ rfl
        have x1 := hcx 1 _ rfl
        have x2 := hcx 2 _ rfl
        have x3 := hcx 3 _ rfl
        rw [Nat.add_zero] at x0
        have hup := HBE.out j hjE
        have hxm : ∀ x, bestM a ((entriesL l).take j) = some x → 1 ≤ x.1 := fun x hx => by
          rcases HBF.out j (by omega) with ⟨h1, _⟩ | ⟨y, h0, h1, _⟩
          · rw [h1] at hx; cases hx
          · rw [h1] at hx
            have := Option.some.inj hx
            subst this
            exact HEM.out _ (List.mem_of_mem_take h0)
        have HBT := Hidden.mk hst.out
        generalize bestM a ((entriesL l).take j) = bo at *
        generalize hbn0 : bestM a ((entriesL l).take (j + 1)) = bn at *
        have HBN := Hidden.mk hbn0
        clear hbn0
        generalize (entriesL l)[j] = e at *
        have be1 := rAt_le e.2
        obtain ⟨⟨b0, b1, b2, b3⟩, bf⟩ := HBT.out.2.get
        have bf0 := bf 0
        have bf1 := bf 1
        have bf2 := bf 2
        have bf3 := bf 3
        have i0 : (0 : Int) ≤ j := by omega
        have i1 : (j : Int) < m := by omega
        have s3 : IntKind.i64.wrap ((j : Int) + 1) = (j : Int) + 1 := IntWalk.i64_in _ (by omega)
        have HFS : Hidden (bn = some e → ∀ W, But bb w1 W → FourB W bb (bH bo) (bA bo) (bL bo) (bT bo) → But bb w1 ((((W.setCell ⟨bb, 0, none⟩ (.int .i64 e.1)).setCell ⟨bb, 1, none⟩ (.int .i64 (rAt e.2))).setCell ⟨bb, 2, none⟩ (.int .i64 (rLen e.2))).setCell ⟨bb, 3, none⟩ (.int .i64 (rTag e.2))) ∧ FourB ((((W.setCell ⟨bb, 0, none⟩ (.int .i64 e.1)).setCell ⟨bb, 1, none⟩ (.int .i64 (rAt e.2))).setCell ⟨bb, 2, none⟩ (.int .i64 (rLen e.2))).setCell ⟨bb, 3, none⟩ (.int .i64 (rTag e.2))) bb (bH bn) (bA bn) (bL bn) (bT bn)) := ⟨fun h W hW hF => ⟨hW.four _ _ _ _, by rw [h]; exact hF.set _ _ _ _⟩⟩
        have HNO : Hidden (bn = bo → ∀ q, But bb w1 (wr.drewN q) ∧ FourB (wr.drewN q) bb (bH bn) (bA bn) (bL bn) (bT bn)) := ⟨fun h q => ⟨HBT.out.1.drewN _, by rw [h]; exact HBT.out.2⟩⟩
        have HYES : Hidden (∀ q, But bb w1 (wr.drewN q) ∧ FourB (wr.drewN q) bb (bH bo) (bA bo) (bL bo) (bT bo)) := ⟨fun q => ⟨HBT.out.1.drewN _, HBT.out.2⟩⟩
        clear hcx hst HBT bf
        cases bo with
        | none =>
          change wr.cell? ⟨bb, 0, none⟩ = some (.int .i64 0) at b0
          change wr.cell? ⟨bb, 1, none⟩ = some (.int .i64 0) at b1
          by_cases hc : a ≤ rAt e.2
          · have hbn : bn = some e := by rw [hup]; unfold upB; simp [hc]
            have d1 : decide ((a : Int) ≤ (rAt e.2 : Int)) = true := by simp; omega
            have d1' : decide (a ≤ rAt e.2) = true := by simpa using hc
            clear hc
            have HF1 := Hidden.mk (HFS.out hbn)
            generalize e.1 = e0 at *
            generalize rAt e.2 = e1 at *
            generalize rLen e.2 = e2 at *
            generalize rTag e.2 = e3 at *
            clear HNO HFS hbn hup hxm
            go_upto_region 7 with (fail)
            go_quiet (fail)
            have y0 : (wr.drewN nq).cell? ⟨pp, oo + j * 4, none⟩ = some (.int .i64 e0) := x0
            have y1 : (wr.drewN nq).cell? ⟨pp, oo + j * 4 + 1, none⟩ = some (.int .i64 e1) := x1
            have y2 : (wr.drewN nq).cell? ⟨pp, oo + j * 4 + 2, none⟩ = some (.int .i64 e2) := x2
            have y3 : (wr.drewN nq).cell? ⟨pp, oo + j * 4 + 3, none⟩ = some (.int .i64 e3) := x3
            have HQ := Hidden.mk (HF1.out _ (HYES.out nq).1 (HYES.out nq).2)
            obtain ⟨⟨z0, z1, z2, z3⟩, zf⟩ := (HYES.out nq).2.get
            have zf0 := zf 0
            have zf1 := zf 1
            have zf2 := zf 2
            have zf3 := zf 3
            clear x0 x1 x2 x3 zf HF1 HYES b0 b1 b2 b3 bf0 bf1 bf2 bf3
            generalize wr.drewN nq = wd at *
            go_wp2_with fail
            go_roundg (m - (j + 1))
            case measure => omega
            case rel => exact ⟨j + 1, by omega, rfl, by go_num, ⟨by rw [HBN.out]; exact HQ.out⟩⟩
          · have hbn : bn = none := by rw [hup]; unfold upB; simp [hc]
            have d1 : decide ((a : Int) ≤ (rAt e.2 : Int)) = false := by simp; omega
            have d1' : decide (a ≤ rAt e.2) = false := by simpa using hc
            clear hc
            have HF1 := Hidden.mk (HNO.out hbn)
            generalize e.1 = e0 at *
            generalize rAt e.2 = e1 at *
            generalize rLen e.2 = e2 at *
            generalize rTag e.2 = e3 at *
            clear HNO HFS hbn hup hxm
            go_upto_region 7 with (fail)
            go_quiet (fail)
            have HQ := Hidden.mk (HF1.out nq)
            clear x0 x1 x2 x3 HF1 HYES b0 b1 b2 b3 bf0 bf1 bf2 bf3
            generalize wr.drewN nq = wd at *
            go_wp2_with fail
            go_roundg (m - (j + 1))
            case measure => omega
            case rel => exact ⟨j + 1, by omega, rfl, by go_num, ⟨by rw [HBN.out]; exact HQ.out⟩⟩
        | some x =>
          change wr.cell? ⟨bb, 0, none⟩ = some (.int .i64 x.1) at b0
          change wr.cell? ⟨bb, 1, none⟩ = some (.int .i64 (rAt x.2 : Int)) at b1
          have hx1 := hxm x rfl
          have dx : decide (x.1 = 0) = false := by simp; omega
          have dx' : (x.1 == 0) = false := by simp; omega
          by_cases hc : a ≤ rAt e.2
          · have d1 : decide ((a : Int) ≤ (rAt e.2 : Int)) = true := by simp; omega
            have d1' : decide (a ≤ rAt e.2) = true := by simpa using hc
            by_cases hc2 : rAt e.2 < rAt x.2
            · have hbn : bn = some e := by rw [hup]; unfold upB; simp [hc, hc2]
              have d2 : decide ((rAt e.2 : Int) < (rAt x.2 : Int)) = true := by simp; omega
              have d2' : decide (rAt e.2 < rAt x.2) = true := by simpa using hc2
              clear hc hc2
              have HF1 := Hidden.mk (HFS.out hbn)
              generalize e.1 = e0 at *
              generalize rAt e.2 = e1 at *
              generalize rLen e.2 = e2 at *
              generalize rTag e.2 = e3 at *
              clear HNO HFS hbn hup hxm
              go_upto_region 7 with (fail)
              go_quiet (fail)
              have y0 : (wr.drewN nq).cell? ⟨pp, oo + j * 4, none⟩ = some (.int .i64 e0) := x0
              have y1 : (wr.drewN nq).cell? ⟨pp, oo + j * 4 + 1, none⟩ = some (.int .i64 e1) := x1
              have y2 : (wr.drewN nq).cell? ⟨pp, oo + j * 4 + 2, none⟩ = some (.int .i64 e2) := x2
              have y3 : (wr.drewN nq).cell? ⟨pp, oo + j * 4 + 3, none⟩ = some (.int .i64 e3) := x3
              have HQ := Hidden.mk (HF1.out _ (HYES.out nq).1 (HYES.out nq).2)
              obtain ⟨⟨z0, z1, z2, z3⟩, zf⟩ := (HYES.out nq).2.get
              have zf0 := zf 0
              have zf1 := zf 1
              have zf2 := zf 2
              have zf3 := zf 3
              clear x0 x1 x2 x3 zf HF1 HYES b0 b1 b2 b3 bf0 bf1 bf2 bf3
              generalize wr.drewN nq = wd at *
              go_wp2_with fail
              go_roundg (m - (j + 1))
              case measure => omega
              case rel => exact ⟨j + 1, by omega, rfl, by go_num, ⟨by rw [HBN.out]; exact HQ.out⟩⟩
            · have hbn : bn = some x := by rw [hup]; unfold upB; simp [hc2]
              have d2 : decide ((rAt e.2 : Int) < (rAt x.2 : Int)) = false := by simp; omega
              have d2' : decide (rAt e.2 < rAt x.2) = false := by simpa using hc2
              clear hc hc2
              have HF1 := Hidden.mk (HNO.out hbn)
              generalize e.1 = e0 at *
              generalize rAt e.2 = e1 at *
              generalize rLen e.2 = e2 at *
              generalize rTag e.2 = e3 at *
              clear HNO HFS hbn hup hxm
              go_upto_region 7 with (fail)
              go_quiet (fail)
              have HQ := Hidden.mk (HF1.out nq)
              clear x0 x1 x2 x3 HF1 HYES b0 b1 b2 b3 bf0 bf1 bf2 bf3
              generalize wr.drewN nq = wd at *
              go_wp2_with fail
              go_roundg (m - (j + 1))
              case measure => omega
              case rel => exact ⟨j + 1, by omega, rfl, by go_num, ⟨by rw [HBN.out]; exact HQ.out⟩⟩
          · have hbn : bn = some x := by rw [hup]; unfold upB; simp [hc]
            have d1 : decide ((a : Int) ≤ (rAt e.2 : Int)) = false := by simp; omega
            have d1' : decide (a ≤ rAt e.2) = false := by simpa using hc
            clear hc
            have HF1 := Hidden.mk (HNO.out hbn)
            generalize e.1 = e0 at *
            generalize rAt e.2 = e1 at *
            generalize rLen e.2 = e2 at *
            generalize rTag e.2 = e3 at *
            clear HNO HFS hbn hup hxm
            go_upto_region 7 with (fail)
            go_quiet (fail)
            have HQ := Hidden.mk (HF1.out nq)
            clear x0 x1 x2 x3 HF1 HYES b0 b1 b2 b3 bf0 bf1 bf2 bf3
            generalize wr.drewN nq = wd at *
            go_wp2_with fail
            go_roundg (m - (j + 1))
            case measure => omega
            case rel => exact ⟨j + 1, by omega, rfl, by go_num, ⟨by rw [HBN.out]; exact HQ.out⟩⟩
      · have hjm : j = m := by omega
        have hs2 := hst.out
        rw [hjm, List.take_of_length_le (by rw [HMM.out]; exact Nat.le_refl _)] at hs2
        have HBW : Hidden (Below w.heap.size w wr) := ⟨HB1.out.trans (hs2.1.below HB1.out.size (fun k e => by rw [e]; exact HBB.out))⟩
        have dj : decide ((j : Int) < (m : Int)) = false := by simp; omega
        have dj' : decide (j < m) = false := by simp; omega
        clear hst HBF HBE HEM HR hlt HBK1 HB1
        by_cases hkm : k < m
        · have hks : k < (sortM l).length := by rw [HM.out]; exact hkm
          obtain ⟨q1, q2, q3, q4, q5⟩ := HST.out.some hks
          obtain ⟨q, hq, hh, hxe⟩ := entL_mem.1 q2
          rw [q1, hxe] at hs2
          rw [hxe] at q4 q5
          have HF0 : Hidden (FourB wr bb ((q : Int) + 1) (rAt (rawE l q)) (rLen (rawE l q)) (rTag (rawE l q))) := ⟨hs2.2⟩
          obtain ⟨⟨b0, b1, b2, b3⟩, bf⟩ := HF0.out.get
          have dz : decide ((q : Int) + 1 = 0) = false := by simp; omega
          have dz' : (((q : Int) + 1) == 0) = false := by simp; omega
          have bnd1 := rAt_le (rawE l q)
          have bnd2 := rLen_le (rawE l q)
          have Q4 := Hidden.mk q4
          have Q5 := Hidden.mk q5
          clear hs2 q1 q2 q3 q4 q5 hxe bf hks
          by_cases hgt : a < rAt (rawE l q)
          · have hgap := Q4.out hgt
            obtain ⟨g1, -, -⟩ := gapM_ge (tidy_sortM HGD.out) hgap
            have hin := strayE_false (HGD.out.s.fit q hq hh)
            have HSB : Hidden (stepB l = true) := ⟨by unfold stepB; rw [hgap]; rfl⟩
            have HS1 : Hidden (stepL l = splice (putEnt l ((q : Int) + 1) (a : Int) (rLen (rawE l q) : Int) (rTag (rawE l q))) a (objS l q)) := ⟨by
              rw [stepL_some hgap, show ((((q : Int) + 1, rawE l q) : Ent).1 - 1).toNat = q by dsimp only; omega]
              unfold moveL putEnt objS
              rw [entO_k, if_pos hh]
              rfl⟩
            have HP : Hidden (∀ W, Below w.heap.size w W → Calls Tryz.prog 69 #[.slice (some ⟨p, off, none⟩) n c, .agg #[.int .i64 ((q : Int) + 1), .int .i64 (a : Int), .int .i64 (rLen (rawE l q) : Int), .int .i64 (rTag (rawE l q))]] W fun e w' => ∃ g c', e = .returned (.tuple #[.slice (some ⟨g, 0, none⟩) n c', .int .i64 0]) ∧ W.heap.size ≤ g ∧ Row w' 5 g c' (putEnt l ((q : Int) + 1) (a : Int) (rLen (rawE l q) : Int) (rTag (rawE l q))) ∧ Below W.heap.size W w') := ⟨fun W hW => refPutEntry_own _ n c l _ _ _ _ W HLN.out (rightB_true.2 (by omega)) (HRD.out.below hW) (handleB_true.2 (by omega)) (tagB_true.2 (by omega)) (lenB_true.2 (by omega)) (withinB_true.2 (by omega))⟩
            have HPL : Hidden ((putEnt l ((q : Int) + 1) (a : Int) (rLen (rawE l q) : Int) (rTag (rawE l q))).length = n) := ⟨by rw [putEnt_len _ _ _ _ _ (by omega) (by omega) (by omega)]; exact HLN.out⟩
            have HOL : Hidden ((objS l q).length = rLen (rawE l q)) := ⟨by unfold objS; rw [if_pos hh]; simp; omega⟩
            have hfit : a + rLen (rawE l q) ≤ n := by omega
            have HOQ : Hidden (∀ W, Below w.heap.size w W → Calls Tryz.prog 34 #[.slice (some ⟨p, off, none⟩) n c, .int .i64 ((q : Int) + 1)] W fun e w' => e = .returned (.tuple #[.int .i64 (objT l q), sv (objS l q)]) ∧ Below W.heap.size W w') := ⟨fun W hW => HO.out W q hq hW⟩
            generalize putEnt l ((q : Int) + 1) (a : Int) (rLen (rawE l q) : Int) (rTag (rawE l q)) = P at *
            generalize objS l q = body at *
            generalize objT l q = ot at *
            have d1 : decide ((a : Int) < (rAt (rawE l q) : Int)) = true := by simp; omega
            have d1' : decide (a < rAt (rawE l q)) = true := by simpa using hgt
            generalize rAt (rawE l q) = e1 at *
            generalize rLen (rawE l q) = e2 at *
            generalize rTag (rawE l q) = e3 at *
            have hbl := HOL.out
            have hble : body.length ≤ 6400 := by omega
            have hfit2 : a + body.length ≤ n := by omega
            clear Q4 Q5 hgap g1 hgt hin HO HST hh hfit HSL HM HE HMM
            go_wp2_with fail
            refine (HOQ.out wr HBW.out).mono ?_
            rintro e w3 ⟨rfl, hb3⟩
            have HF3 : Hidden (FourB w3 bb ((q : Int) + 1) e1 e2 e3) := ⟨(hb3.block _ (Array.getElem?_eq_some_iff.1 HF0.out).1).trans HF0.out⟩
            have HB3 := Hidden.mk (HBW.out.trans (hb3.mono HBW.out.size))
            obtain ⟨⟨y0, y1, y2, y3⟩, yf⟩ := HF3.out.get
            have yf1 := yf 1
            have HF4 : Hidden (FourB (w3.setCell ⟨bb, 1, none⟩ (.int .i64 (a : Int))) bb ((q : Int) + 1) a e2 e3 ∧ Below w.heap.size w (w3.setCell ⟨bb, 1, none⟩ (.int .i64 (a : Int)))) := ⟨HF3.out.set1 _, HB3.out.setCell (p := ⟨bb, 1, none⟩) HBB.out _⟩
            obtain ⟨⟨z0, z1, z2, z3⟩, -⟩ := HF4.out.1.get
            clear hb3 HOQ HF0 HF3 HB3 yf b0 b1 b2 b3 y0 y2 y3
            go_wp2_with fail
            refine (HP.out _ HF4.out.2).mono ?_
            rintro e w5 ⟨g, cg, rfl, hg5, hrow5, hb5⟩
            have HB5 := Hidden.mk (HF4.out.2.trans (hb5.mono HF4.out.2.size))
            have HG5 : Hidden (w.heap.size ≤ g) := ⟨Nat.le_trans HF4.out.2.size hg5⟩
            have HR5 := Hidden.mk hrow5
            clear hg5 hrow5 hb5 HP HF4 z0 z1 z2 z3 y1 yf1
            go_wp2_with fail
            go_loopg [12] body.length (fun q iv wr => ∃ j : Nat, j ≤ body.length ∧ q = body.length - j ∧ iv = .int .i64 (j : Int) ∧ Hidden (Row wr 5 g cg (splice P a (body.take j)) ∧ Below w.heap.size w wr))
            case atStart => exact ⟨0, by omega, rfl, rfl, ⟨by simpa [splice] using HR5.out, HB5.out⟩⟩
            case round =>
              obtain ⟨t, ht, rfl, rfl, hst⟩ := hrel
              have hsl : (splice P a (body.take t)).length = n := by rw [splice_len _ _ _ (by rw [HPL.out]; simp; omega)]; exact HPL.out
              by_cases hlt2 : t < body.length
              · have hcell := hst.out.1.cell (a + t) (by omega)
                have hfr := hst.out.1.frozen (a + t)
                have hso := hst.out.1.store (a + t) (by omega) body[t]
                rw [splice_more P body a t hlt2 (by rw [HPL.out]; exact hfit2)] at hso
                have HN : Hidden (Row (wr.setCell ⟨g, a + t, none⟩ (bv body[t])) 5 g cg (splice P a (body.take (t + 1))) ∧ Below w.heap.size w (wr.setCell ⟨g, a + t, none⟩ (bv body[t]))) := ⟨hso, hst.out.2.setCell (p := ⟨g, a + t, none⟩) HG5.out _⟩
                have k0 : (0 : Int) ≤ t := by omega
                have k1 : (t : Int) < body.length := by omega
                have q0 : (0 : Int) ≤ (a : Int) + t := by omega
                have q2 : (a : Int) + t < n := by omega
                have s1 : IntKind.i64.wrap ((a : Int) + t) = (a : Int) + t := IntWalk.i64_in _ (by omega)
                have s3 : IntKind.i64.wrap ((t : Int) + 1) = (t : Int) + 1 := IntWalk.i64_in _ (by omega)
                have hix : ((⟨body.toArray⟩ : ByteArray)[t]'(by simpa [ByteArray.size] using hlt2)) = body[t] := rfl
                generalize (splice P a (body.take t))[a + t] = u at hcell
                clear hst hso hsl
                go_wp2_with fail
                go_roundg (body.length - (t + 1))
                case measure => omega
                case rel => exact ⟨t + 1, by omega, rfl, by go_num, HN⟩
              · have htb : t = body.length := by omega
                have hre := hst.out
                rw [htb, List.take_length] at hre
                have HRE : Hidden (Rd wr (some ⟨g, 0, none⟩) (stepL l) ∧ n ≤ cg ∧ Below w.heap.size w wr) := ⟨by rw [HS1.out]; exact hre.1.rd, by have := hre.1.le.1; rw [splice_len _ _ _ (by rw [HPL.out]; exact hfit2), HPL.out] at this; exact this, hre.2⟩
                have dt : decide ((t : Int) < (body.length : Int)) = false := by simp; omega
                have dt' : decide (t < body.length) = false := by simp; omega
                clear hst hre hsl
                go_wp2_with fail
                go_ret2
                exact ⟨g, 0, cg, by rw [HSB.out]; rfl, HRE.out.2.1, .inr HG5.out, HRE.out.1, HRE.out.2.2⟩
          · have HN : Hidden (Stands l (k + 1) (a + rLen (rawE l q)) ∧ Below w.heap.size w wr) := ⟨Q5.out hgt, HBW.out⟩
            have d1 : decide ((a : Int) < (rAt (rawE l q) : Int)) = false := by simp; omega
            have d1' : decide (a < rAt (rawE l q)) = false := by simpa using hgt
            generalize rAt (rawE l q) = e1 at *
            generalize rLen (rawE l q) = e2 at *
            generalize rTag (rawE l q) = e3 at *
            have s1 : IntKind.i64.wrap ((a : Int) + e2) = (a : Int) + e2 := IntWalk.i64_in _ (by omega)
            clear Q4 Q5 hgt HO HST hh HSL HM HMM HF0
            go_wp2_with fail
            go_roundg (m - (k + 1))
            case measure => omega
            case rel => exact ⟨k + 1, a + e2, by omega, rfl, by go_num, by omega, HN⟩
        · have hke : k = (sortM l).length := by rw [HM.out]; omega
          have hsn := HST.out
          rw [hke] at hsn
          obtain ⟨n1, n2⟩ := hsn.none
          rw [n1] at hs2
          obtain ⟨⟨b0, b1, b2, b3⟩, bf⟩ := hs2.2.get
          change wr.cell? ⟨bb, 0, none⟩ = some (.int .i64 0) at b0
          have HSB : Hidden (stepB l = false) := ⟨by unfold stepB; rw [n2]; rfl⟩
          have HRE : Hidden (Rd wr (some ⟨p, off, none⟩) (stepL l)) := ⟨by rw [stepL_none n2]; exact HRD.out.below HBW.out⟩
          clear hs2 hsn n1 n2 b1 b2 b3 bf HO HST HSL HM HMM
          go_wp2_with fail
          go_ret2
          exact ⟨p, off, c, by rw [HSB.out]; rfl, hnc, .inl rfl, HRE.out, HBW.out⟩
end Go.Proofs.YtecjjhfaljdcpaaGreat
/- The reference's extents, plainly: its holes are the program's. No walk here. -/
namespace Go.Proofs.YtecjjhfaljdcpaaGreat
open Go.RowKit

/-- a place that is free, behind runs -/
def addR (out : List Ext) (i : Int) : List Ext := match out.getLast? with
  | some h => if h.1 + h.2 = i then out.dropLast ++ [(h.1, h.2 + 1)] else out ++ [(i, 1)]
  | none => out ++ [(i, 1)]
def goR (T : Nat → Bool) (acc : List Ext) (i : Nat) : Nat → List Ext
  | 0 => acc
  | m + 1 => if T (i + m) = true then goR T acc i m else addR (goR T acc i m) ((i + m : Nat) : Int)
theorem goR_add (T : Nat → Bool) (acc : List Ext) (i a : Nat) : ∀ b, goR T acc i (a + b) = goR T (goR T acc i a) (i + a) b
  | 0 => rfl
  | b + 1 => by
    rw [← Nat.add_assoc, goR, goR, goR_add T acc i a b, Nat.add_assoc]
theorem goR_taken (T : Nat → Bool) (acc : List Ext) (i : Nat) : ∀ m, (∀ j, j < m → T (i + j) = true) → goR T acc i m = acc
  | 0, _ => rfl
  | m + 1, h => by rw [goR, if_pos (h m (by omega)), goR_taken T acc i m (fun j hj => h j (by omega))]
/-- the last run ends ahead of a -/
def EndsLt (acc : List Ext) (a : Int) : Prop := ∀ h, acc.getLast? = some h → h.1 + h.2 < a
theorem goR_free (T : Nat → Bool) (acc : List Ext) (i : Nat) (he : EndsLt acc i) : ∀ m, (∀ j, j < m + 1 → T (i + j) = false) → goR T acc i (m + 1) = acc ++ [((i : Int), ((m + 1 : Nat) : Int))]
  | 0, h => by
    rw [goR, goR, if_neg (by rw [h 0 (by omega)]; decide)]
    unfold addR
    cases hl : acc.getLast? with
    | none => simp
    | some x =>
      have := he x hl
      simp only
      rw [if_neg (by omega)]; simp
  | m + 1, h => by
    rw [goR, if_neg (by rw [h (m + 1) (by omega)]; decide), goR_free T acc i he m (fun j hj => h j (by omega))]
    unfold addR
    rw [List.getLast?_append]
    simp only [List.getLast?_singleton, Option.or]
    rw [if_pos (by omega), List.dropLast_concat]
    congr 1
def coverX (e : Ext) (i : Nat) : Bool := decide (e.1 ≤ i) && decide ((i : Int) < e.1 + e.2)
theorem goR_runs (T : Nat → Bool) (n : Nat) : ∀ (S : List Ext) (a : Nat) (acc : List Ext), Tidy a S n → (∀ i, a ≤ i → i < n → T i = S.any (fun e => coverX e i)) → EndsLt acc a → goR T acc a (n - a) = acc ++ runsX a S n
  | [], a, acc, ht, hT, he => by
    have ht : (a : Int) ≤ n := ht
    rw [runsX_nil]
    by_cases h : a < n
    · obtain ⟨m, hm⟩ : ∃ m, n - a = m + 1 := ⟨n - a - 1, by omega⟩
      rw [hm, goR_free T acc a he m (fun j hj => by rw [hT (a + j) (by omega) (by omega)]; rfl), if_pos (by omega)]
      rw [show ((m + 1 : Nat) : Int) = (n : Int) - a by omega]
    · rw [show n - a = 0 by omega, if_neg (by omega)]
      simp [goR]
  | e :: r, a, acc, ht, hT, he => by
    obtain ⟨h1, h2, h3⟩ := ht
    have h4 := tidy_le h3
    obtain ⟨x, y⟩ := e
    dsimp only at h1 h2 h3 h4
    obtain ⟨p, rfl⟩ := Int.eq_ofNat_of_zero_le (show 0 ≤ x by omega)
    obtain ⟨q, rfl⟩ := Int.eq_ofNat_of_zero_le (show 0 ≤ y by omega)
    have hrest : ∀ i, i < p + q → r.any (fun e => coverX e i) = false := fun i hi => by
      rw [List.any_eq_false]
      intro z hz
      have := tidy_mem h3 z hz
      simp [coverX]; omega
    have e1 : n - a = (p - a) + (q + (n - (p + q))) := by omega
    have s1 : goR T acc a (p - a) = acc ++ (if (a : Int) < (p : Int) then [((a : Int), (p : Int) - a)] else []) := by
      by_cases h : a < p
      · obtain ⟨m, hm⟩ : ∃ m, p - a = m + 1 := ⟨p - a - 1, by omega⟩
        rw [hm, goR_free T acc a he m (fun j hj => ?_), if_pos (by omega)]
        · rw [show ((m + 1 : Nat) : Int) = (p : Int) - a by omega]
        · rw [hT (a + j) (by omega) (by omega), List.any_cons, hrest (a + j) (by omega)]
          simp [coverX]; omega
      · rw [show p - a = 0 by omega, if_neg (by omega)]
        simp [goR]
    have hends : EndsLt (acc ++ (if (a : Int) < (p : Int) then [((a : Int), (p : Int) - a)] else [])) ((p + q : Nat) : Int) := by
      intro h hh
      by_cases hc : (a : Int) < (p : Int)
      · rw [if_pos hc, List.getLast?_append] at hh
        simp only [List.getLast?_singleton, Option.or, Option.some.injEq] at hh
        subst hh
        dsimp only; omega
      · rw [if_neg hc, List.append_nil] at hh
        have := he h hh; omega
    rw [e1, goR_add, s1, goR_add, goR_taken T _ (a + (p - a)) q (fun j hj => by
      rw [hT (a + (p - a) + j) (by omega) (by omega), List.any_cons]
      have : coverX ((p : Int), (q : Int)) (a + (p - a) + j) = true := by simp [coverX]; omega
      rw [this]; rfl)]
    rw [show a + (p - a) + q = p + q by omega]
    rw [goR_runs T n r (p + q) _ (by simpa using h3) (fun i h5 h6 => by
      rw [hT i (by omega) h6, List.any_cons]
      have : coverX ((p : Int), (q : Int)) i = false := by simp [coverX]; omega
      rw [this, Bool.false_or]) hends]
    rw [runsX_cons, List.append_assoc]
    simp
/-- the reference's holes are the program's -/
theorem goR_holes {n : Nat} {l : List Ext} (h : chkX n l = 0) (T : Nat → Bool) (hT : ∀ i, i < n → T i = l.any (fun e => coverX e i)) : goR T [] 0 n = holesX n l := by
  have ht := tidy_of h
  have := goR_runs T n (sortE l) 0 [] ht (fun i _ hi => by
    rw [hT i hi, Bool.eq_iff_iff, List.any_eq_true, List.any_eq_true]
    constructor
    · rintro ⟨x, h1, h2⟩; exact ⟨x, (sortE_perm l).mem_iff.2 h1, h2⟩
    · rintro ⟨x, h1, h2⟩; exact ⟨x, (sortE_perm l).mem_iff.1 h1, h2⟩) (fun h hh => by cases hh)
  rw [Nat.sub_zero, List.nil_append] at this
  rw [this, holes_runs]; rfl
/-- the reference's choice: where; how long -/
def refF (size : Int) (H : List Ext) : Int × Int := H.foldl (fun b h => if size ≤ h.2 ∧ (b.1 < 0 ∨ h.2 < b.2) then h else b) (-1, 0)
theorem refF_succ (size : Int) (H : List Ext) (k : Nat) (hk : k < H.length) : refF size (H.take (k + 1)) = if size ≤ H[k].2 ∧ ((refF size (H.take k)).1 < 0 ∨ H[k].2 < (refF size (H.take k)).2) then H[k] else refF size (H.take k) := by
  unfold refF
  rw [List.take_succ_eq_append_getElem hk, List.foldl_append]; rfl
theorem refF_best (size : Int) (H : List Ext) : (∀ h ∈ H, 0 ≤ h.1 ∧ 1 ≤ h.2) → (bestX size H = (0, 0) ∧ refF size H = (-1, 0)) ∨ (1 ≤ (bestX size H).2 ∧ 0 ≤ (bestX size H).1 ∧ refF size H = bestX size H) := by
  induction H using snocE with
  | h0 => exact fun _ => .inl ⟨rfl, rfl⟩
  | h1 L x ih =>
    intro hH
    have hx := hH x (by simp)
    rw [bestX_snoc]
    have hs : refF size (L ++ [x]) = if size ≤ x.2 ∧ ((refF size L).1 < 0 ∨ x.2 < (refF size L).2) then x else refF size L := by
      unfold refF; rw [List.foldl_append]; rfl
    rw [hs]
    rcases ih (fun h hh => hH h (List.mem_append_left _ hh)) with ⟨a, b⟩ | ⟨a, b, c⟩
    · rw [a, b]
      by_cases h : size ≤ x.2
      · rw [if_pos ⟨h, .inl rfl⟩, if_pos ⟨h, .inl (by decide)⟩]
        exact .inr ⟨hx.2, hx.1, rfl⟩
      · rw [if_neg (fun hh => h hh.1), if_neg (fun hh => h hh.1)]
        exact .inl ⟨rfl, rfl⟩
    · rw [c]
      by_cases h : size ≤ x.2 ∧ x.2 < (bestX size L).2
      · rw [if_pos ⟨h.1, .inr h.2⟩, if_pos ⟨h.1, .inr h.2⟩]
        exact .inr ⟨hx.2, hx.1, rfl⟩
      · rw [if_neg (fun hh => h ⟨hh.1, by omega⟩), if_neg (fun hh => h ⟨hh.1, by omega⟩)]
        exact .inr ⟨a, b, rfl⟩
theorem refF_fit {n : Int} {l : List Ext} (h : chkX n l = 0) (size : Int) (hs : ¬ (size < 1 ∨ 6400 < size)) : ((refF size (holesX n l)).1 < 0 ∧ fitE n l size = 4 ∧ fitA n l size = 0) ∨ (0 ≤ (refF size (holesX n l)).1 ∧ fitE n l size = 0 ∧ fitA n l size = (refF size (holesX n l)).1) := by
  have hb := refF_best size (holesX n l) (fun x hx => by have := holes_mem h x hx; omega)
  rcases hb with ⟨a, b⟩ | ⟨a, b, c⟩
  · left
    have e : fitE n l size = 4 := by unfold fitE; rw [if_pos h, if_neg hs, a]; rfl
    exact ⟨by rw [b]; decide, e, by unfold fitA; rw [e]; rfl⟩
  · right
    have e : fitE n l size = 0 := by unfold fitE; rw [if_pos h, if_neg hs, if_neg (by omega)]
    exact ⟨by rw [c]; exact b, e, by unfold fitA; rw [if_pos e, c]⟩
theorem stat_used {n : Int} {l : List Ext} (h : chkX n l = 0) : n - sumX (holesX n l) = sumX l ∧ n - sumX l = sumX (holesX n l) := by
  have := holds_sum h; omega
end Go.Proofs.YtecjjhfaljdcpaaGreat
/- The reference's extents: Extents, Holes. -/
namespace Go.Proofs.YtecjjhfaljdcpaaGreat
open Go.RowKit

theorem zero6401 : Tryz.zeroCells156 = Array.replicate 6401 (.bool false) := by kernel_rfl
/-- a block of booleans: which are true -/
def BlkB (w : World) (g : Nat) (T : Nat → Bool) : Prop := ∃ cur, w.heap[g]? = some (.cells cur 156 (0, 0)) ∧ cur.size = 6401 ∧ ∀ i, i < 6401 → cur[i]? = some (.bool (T i))
theorem BlkB.block {w w' : World} {g : Nat} {T : Nat → Bool} (h : BlkB w g T) (hb : w'.heap[g]? = w.heap[g]?) : BlkB w' g T := by
  obtain ⟨cur, h1, h2⟩ := h
  exact ⟨cur, hb.trans h1, h2⟩
theorem BlkB.cell {w : World} {g : Nat} {T : Nat → Bool} (h : BlkB w g T) (i : Nat) (hi : i < 6401) : w.cell? ⟨g, i, none⟩ = some (.bool (T i)) ∧ w.frozen? ⟨g, i, none⟩ = false := by
  obtain ⟨cur, h1, h2, h3⟩ := h
  exact ⟨by simp [World.cell?, h1, h3 i hi], frozen_of_row _ g i _ _ h1⟩
theorem BlkB.set {w : World} {g : Nat} {T : Nat → Bool} (h : BlkB w g T) (i : Nat) (hi : i < 6401) : BlkB (w.setCell ⟨g, i, none⟩ (.bool true)) g (fun q => T q || decide (q = i)) := by
  obtain ⟨cur, h1, h2, h3⟩ := h
  refine ⟨_, heap_setK (k := i) h1 _, by simp [h2], fun q hq => ?_⟩
  rw [Array.getElem?_setIfInBounds]
  by_cases e : i = q
  · subst e
    rw [if_pos rfl, if_pos (by omega)]; simp
  · rw [if_neg e, h3 q hq]
    have : decide (q = i) = false := by simp; omega
    show _ = some (Value.bool (T q || decide (q = i)))
    rw [this, Bool.or_false]
theorem BlkB.congr {w : World} {g : Nat} {T T' : Nat → Bool} (h : BlkB w g T) (e : ∀ i, i < 6401 → T' i = T i) : BlkB w g T' := by
  obtain ⟨cur, h1, h2, h3⟩ := h
  exact ⟨cur, h1, h2, fun i hi => by rw [e i hi]; exact h3 i hi⟩
/-- a cell of an own row, stored into -/
theorem own_set {w : World} {base size n g cap k : Nat} {e : TypeId} {xs : List Value} (h : w.ownsRow base e size (.slice (some ⟨g, 0, none⟩) n cap) n xs) (hk : k < xs.length) (u : Value) :
    (w.setCell ⟨g, k, none⟩ u).ownsRow base e size (.slice (some ⟨g, 0, none⟩) n cap) n (xs.set k u) ∧ w.frozen? ⟨g, k, none⟩ = false := by
  rcases h with ⟨h0, ⟨h1, _⟩ | ⟨g', cap', cur, he, hb, hh, hn, hm, hc, ht⟩⟩
  · cases h1
  · injection he with he _ hcap
    injection he with he
    injection he with he
    subst he hcap
    refine ⟨⟨by rw [List.length_set]; exact h0, .inr ⟨g, cap, _, rfl, hb, heap_setK (k := k) hh u, hn, hm, by simp [hc], ?_⟩⟩, frozen_of_row _ g k _ _ hh⟩
    rw [← ht, Array.toList_setIfInBounds, List.take_set]
theorem loopX_step (n : Int) (l : List Ext) (k : Nat) (hk : k < l.length) (h : loopX n l k = 0) : loopX n l (k + 1) = faultX n l k l[k] := by
  rw [loopX, if_pos h]
  have hg : l.getD k (0, 0) = l[k] := by simp [hk]
  rw [hg]
theorem loopX_chk {n : Int} {l : List Ext} (hn : ¬ (n < 0 ∨ 6400 < n)) (hl : ¬ 200 < l.length) (k : Nat) (hk : k ≤ l.length) {q : Nat} (hq : loopX n l k = q) (h0 : q ≠ 0) : chkX n l = q := by
  unfold chkX
  rw [if_neg hn, if_neg hl, loopX_stop n l k (by omega) l.length hk, hq]
end Go.Proofs.YtecjjhfaljdcpaaGreat
/- The reference's extents: Holes. -/
namespace Go.Proofs.YtecjjhfaljdcpaaGreat
open Go.RowKit

theorem coverX_step (e : Ext) (j i : Nat) (h0 : 0 ≤ e.1) : (decide (e.1 ≤ i) && decide ((i : Int) < e.1 + ((j + 1 : Nat) : Int))) = ((decide (e.1 ≤ i) && decide ((i : Int) < e.1 + (j : Int))) || decide (i = e.1.toNat + j)) := by
  rw [Bool.eq_iff_iff]
  simp only [Bool.and_eq_true, Bool.or_eq_true, decide_eq_true_eq]
  omega
theorem goR_succ (T : Nat → Bool) (i : Nat) : goR T [] 0 (i + 1) = if T i = true then goR T [] 0 i else addR (goR T [] 0 i) (i : Int) := by
  rw [goR, Nat.zero_add]
theorem goR_len (T : Nat → Bool) : ∀ i, (goR T [] 0 i).length ≤ i
  | 0 => Nat.le_refl _
  | i + 1 => by
    rw [goR_succ]
    have := goR_len T i
    split
    · omega
    · unfold addR
      split
      · split <;> simp <;> omega
      · simp; omega
theorem tcells_flat (L : List Ext) : (L.flatMap tcells).length = L.length * 2 := by
  induction L with
  | nil => rfl
  | cons x r ih => rw [List.flatMap_cons, List.length_append, ih, List.length_cons]; simp [tcells]; omega
/-- runs lie within what was looked at -/
theorem goR_in (T : Nat → Bool) : ∀ i, ∀ x ∈ goR T [] 0 i, 0 ≤ x.1 ∧ 1 ≤ x.2 ∧ x.1 + x.2 ≤ i
  | 0 => fun x hx => by cases hx
  | i + 1 => fun x hx => by
    have ih := goR_in T i
    rw [goR_succ] at hx
    by_cases ht : T i = true
    · rw [if_pos ht] at hx
      have := ih x hx; omega
    · rw [if_neg ht] at hx
      unfold addR at hx
      cases hl : (goR T [] 0 i).getLast? with
      | none =>
        rw [hl] at hx
        simp only [List.mem_append, List.mem_singleton] at hx
        rcases hx with hx | rfl
        · have := ih x hx; omega
        · dsimp only; omega
      | some y =>
        rw [hl] at hx
        have hy := ih y (List.mem_of_getLast? hl)
        simp only at hx
        by_cases he : y.1 + y.2 = (i : Int)
        · rw [if_pos he] at hx
          simp only [List.mem_append, List.mem_singleton] at hx
          rcases hx with hx | rfl
          · have := ih x ((List.dropLast_sublist _).subset hx); omega
          · dsimp only; omega
        · rw [if_neg he] at hx
          simp only [List.mem_append, List.mem_singleton] at hx
          rcases hx with hx | rfl
          · have := ih x hx; omega
          · dsimp only; omega
set_option maxRecDepth 100000 in
set_option maxHeartbeats 1000000 in
theorem rholes_any (n : Nat) (A : Option Addr) (m c : Nat) (l : List Ext) (w : World) (hl : l.length = m) (hr : RdX tcells 2 w A l) (hc : chkX (n : Int) l = 0) :
    Calls Tryz.prog 66 #[.int .i64 (n : Int), .slice A m c] w fun e w' => ∃ v, e = .returned v ∧ w'.ownsRow w.heap.size 92 2 v (holesX (n : Int) l).length ((holesX (n : Int) l).flatMap tcells) ∧ Below w.heap.size w w' := by
  obtain ⟨o0, o1, o2, o3, -⟩ := chkX_ok hc
  have HL := Hidden.mk hl
  have HR := Hidden.mk hr
  have HBD : Hidden (∀ e ∈ l, 0 ≤ e.1 ∧ 1 ≤ e.2 ∧ e.1 + e.2 ≤ n) := ⟨fun e he => by have := badX_false (holds_bad hc e he); omega⟩
  have HH : Hidden (∀ T : Nat → Bool, (∀ i, i < n → T i = l.any (fun e => coverX e i)) → goR T [] 0 n = holesX (n : Int) l) := ⟨fun T hT => goR_holes hc T hT⟩
  have HN : Hidden (n ≤ 6400 ∧ m ≤ 200) := ⟨by omega⟩
  obtain ⟨hi0, hi1, hz0, hz1, hz2⟩ := info_parts extent_info
  have HI := Hidden.mk (And.intro hi1 (And.intro hz0 (And.intro hz1 hz2)))
  have HB0 := Hidden.mk ((Below.refl w.heap.size w).alloc (Nat.le_refl _) (.cells Tryz.zeroCells156 156))
  have HT0 : Hidden (BlkB (w.alloc (.cells Tryz.zeroCells156 156)) w.heap.size (fun _ => false)) := ⟨⟨_, heap_alloc_new w _, by rw [zero6401]; simp, fun i hi => by rw [zero6401]; simp [hi]⟩⟩
  generalize holesX (n : Int) l = H at *
  clear hl hr hc o0 o1 o2 o3 hi1 hz0 hz1 hz2
  go_enter Tryz.func66, Tryz.ntmps66
  go_upto_region 2 with (fail)
  generalize w.alloc (.cells Tryz.zeroCells156 156) = w1 at *
  generalize hgb : w.heap.size = gb at *
  have HGB := Hidden.mk hgb
  clear hgb
  go_wp2_with fail
  go_loopg [6] m (fun q kv wr => ∃ k : Nat, k ≤ m ∧ q = m - k ∧ kv = .int .i64 (k : Int) ∧ Hidden (BlkB wr gb (fun i => (l.take k).any (fun e => coverX e i)) ∧ Below gb w wr))
  case atStart => exact ⟨0, by omega, rfl, rfl, ⟨HT0.out.congr (fun i _ => by simp), HB0.out⟩⟩
  case round =>
    obtain ⟨k, hk, rfl, rfl, hst⟩ := hrel
    by_cases hlt : k < m
    · have hkl : k < l.length := by rw [HL.out]; exact hlt
      have i0 : (0 : Int) ≤ k := by omega
      have i1 : (k : Int) < m := by omega
      have s1 : IntKind.i64.wrap ((k : Int) + 1) = (k : Int) + 1 := IntWalk.i64_in _ (by have := HN.out; omega)
      obtain ⟨pb, off, rfl, hcx⟩ := HR.out k hkl
      have x0 := hcx 0 _ rfl
      have x1 := hcx 1 _ rfl
      rw [Nat.add_zero] at x0
      have hbd := HBD.out l[k] (List.getElem_mem hkl)
      have HTK : Hidden (∀ i : Nat, (l.take (k + 1)).any (fun e => coverX e i) = ((l.take k).any (fun e => coverX e i) || coverX l[k] i)) := ⟨fun i => by rw [List.take_succ_eq_append_getElem hkl, List.any_append]; simp⟩
      generalize l[k] = e at *
      obtain ⟨e1, e2⟩ := e
      dsimp only at x0 x1 hbd
      obtain ⟨p, rfl⟩ := Int.eq_ofNat_of_zero_le hbd.1
      obtain ⟨q, rfl⟩ := Int.eq_ofNat_of_zero_le (show 0 ≤ e2 by omega)
      have HRK : Hidden (∀ W, Below gb w W → W.cell? ⟨pb, off + k * 2, none⟩ = some (.int .i64 (p : Int)) ∧ W.cell? ⟨pb, off + k * 2 + 1, none⟩ = some (.int .i64 (q : Int))) := ⟨fun W hW => by
        rw [← HGB.out] at hW
        exact ⟨(hW.cell (p := ⟨pb, off + k * 2, none⟩) (block_lt_of_cell x0)).trans x0, (hW.cell (p := ⟨pb, off + k * 2 + 1, none⟩) (block_lt_of_cell x1)).trans x1⟩⟩
      have HS := Hidden.mk hst.out
      clear hcx x0 x1 hst
      go_wp2_with fail
      go_loopg [7] q (fun z jv wy => ∃ j : Nat, j ≤ q ∧ z = q - j ∧ jv = .int .i64 (j : Int) ∧ Hidden (BlkB wy gb (fun i => (l.take k).any (fun e => coverX e i) || (decide ((p : Int) ≤ i) && decide ((i : Int) < (p : Int) + (j : Int)))) ∧ Below gb w wy))
      case atStart => exact ⟨0, by omega, rfl, rfl, ⟨HS.out.1.congr (fun i _ => by
        have : (decide ((p : Int) ≤ i) && decide ((i : Int) < (p : Int) + ((0 : Nat) : Int))) = false := by
          rw [Bool.eq_false_iff]; intro h; simp only [Bool.and_eq_true, decide_eq_true_eq] at h; omega
        rw [this, Bool.or_false]), HS.out.2⟩⟩
      case round =>
        obtain ⟨j, hj, rfl, rfl, hs2⟩ := hrel
        obtain ⟨x0, x1⟩ := HRK.out wr hs2.out.2
        by_cases hjq : j < q
        · have j0 : decide ((j : Int) < q) = true := by simp; omega
          have s2 : IntKind.i64.wrap ((p : Int) + j) = (p : Int) + j := IntWalk.i64_in _ (by have := HN.out; omega)
          have s3 : IntKind.i64.wrap ((j : Int) + 1) = (j : Int) + 1 := IntWalk.i64_in _ (by have := HN.out; omega)
          have hz1 : p + j < 6401 := by have := HN.out; omega
          have z0 : (0 : Int) ≤ (p : Int) + j := by omega
          have z1 : (p : Int) + j < 6401 := by omega
          obtain ⟨y0, y1⟩ := hs2.out.1.cell (p + j) hz1
          have HNX : Hidden (BlkB (wr.setCell ⟨gb, p + j, none⟩ (.bool true)) gb (fun i => (l.take k).any (fun e => coverX e i) || (decide ((p : Int) ≤ i) && decide ((i : Int) < (p : Int) + ((j + 1 : Nat) : Int)))) ∧ Below gb w (wr.setCell ⟨gb, p + j, none⟩ (.bool true))) := ⟨(hs2.out.1.set (p + j) hz1).congr (fun i _ => by
            have := coverX_step ((p : Int), 0) j i (by dsimp only; omega)
            dsimp only at this
            rw [this, show ((p : Int)).toNat + j = p + j by omega, Bool.or_assoc]), hs2.out.2.setCell (p := ⟨gb, p + j, none⟩) (Nat.le_refl _) _⟩
          clear hs2 HS
          go_wp2_with fail
          go_roundg (q - (j + 1))
          case measure => omega
          case rel => exact ⟨j + 1, by omega, rfl, by go_num, HNX⟩
        · obtain rfl : j = q := by omega
          have j0 : decide ((j : Int) < j) = false := by simp
          have HNX : Hidden (BlkB wr gb (fun i => (l.take (k + 1)).any (fun e => coverX e i)) ∧ Below gb w wr) := ⟨hs2.out.1.congr (fun i _ => by rw [HTK.out i]; rfl), hs2.out.2⟩
          clear hs2 HS
          go_wp2_with fail
          go_roundg (m - (k + 1))
          case measure => omega
          case rel => exact ⟨k + 1, by omega, rfl, by go_num, HNX⟩
    · obtain rfl : k = m := by omega
      have t4 : decide ((k : Int) < k) = false := by simp
      obtain ⟨T, hT⟩ : ∃ T : Nat → Bool, T = fun i => l.any (fun e => coverX e i) := ⟨_, rfl⟩
      have HS : Hidden (BlkB wr gb T ∧ Below gb w wr) := ⟨by
        have h1 := hst.out.1
        rw [List.take_of_length_le (by rw [HL.out]; exact Nat.le_refl _)] at h1
        rw [hT]; exact h1, hst.out.2⟩
      have HG := Hidden.mk (HH.out T (fun i _ => by rw [hT]))
      clear hT hst HH
      have HGL : Hidden (gb < w1.heap.size) := ⟨by obtain ⟨cur, h1, -⟩ := HT0.out; exact (Array.getElem?_eq_some_iff.1 h1).1⟩
      clear HT0 HB0
      go_wp2_with fail
      go_loopg [8, 9] n (fun q v iv wr => ∃ i : Nat, i ≤ n ∧ q = n - i ∧ iv = .int .i64 (i : Int) ∧ Hidden (BlkB wr gb T ∧ Below gb w wr ∧ wr.ownsRow (gb + 1) 92 2 v (goR T [] 0 i).length ((goR T [] 0 i).flatMap tcells)))
      case atStart => exact ⟨0, by omega, rfl, rfl, ⟨HS.out.1, HS.out.2, World.ownsRow_nil _ _ _ _⟩⟩
      case round =>
        obtain ⟨i, hi, rfl, rfl, hs⟩ := hrel
        by_cases hin : i < n
        · have d0 : decide ((i : Int) < n) = true := by simp; omega
          have i0 : (0 : Int) ≤ i := by omega
          have i1 : (i : Int) < 6401 := by have := HN.out; omega
          have s1 : IntKind.i64.wrap ((i : Int) + 1) = (i : Int) + 1 := IntWalk.i64_in _ (by have := HN.out; omega)
          obtain ⟨y0, -⟩ := hs.out.1.cell i (by have := HN.out; omega)
          have HSC := Hidden.mk (goR_succ T i)
          have HST := Hidden.mk hs.out
          have hgl : gb + 1 ≤ wr.heap.size := by obtain ⟨cur, h1, -⟩ := hs.out.1; exact (Array.getElem?_eq_some_iff.1 h1).1
          cases hT : T i with
          | true =>
            rw [hT] at y0
            have HNX : Hidden (goR T [] 0 (i + 1) = goR T [] 0 i) := ⟨by rw [HSC.out, if_pos hT]⟩
            clear hT hs HSC HS
            go_wp2_with fail
            go_roundg (n - (i + 1))
            case measure => omega
            case rel => exact ⟨i + 1, by omega, rfl, by go_num, ⟨HST.out.1, HST.out.2.1, by rw [HNX.out]; exact HST.out.2.2⟩⟩
          | false =>
            rw [hT] at y0
            have HNX : Hidden (goR T [] 0 (i + 1) = addR (goR T [] 0 i) i) := ⟨by rw [HSC.out, if_neg (by rw [hT]; decide)]⟩
            have hlen := goR_len T i
            have hins := goR_in T i
            obtain ⟨H', hH'⟩ : ∃ H', goR T [] 0 (i + 1) = H' := ⟨_, rfl⟩
            have HHE := Hidden.mk hH'
            rw [hH'] at HNX
            clear hH'
            generalize goR T [] 0 i = R at *
            obtain ⟨Av, cv, rfl, hcv, -⟩ := own_split hs.out.2.2
            clear hT hs HSC HS
            rcases List.eq_nil_or_concat R with hnil | ⟨R', x, hR⟩
            · subst hnil
              have HNX : Hidden (H' = [] ++ [((i : Int), 1)]) := ⟨HNX.out⟩
              clear hlen hins
              go_upto_region 15 with (fail)
              go_quiet (fail)
              go_upto_region 17 with (fail)
              have HQ : Hidden (BlkB (wr.drewN nq) gb T ∧ Below gb w (wr.drewN nq) ∧ (wr.drewN nq).ownsRow (gb + 1) 92 2 (.slice Av 0 cv) 0 ((([] : List Ext)).flatMap tcells)) := ⟨HST.out.1, below_drewN HST.out.2.1 _, HST.out.2.2⟩
              have hgq : gb + 1 ≤ (wr.drewN nq).heap.size := hgl
              clear y0 hgl HST
              generalize wr.drewN nq = wq at *
              obtain ⟨hi1, hz0, hz1, hz2⟩ := HI.out
              have hown9 := HQ.out.2.2
              go_wp2_with (at_builtin; refine wpList_append_lies _ rfl (.tmp 75) (.tmp 78) _ rfl (gb + 1) 92 hi0 _ 2 16 Tryz.underlying57 hi1 hz0 hz1 hz2 rfl (by decide) (.slice Av 0 cv) 0 ((([] : List Ext)).flatMap tcells) rfl (own_below hown9 ((Below.refl _ _).alloc (Nat.le_refl _) _)) ⟨(wq).heap.size, 0, none⟩ 1 1 [.int .i64 (i : Int), .int .i64 1] rfl rfl (World.news_of_block (cs := #[.int .i64 (i : Int), .int .i64 1]) (t := 92) (fr := (0, 0)) (heap_alloc_new (wq) _)) (by simp [Value.oneCell']) (by omega) (by simp only [maxLen]; omega) (by omega) (by have hz_ := HQ.out.2.1.size; rw [World.size_alloc]; omega) ((wq).heap.size + 1) (by simp) ?_; intro g8 cap8 w8 hown8 hg8 hat8 hlt8)
              have hal := (Below.refl wq.heap.size wq).alloc (Nat.le_refl _) (.cells #[.int .i64 (i : Int), .int .i64 1] 92)
              have hgW := grown_trans' hal hg8
              have HF : Hidden (BlkB w8 gb T ∧ Below gb w w8 ∧ w8.ownsRow (gb + 1) 92 2 (.slice (some ⟨g8, 0, none⟩) (0 + 1) cap8) H'.length (H'.flatMap tcells)) := ⟨HQ.out.1.block (hgW.block gb (by omega) (fun e => by have := (HQ.out.2.2.lt gb e.symm).1; omega)), HQ.out.2.1.grown hgW (by omega) (fun q hq => by have := (HQ.out.2.2.lt q hq).1; omega), by rw [HNX.out]; simpa [tcells] using hown8⟩
              clear hal hgW hown8 hg8 hat8 hlt8 hown9 HQ hgq
              go_roundg (n - (i + 1))
              case measure => omega
              case rel => exact ⟨i + 1, by omega, rfl, by go_num, by rw [HHE.out]; exact HF⟩
            · rw [List.concat_eq_append] at hR
              subst hR
              have hx := hins x (by simp)
              have hkx : R'.length < (R' ++ [x]).length := by simp
              obtain ⟨ga, oa, hAv, hcx⟩ := own_rdX3 (f := tcells) tcells_len rfl HST.out.2.2 R'.length hkx
              subst hAv
              obtain ⟨ga', ca', hv', hga⟩ := own_mem HST.out.2.2 (by simp)
              injection hv' with q1 q2 q3
              injection q1 with q1
              injection q1 with q1 q4 q5
              subst q1 q3 q4
              clear q2 q5
              have hgx : (R' ++ [x])[R'.length] = x := by simp
              rw [hgx] at hcx
              have v0 := hcx 0 _ rfl
              have v1 := hcx 1 _ rfl
              rw [Nat.add_zero] at v0
              have HLL : Hidden ((R' ++ [x]).length = R'.length + 1) := ⟨by simp⟩
              have k0 : decide (0 < ((R'.length + 1 : Nat) : Int)) = true := decide_eq_true (by omega)
              have s4 : IntKind.i64.wrap (((R'.length + 1 : Nat) : Int) - 1) = (R'.length : Int) := (IntWalk.i64_in _ (by omega)).trans (by omega)
              have k1 : (0 : Int) ≤ R'.length := by omega
              have k2 : (R'.length : Int) < ((R'.length + 1 : Nat) : Int) := by omega
              have HADD : Hidden (H' = if x.1 + x.2 = (i : Int) then R' ++ [(x.1, x.2 + 1)] else (R' ++ [x]) ++ [((i : Int), 1)]) := ⟨by
                rw [HNX.out]; unfold addR
                rw [List.getLast?_concat]
                simp only [List.dropLast_concat]⟩
              obtain ⟨x1, x2⟩ := x
              dsimp only at hx HADD v0 v1
              have s5 : IntKind.i64.wrap (x1 + x2) = x1 + x2 := IntWalk.i64_in _ (by omega)
              have s6 : IntKind.i64.wrap (x2 + 1) = x2 + 1 := IntWalk.i64_in _ (by omega)
              have hR6 : R'.length + 1 ≤ 6400 := by have := HLL.out; have := HN.out; omega
              rw [Nat.zero_add] at v0 v1
              rw [HLL.out]
              clear hcx hgx hkx HNX hins
              by_cases hadj : x1 + x2 = (i : Int)
              · have HNX : Hidden (H' = R' ++ [(x1, x2 + 1)]) := ⟨by rw [HADD.out, if_pos hadj]⟩
                have e0 : (x1 + x2 == (i : Int)) = true := by simpa using hadj
                clear HADD hadj hlen
                go_upto_region 15 with (fail)
                go_quiet (fail)
                have HQ : Hidden (BlkB (wr.drewN nq) gb T ∧ Below gb w (wr.drewN nq) ∧ (wr.drewN nq).ownsRow (gb + 1) 92 2 (.slice (some ⟨ga, 0, none⟩) (R' ++ [(x1, x2)]).length cv) (R' ++ [(x1, x2)]).length ((R' ++ [(x1, x2)]).flatMap tcells)) := ⟨HST.out.1, below_drewN HST.out.2.1 _, HST.out.2.2⟩
                have v1' : (wr.drewN nq).cell? ⟨ga, R'.length * 2 + 1, none⟩ = some (.int .i64 x2) := v1
                clear y0 hgl HST v0 v1
                generalize wr.drewN nq = wq at *
                have hset := own_set HQ.out.2.2 (k := R'.length * 2 + 1) (by rw [tcells_flat]; simp; omega) (.int .i64 (x2 + 1))
                have HSET : Hidden (BlkB (wq.setCell ⟨ga, R'.length * 2 + 1, none⟩ (.int .i64 (x2 + 1))) gb T ∧ Below gb w (wq.setCell ⟨ga, R'.length * 2 + 1, none⟩ (.int .i64 (x2 + 1))) ∧ (wq.setCell ⟨ga, R'.length * 2 + 1, none⟩ (.int .i64 (x2 + 1))).ownsRow (gb + 1) 92 2 (.slice (some ⟨ga, 0, none⟩) (R'.length + 1) cv) H'.length (H'.flatMap tcells)) := ⟨HQ.out.1.block (Below.heap_setCell _ _ _ _ (by dsimp only; omega)), HQ.out.2.1.setCell (p := ⟨ga, R'.length * 2 + 1, none⟩) (by dsimp only; omega) _, by
                  have h1 := hset.1
                  rw [HLL.out] at h1
                  rw [HNX.out]
                  have e1 : ((R' ++ [(x1, x2)]).flatMap tcells).set (R'.length * 2 + 1) (.int .i64 (x2 + 1)) = (R' ++ [(x1, x2 + 1)]).flatMap tcells := by
                    rw [List.flatMap_append, List.flatMap_append]
                    have hl := tcells_flat R'
                    rw [List.set_append_right _ _ (by omega), hl, show R'.length * 2 + 1 - R'.length * 2 = 1 by omega]
                    rfl
                  rw [e1] at h1
                  simpa using h1⟩
                have f1 := hset.2
                clear hset HQ
                go_wp2_with fail
                go_roundg (n - (i + 1))
                case measure => omega
                case rel => exact ⟨i + 1, by omega, rfl, by go_num, by rw [HHE.out]; exact HSET⟩
              · have HNX : Hidden (H' = (R' ++ [(x1, x2)]) ++ [((i : Int), 1)]) := ⟨by rw [HADD.out, if_neg hadj]⟩
                have e0 : (x1 + x2 == (i : Int)) = false := by simpa using hadj
                rw [HLL.out] at HST
                clear HADD hadj hlen
                go_upto_region 15 with (fail)
                go_quiet (fail)
                clear v0 v1
                go_upto_region 17 with (fail)
                have HQ : Hidden (BlkB (wr.drewN nq) gb T ∧ Below gb w (wr.drewN nq) ∧ (wr.drewN nq).ownsRow (gb + 1) 92 2 (.slice (some ⟨ga, 0, none⟩) (R'.length + 1) cv) (R'.length + 1) ((R' ++ [(x1, x2)]).flatMap tcells)) := ⟨HST.out.1, below_drewN HST.out.2.1 _, HST.out.2.2⟩
                have hgq : gb + 1 ≤ (wr.drewN nq).heap.size := hgl
                clear y0 hgl HST
                generalize wr.drewN nq = wq at *
                obtain ⟨hi1, hz0, hz1, hz2⟩ := HI.out
                have hown9 := HQ.out.2.2
                go_wp2_with (at_builtin; refine wpList_append_lies _ rfl (.tmp 75) (.tmp 78) _ rfl (gb + 1) 92 hi0 _ 2 16 Tryz.underlying57 hi1 hz0 hz1 hz2 rfl (by decide) (.slice (some ⟨ga, 0, none⟩) (R'.length + 1) cv) (R'.length + 1) ((R' ++ [(x1, x2)]).flatMap tcells) rfl (own_below hown9 ((Below.refl _ _).alloc (Nat.le_refl _) _)) ⟨(wq).heap.size, 0, none⟩ 1 1 [.int .i64 (i : Int), .int .i64 1] rfl rfl (World.news_of_block (cs := #[.int .i64 (i : Int), .int .i64 1]) (t := 92) (fr := (0, 0)) (heap_alloc_new (wq) _)) (by simp [Value.oneCell']) (by omega) (by simp only [maxLen]; omega) (by omega) (by have hz_ := HQ.out.2.1.size; rw [World.size_alloc]; omega) ((wq).heap.size + 1) (by simp) ?_; intro g8 cap8 w8 hown8 hg8 hat8 hlt8)
                have hal := (Below.refl wq.heap.size wq).alloc (Nat.le_refl _) (.cells #[.int .i64 (i : Int), .int .i64 1] 92)
                have hgW := grown_trans' hal hg8
                have HF : Hidden (BlkB w8 gb T ∧ Below gb w w8 ∧ w8.ownsRow (gb + 1) 92 2 (.slice (some ⟨g8, 0, none⟩) ((R'.length + 1) + 1) cap8) H'.length (H'.flatMap tcells)) := ⟨HQ.out.1.block (hgW.block gb (by omega) (fun e => by have := (HQ.out.2.2.lt gb e.symm).1; omega)), HQ.out.2.1.grown hgW (by omega) (fun q hq => by have := (HQ.out.2.2.lt q hq).1; omega), by rw [HNX.out]; simpa [tcells] using hown8⟩
                clear hal hgW hown8 hg8 hat8 hlt8 hown9 HQ hgq
                go_roundg (n - (i + 1))
                case measure => omega
                case rel => exact ⟨i + 1, by omega, rfl, by go_num, by rw [HHE.out]; exact HF⟩
        · obtain rfl : i = n := by omega
          have d0 : decide ((i : Int) < i) = false := by simp
          have HF : Hidden (Below w.heap.size w wr ∧ wr.ownsRow w.heap.size 92 2 u8 H.length (H.flatMap tcells)) := ⟨by rw [HGB.out]; exact hs.out.2.1, by
            have := hs.out.2.2
            rw [HG.out] at this
            rw [HGB.out]
            exact own_base this (by omega)⟩
          rw [HGB.out] at HF
          have HGB2 := HGB.out
          clear hs HS
          go_wp2_with fail
          go_ret
          rw [HGB2]
          exact ⟨_, rfl, HF.out.2, HF.out.1⟩
end Go.Proofs.YtecjjhfaljdcpaaGreat
/- The reference's extents: Fit, Stat; extents that are the same. -/
namespace Go.Proofs.YtecjjhfaljdcpaaGreat
open Go.RowKit

section
variable (n : Nat) (A : Option Addr) (m c : Nat) (l : List Ext) (w : World) (hl : l.length = m) (hr : RdX tcells 2 w A l) (hc : chkX (n : Int) l = 0)
include hl hr hc
end
end Go.Proofs.YtecjjhfaljdcpaaGreat
/- The reference's extents: Stat. -/
namespace Go.Proofs.YtecjjhfaljdcpaaGreat
open Go.RowKit

theorem fiveCells {w : World} {b : Nat} {a0 a1 a2 a3 a4 : Int} {t : TypeId} (h : w.heap[b]? = some (.cells #[.int .i64 a0, .int .i64 a1, .int .i64 a2, .int .i64 a3, .int .i64 a4] t (0, 0))) : w.cell? ⟨b, 0, none⟩ = some (.int .i64 a0) ∧ w.cell? ⟨b, 1, none⟩ = some (.int .i64 a1) ∧ w.cell? ⟨b, 2, none⟩ = some (.int .i64 a2) ∧ w.cell? ⟨b, 3, none⟩ = some (.int .i64 a3) ∧ w.cell? ⟨b, 4, none⟩ = some (.int .i64 a4) ∧ ∀ q, w.frozen? ⟨b, q, none⟩ = false := by
  refine ⟨?_, ?_, ?_, ?_, ?_, fun q => frozen_of_row _ _ q _ _ h⟩ <;> simp [World.cell?, h]
theorem results_one {fn : Func} {p : Tmp} {ty : TypeId} (h : fn.results = #[.cell p ty]) (tmps : Array Value) (P : Program) (w : World) :
    (results fn tmps).run P w = ((asAddr (tmps.getD p undef)).run P w).andThen fun a w₁ => (loadVar ty a).run P w₁ := by
  simp only [results, h]
  simp [Sem.run_bind, Result.andThen]
set_option maxRecDepth 100000 in
theorem rstat_any (n : Nat) (A : Option Addr) (m c : Nat) (l : List Ext) (w : World) (hl : l.length = m) (hr : RdX tcells 2 w A l) (hc : chkX (n : Int) l = 0) :
    Calls Tryz.prog 22 #[.int .i64 (n : Int), .slice A m c] w fun e w' => e = .returned (statX (n : Int) l) ∧ Below w.heap.size w w' := by
  obtain ⟨o0, o1, o2, o3, -⟩ := chkX_ok hc
  have HB0 := Hidden.mk ((Below.refl w.heap.size w).alloc (Nat.le_refl _) (.cells #[.int .i64 0, .int .i64 0, .int .i64 0, .int .i64 0, .int .i64 0] 55))
  have HBK0 := Hidden.mk (heap_alloc_new w (.cells #[.int .i64 0, .int .i64 0, .int .i64 0, .int .i64 0, .int .i64 0] 55))
  have HC : Hidden (∀ W, Below w.heap.size w W → Calls Tryz.prog 66 #[.int .i64 (n : Int), .slice A m c] W fun e w' => ∃ v, e = .returned v ∧ w'.ownsRow W.heap.size 92 2 v (holesX (n : Int) l).length ((holesX (n : Int) l).flatMap tcells) ∧ Below W.heap.size W w') := ⟨fun W hW => rholes_any n A m c l W hl (hr.below hW) hc⟩
  have HLE : Hidden ((holesX (n : Int) l).length ≤ 201) := ⟨by have := holesX_len (n : Int) l; omega⟩
  have HSX : Hidden (statX (n : Int) l = statV m (sumX l) ((n : Int) - sumX l) (mostX (holesX (n : Int) l)) (holesX (n : Int) l).length) := ⟨by unfold statX; rw [if_pos hc, hl]⟩
  have HSU := Hidden.mk (stat_used hc)
  have HOK : Hidden (OkX (holesX (n : Int) l)) := ⟨fun x hx => by have := holes_mem hc x hx; omega⟩
  have HN : Hidden (n ≤ 6400) := ⟨by omega⟩
  rw [HSX.out]
  unfold statV
  generalize holesX (n : Int) l = H at *
  generalize sumX l = su at *
  clear hl hr hc o0 o1 o2 o3 HSX
  go_enter Tryz.func22, Tryz.ntmps22
  go_wp2_with fail
  generalize w.alloc (.cells #[.int .i64 0, .int .i64 0, .int .i64 0, .int .i64 0, .int .i64 0] 55) = w0 at *
  refine (HC.out _ HB0.out).mono ?_
  rintro e w1 ⟨v, rfl, hown, hb1⟩
  obtain ⟨A1, c1, rfl, -, -⟩ := own_split hown
  have HR := Hidden.mk (own_rdX3 (f := tcells) tcells_len rfl hown)
  have hlt : w.heap.size < w0.heap.size := (Array.getElem?_eq_some_iff.1 HBK0.out).1
  have hlt1 : w.heap.size < w1.heap.size := Nat.lt_of_lt_of_le hlt hb1.size
  have HBK1 := Hidden.mk ((hb1.block _ hlt).trans HBK0.out)
  have HB1 := Hidden.mk (HB0.out.trans (hb1.mono HB0.out.size))
  generalize hm : H.length = hn at *
  have HM := Hidden.mk hm
  have hle := HLE.out
  have hal := (Below.refl w1.heap.size w1).alloc (Nat.le_refl _) (.cells #[.int .i64 m, .int .i64 0, .int .i64 0, .int .i64 0, .int .i64 hn] 55)
  have HST : Hidden (Below w1.heap.size w1 (w1.alloc (.cells #[.int .i64 m, .int .i64 0, .int .i64 0, .int .i64 0, .int .i64 hn] 55)) ∧ (w1.alloc (.cells #[.int .i64 m, .int .i64 0, .int .i64 0, .int .i64 0, .int .i64 hn] 55)).heap[w1.heap.size]? = some (.cells #[.int .i64 m, .int .i64 0, .int .i64 0, .int .i64 0, .int .i64 hn] 55 (0, 0))) := ⟨hal, heap_alloc_new w1 _⟩
  clear hown hb1 HC hm hal hlt HB0 HBK0
  go_wp2_with fail
  generalize w1.alloc (.cells #[.int .i64 m, .int .i64 0, .int .i64 0, .int .i64 0, .int .i64 hn] 55) = w2 at *
  generalize hsb : w1.heap.size = sb at *
  have HSB := Hidden.mk hsb
  clear hsb
  go_loopg [7] hn (fun q iv wr => ∃ (k : Nat) (fr mo : Int), k ≤ hn ∧ q = hn - k ∧ iv = .int .i64 (k : Int) ∧ 0 ≤ fr ∧ fr ≤ 6400 * k ∧ 0 ≤ mo ∧ Hidden (sumX (H.take k) = fr ∧ mostX (H.take k) = mo ∧ Below sb w1 wr ∧ wr.heap[sb]? = some (.cells #[.int .i64 m, .int .i64 0, .int .i64 fr, .int .i64 mo, .int .i64 hn] 55 (0, 0))))
  case atStart => exact ⟨0, 0, 0, by omega, rfl, rfl, by omega, by omega, by omega, ⟨rfl, rfl, HST.out.1, HST.out.2⟩⟩
  case round =>
    obtain ⟨k, fr, mo, hk, rfl, rfl, hf0, hf1, hm0, hst⟩ := hrel
    by_cases hlt : k < hn
    · have hkl : k < H.length := by rw [HM.out]; exact hlt
      obtain ⟨pp, oo, rfl, hcx⟩ := HR.out k hkl
      have x1 := hcx 1 _ rfl
      have HS1 := Hidden.mk (sumX_succ H k hkl)
      have HS2 := Hidden.mk (mostX_succ H k hkl)
      have hok := HOK.out H[k] (List.getElem_mem hkl)
      generalize H[k] = e at *
      obtain ⟨e1, e2⟩ := e
      dsimp only at x1 HS1 HS2 hok
      have hn64 := HN.out
      have i0 : (0 : Int) ≤ k := by omega
      have i1 : (k : Int) < hn := by omega
      have s1 : IntKind.i64.wrap ((k : Int) + 1) = (k : Int) + 1 := IntWalk.i64_in _ (by omega)
      have s2 : IntKind.i64.wrap (fr + e2) = fr + e2 := IntWalk.i64_in _ (by omega)
      have hx1 : ∀ W, Below sb w1 W → W.cell? ⟨pp, oo + k * 2 + 1, none⟩ = some (.int .i64 e2) := fun W hW => (by
        rw [← HSB.out] at hW
        exact (hW.cell (p := ⟨pp, oo + k * 2 + 1, none⟩) (block_lt_of_cell x1)).trans x1)
      have HX1 := Hidden.mk hx1
      have y1 := hx1 wr hst.out.2.2.1
      obtain ⟨z0, z1, z2, z3, z4, zf⟩ := fiveCells hst.out.2.2.2
      have zf2 := zf 2
      have HBB := Hidden.mk (And.intro hst.out.2.2.1 hst.out.2.2.2)
      have HSF : Hidden (sumX (H.take (k + 1)) = fr + e2) := ⟨by rw [HS1.out, hst.out.1]⟩
      have HSM : Hidden (mostX (H.take (k + 1)) = max mo e2) := ⟨by rw [HS2.out, hst.out.2.1]⟩
      clear hcx x1 hx1 zf hst HST HS1 HS2
      go_upto_region 6 with (fail)
      go_still_tail 9, (by kernel_rfl)
      change wpList _ _ _ _ _ wr.drew
      have HBB' : Hidden (Below sb w1 wr.drew ∧ wr.drew.heap[sb]? = some (.cells #[.int .i64 m, .int .i64 0, .int .i64 fr, .int .i64 mo, .int .i64 hn] 55 (0, 0))) := ⟨HBB.out.1.drew, HBB.out.2⟩
      clear z0 z1 z2 z3 z4 zf2 y1 HBB
      generalize wr.drew = wd at *
      have zf2 := (fiveCells HBB'.out.2).2.2.2.2.2 2
      have z2 := (fiveCells HBB'.out.2).2.2.1
      have HBD : Hidden (Below sb w1 (wd.setCell ⟨sb, 2, none⟩ (.int .i64 (fr + e2))) ∧ (wd.setCell ⟨sb, 2, none⟩ (.int .i64 (fr + e2))).heap[sb]? = some (.cells #[.int .i64 m, .int .i64 0, .int .i64 (fr + e2), .int .i64 mo, .int .i64 hn] 55 (0, 0))) := ⟨HBB'.out.1.setCell (p := ⟨sb, 2, none⟩) (Nat.le_refl _) _, heap_setK (k := 2) HBB'.out.2 _⟩
      go_upto_region 7 with (fail)
      clear z2 zf2 HBB'
      generalize wd.setCell ⟨sb, 2, none⟩ (.int .i64 (fr + e2)) = w5 at *
      have y2 := HX1.out w5 HBD.out.1
      obtain ⟨z0, z1, z2, z3, z4, zf⟩ := fiveCells HBD.out.2
      by_cases hgt : mo < e2
      · have d1 : decide (mo < e2) = true := by simpa using hgt
        have HMX : Hidden (mostX (H.take (k + 1)) = e2) := ⟨by rw [HSM.out, Int.max_eq_right (by omega)]⟩
        clear hgt HSM
        go_quiet (fail)
        have HQ : Hidden (Below sb w1 (w5.drewN nq) ∧ (w5.drewN nq).heap[sb]? = some (.cells #[.int .i64 m, .int .i64 0, .int .i64 (fr + e2), .int .i64 mo, .int .i64 hn] 55 (0, 0))) := ⟨below_drewN HBD.out.1 _, HBD.out.2⟩
        have y3 : (w5.drewN nq).cell? ⟨pp, oo + k * 2 + 1, none⟩ = some (.int .i64 e2) := y2
        clear y2 z0 z1 z2 z3 z4 zf HBD
        generalize w5.drewN nq = w6 at *
        have zf3 := (fiveCells HQ.out.2).2.2.2.2.2 3
        have z3 := (fiveCells HQ.out.2).2.2.2.1
        have HE : Hidden (Below sb w1 (w6.setCell ⟨sb, 3, none⟩ (.int .i64 e2)) ∧ (w6.setCell ⟨sb, 3, none⟩ (.int .i64 e2)).heap[sb]? = some (.cells #[.int .i64 m, .int .i64 0, .int .i64 (fr + e2), .int .i64 e2, .int .i64 hn] 55 (0, 0))) := ⟨HQ.out.1.setCell (p := ⟨sb, 3, none⟩) (Nat.le_refl _) _, heap_setK (k := 3) HQ.out.2 _⟩
        clear HQ
        go_wp2_with fail
        go_roundg (hn - (k + 1))
        case measure => omega
        case rel => exact ⟨k + 1, fr + e2, e2, by omega, rfl, by go_num, by omega, by omega, by omega, ⟨HSF.out, HMX.out, HE.out⟩⟩
      · have d1 : decide (mo < e2) = false := by simpa using hgt
        have HMX : Hidden (mostX (H.take (k + 1)) = mo) := ⟨by rw [HSM.out, Int.max_eq_left (by omega)]⟩
        clear hgt HSM
        go_quiet (fail)
        have HQ : Hidden (Below sb w1 (w5.drewN nq) ∧ (w5.drewN nq).heap[sb]? = some (.cells #[.int .i64 m, .int .i64 0, .int .i64 (fr + e2), .int .i64 mo, .int .i64 hn] 55 (0, 0))) := ⟨below_drewN HBD.out.1 _, HBD.out.2⟩
        clear y2 z0 z1 z2 z3 z4 zf HBD
        generalize w5.drewN nq = w6 at *
        go_wp2_with fail
        go_roundg (hn - (k + 1))
        case measure => omega
        case rel => exact ⟨k + 1, fr + e2, mo, by omega, rfl, by go_num, by omega, by omega, by omega, ⟨HSF.out, HMX.out, HQ.out⟩⟩
    · obtain rfl : k = hn := by omega
      have t4 : decide ((k : Int) < k) = false := by simp
      have hT : H.take k = H := List.take_of_length_le (by rw [HM.out]; exact Nat.le_refl _)
      have h1 := hst.out.1
      have h2 := hst.out.2.1
      rw [hT] at h1 h2
      have hb := hst.out.2.2.1
      have hrk := (hb.block w.heap.size hlt1).trans HBK1.out
      have s1 : IntKind.i64.wrap ((n : Int) - fr) = (n : Int) - fr := IntWalk.i64_in _ (by have := HN.out; omega)
      have hset := heap_setK (k := 1) hst.out.2.2.2 (.int .i64 ((n : Int) - fr))
      have hrs := (Below.heap_setCell wr ⟨sb, 1, none⟩ (.int .i64 ((n : Int) - fr)) w.heap.size (by dsimp only; omega)).trans hrk
      obtain ⟨y0, y1, y2, y3, y4, yf⟩ := fiveCells hst.out.2.2.2
      have yf1 := yf 1
      have hbw := HB1.out.trans (hb.mono (Nat.le_of_lt hlt1))
      have HB2 : Hidden (Below w.heap.size w (wr.setCell ⟨sb, 1, none⟩ (.int .i64 ((n : Int) - fr)))) := ⟨hbw.setCell (p := ⟨sb, 1, none⟩) (by dsimp only; omega) _⟩
      have HF : Hidden (((n : Int) - fr) = su ∧ fr = (n : Int) - su ∧ mostX H = mo ∧ (H.length : Int) = k) := ⟨by rw [← h1]; exact HSU.out.1, by rw [← h1]; exact HSU.out.2.symm, h2, by rw [HM.out]⟩
      have HST2 := Hidden.mk (And.intro hset hrs)
      clear hset hrs hbw hb hrk h1 h2 hT HST hst
      go_upto_region 10 with (fail)
      clear y0 y1 y2 y3 y4 yf yf1
      generalize wr.setCell ⟨sb, 1, none⟩ (.int .i64 ((n : Int) - fr)) = w7 at *
      obtain ⟨z0, z1, z2, z3, z4, -⟩ := fiveCells (show w7.heap[sb]? = some (.cells #[.int .i64 m, .int .i64 ((n : Int) - fr), .int .i64 fr, .int .i64 mo, .int .i64 k] 55 (0, 0)) from HST2.out.1)
      obtain ⟨r0, r1, r2, r3, r4, y0⟩ := fiveCells HST2.out.2
      clear HST2
      go_wp2_with fail
      refine bodyPost_ret (v := .agg #[.int .i64 m, .int .i64 ((n : Int) - fr), .int .i64 fr, .int .i64 mo, .int .i64 k]) ?_ rfl ?_
      · rw [results_one rfl]
        go_simp
      · exact ⟨by rw [HF.out.1, ← HF.out.2.1, HF.out.2.2.1, HF.out.2.2.2], ((((HB2.out.setCell (p := ⟨w.heap.size, 0, none⟩) (Nat.le_refl _) _).setCell (p := ⟨w.heap.size, 1, none⟩) (Nat.le_refl _) _).setCell (p := ⟨w.heap.size, 2, none⟩) (Nat.le_refl _) _).setCell (p := ⟨w.heap.size, 3, none⟩) (Nat.le_refl _) _).setCell (p := ⟨w.heap.size, 4, none⟩) (Nat.le_refl _) _⟩
end Go.Proofs.YtecjjhfaljdcpaaGreat
/- MoveRoom, the plain law: what is free behind All can be had at once. No walk here. -/
namespace Go.Proofs.YtecjjhfaljdcpaaGreat
open Go.RowKit

def sumJ (g : Nat → Int) : Nat → Int
  | 0 => 0
  | n + 1 => sumJ g n + g n
theorem sumJ_upd (g g' : Nat → Int) (k : Nat) (h : ∀ j, j ≠ k → g' j = g j) : ∀ n, sumJ g' n = sumJ g n + (if k < n then g' k - g k else 0)
  | 0 => by simp [sumJ]
  | n + 1 => by
    rw [sumJ, sumJ, sumJ_upd g g' k h n]
    by_cases e : n = k
    · subst e
      rw [if_neg (by omega), if_pos (by omega)]; omega
    · rw [h n e]
      by_cases hk : k < n
      · rw [if_pos hk, if_pos (by omega)]; omega
      · rw [if_neg hk, if_neg (by omega)]; omega
def lenJ (l : Bytes) (j : Nat) : Int := if hasE (rawE l j) = true then (rLen (rawE l j) : Int) else 0
theorem sumX_snoc (L : List Ext) (x : Ext) : sumX (L ++ [x]) = sumX L + x.2 := by
  rw [sumX_append]
  have : sumX [x] = x.2 := by show (0 : Int) + x.2 = x.2; omega
  rw [this]
theorem sum_taken (l : Bytes) : sumX (takenL l) = sumJ (lenJ l) 40 := by
  have key : ∀ m, sumX ((entsL (fun k => hasE (rawE l k)) (rawE l) m).map takeX) = sumJ (lenJ l) m := by
    intro m
    induction m with
    | zero => rfl
    | succ m ih =>
      rw [entsL_succ, List.map_append, sumJ]
      by_cases h : hasE (rawE l m) = true
      · rw [if_pos h, List.map_cons, List.map_nil, sumX_snoc, ih]
        unfold lenJ; rw [if_pos h]; rfl
      · rw [if_neg h, List.map_nil, List.append_nil, ih]
        unfold lenJ; rw [if_neg h]; omega
  exact key 40
theorem AllocIs.sum {l l' : Bytes} {k a n t : Nat} (h : AllocIs l l' k a n t) (hg : Good l) : sumX (takenL l') = sumX (takenL l) + n := by
  obtain ⟨e1, e2, e3, e4⟩ := h.ent hg.bd.2
  rw [sum_taken, sum_taken]
  have key : ∀ m, m ≤ 40 → sumJ (lenJ l') m = sumJ (lenJ l) m + (if k < m then (n : Int) else 0) := by
    intro m
    induction m with
    | zero => intro _; simp [sumJ]
    | succ m ih =>
      intro hm
      rw [sumJ, sumJ, ih (by omega)]
      by_cases e : m = k
      · subst e
        rw [if_neg (by omega), if_pos (by omega)]
        unfold lenJ
        rw [if_pos e1, e3, if_neg (by rw [h.none]; decide)]
      · have : lenJ l' m = lenJ l m := by unfold lenJ; rw [h.ents m (by omega), if_neg e]
        rw [this]
        by_cases hk : k < m
        · rw [if_pos hk, if_pos (by omega)]; omega
        · rw [if_neg hk, if_neg (by omega)]; omega
  rw [key 40 (Nat.le_refl _), if_pos h.k40]
theorem all_forty {l : Bytes} (h : ∀ k, k < 40 → hasE (rawE l k) = true) : (takenL l).length = 40 := by
  unfold takenL entriesL entsL
  rw [List.length_map, List.length_map, List.filter_eq_self.2 (fun k hk => h k (List.mem_range.1 hk)), List.length_range]
/-- what the law asks -/
structure RoomIs (l : Bytes) (M : Int) : Prop where
  most : mostX (holesX ((allL l).length - 288 : Int) (takenL (allL l))) = M
  free : (l.length : Int) - 288 - sumX (takenL l) = M
  many : ((takenL (allL l)).length : Int) = (takenL l).length
theorem room_is {l : Bytes} (hg : Good l) : RoomIs l ((l.length : Int) - 288 - sumX (takenL l)) := by
  obtain ⟨hm, hgap, -⟩ := all_done hg
  obtain ⟨-, h2⟩ := packed_holes hm.good hgap
  refine ⟨?_, rfl, by rw [hm.many]⟩
  rw [h2, hm.sum, hm.len]
theorem room_alloc {L : Bytes} (hg : Good L) (h800 : L.length ≤ 1288) (hmost : mostX (holesX ((L.length : Int) - 288) (takenL L)) = (L.length : Int) - 288 - sumX (takenL L)) (h0 : mostX (holesX ((L.length : Int) - 288) (takenL L)) ≠ 0) (h40 : (takenL L).length ≠ 40) :
    allocE L (mostX (holesX ((L.length : Int) - 288) (takenL L))) 0 = 0 ∧ 0 < allocH L (mostX (holesX ((L.length : Int) - 288) (takenL L))) 0 ∧ Good (allocL L (mostX (holesX ((L.length : Int) - 288) (takenL L))) 0) ∧
    statH (allocL L (mostX (holesX ((L.length : Int) - 288) (takenL L))) 0) = statV (takenL (allocL L (mostX (holesX ((L.length : Int) - 288) (takenL L))) 0)).length (sumX (takenL (allocL L (mostX (holesX ((L.length : Int) - 288) (takenL L))) 0))) 0 (mostX (holesX (((allocL L (mostX (holesX ((L.length : Int) - 288) (takenL L))) 0).length : Int) - 288) (takenL (allocL L (mostX (holesX ((L.length : Int) - 288) (takenL L))) 0)))) 0 := by
  have hb := hg.bd
  have hc := good_chk hg
  have hmf := most_free hc
  have hm0 := (mostX_mem (holesX ((L.length : Int) - 288) (takenL L))).1
  have hs0 : 0 ≤ sumX (takenL L) := (sum_mem (fun x hx => by have := badX_false (holds_bad hc x hx); omega)).1
  generalize hM : mostX (holesX ((L.length : Int) - 288) (takenL L)) = M at *
  have hfit : fitE ((L.length : Int) - 288) (takenL L) M = 0 := by
    refine Classical.byContradiction fun hf => ?_
    have := fit_most hc hf
    rw [hM] at this
    omega
  have hfh : fH L 40 ≠ 0 := fun e => by
    rcases fH_spec L 40 (Nat.le_refl _) with ⟨_, hall⟩ | ⟨q, _, k2, k3, k4, k5⟩
    · exact h40 (all_forty (fun k hk => hall k (by omega) hk))
    · omega
  have hE : allocE L M 0 = 0 := by
    unfold allocE
    rw [if_neg (by rw [lenB_true.2 (by omega), tagB_true.2 (by omega)]; simp), if_neg (by omega)]
  obtain ⟨k, a, n', t', hn, ht, hH, _, hi⟩ := alloc_is hg hE
  have hg2 := hi.good hg
  have hc2 := good_chk hg2
  have hsum := hi.sum hg
  have hln := hi.len
  have hhs := holds_sum hc2
  refine ⟨hE, by omega, hg2, ?_⟩
  rw [statH_good hg2]
  have hz : ((allocL L M 0).length : Int) - 288 - sumX (takenL (allocL L M 0)) = 0 := by rw [hsum, hln]; omega
  have hm2 := holes_mem hc2
  have hnil : holesX (((allocL L M 0).length : Int) - 288) (takenL (allocL L M 0)) = [] := by
    generalize holesX (((allocL L M 0).length : Int) - 288) (takenL (allocL L M 0)) = H at *
    cases H with
    | nil => rfl
    | cons x r =>
      have hx := hm2 x (by simp)
      rw [sumX_cons] at hhs
      have hr : 0 ≤ sumX r := (sum_mem (fun y hy => by have := hm2 y (by simp [hy]); omega)).1
      omega
  rw [hz, hnil]
  rfl
end Go.Proofs.YtecjjhfaljdcpaaGreat
/- Plain words: what two images have alike. No walk here. -/
namespace Go.Proofs.YtecjjhfaljdcpaaGreat
open Go.RowKit Go.Maps Go.ChangeMaps

/-- an object's tag and bytes; nothing: there is none -/
def objL (l : Bytes) (k : Nat) : Bytes := if hasE (rawE l k) = true then objB l (rawE l k) else []
/-- where a name leads, of a list -/
def leadN (L : List (Bytes × Nat)) (s : Bytes) : Option Nat := L.foldl (fun o x => if s = x.1 then some x.2 else o) none
def leadC (L : List (Bytes × Nat)) : Nat := (L.foldl (fun (p : List (Bytes × Nat) × Nat) x => (p.1 ++ [x], if (leadN p.1 x.1).isSome then p.2 else p.2 + 1)) ([], 0)).2
theorem leadN_snoc (L : List (Bytes × Nat)) (x : Bytes × Nat) (s : Bytes) : leadN (L ++ [x]) s = if s = x.1 then some x.2 else leadN L s := by
  unfold leadN; rw [List.foldl_append]; rfl
theorem leadC_fst (L : List (Bytes × Nat)) : ∀ (P : List (Bytes × Nat)) (n : Nat), (L.foldl (fun (p : List (Bytes × Nat) × Nat) x => (p.1 ++ [x], if (leadN p.1 x.1).isSome then p.2 else p.2 + 1)) (P, n)).1 = P ++ L := by
  induction L with
  | nil => intro P n; simp
  | cons x L ih => intro P n; rw [List.foldl_cons, ih]; simp
theorem leadC_snoc (L : List (Bytes × Nat)) (x : Bytes × Nat) : leadC (L ++ [x]) = if (leadN L x.1).isSome then leadC L else leadC L + 1 := by
  unfold leadC
  rw [List.foldl_append, List.foldl_cons, List.foldl_nil, leadC_fst]
  simp only [List.nil_append]
theorem snoc_ind {α : Type} {p : List α → Prop} (h0 : p []) (h1 : ∀ L x, p L → p (L ++ [x])) (L : List α) : p L := by
  rw [← List.reverse_reverse L]
  induction L.reverse with
  | nil => exact h0
  | cons x L ih => rw [List.reverse_cons]; exact h1 _ _ ih
theorem leadC_le (L : List (Bytes × Nat)) : leadC L ≤ L.length := by
  induction L using snoc_ind with
  | h0 => exact Nat.le_refl _
  | h1 L x ih => rw [leadC_snoc, List.length_append]; split <;> simp <;> omega
theorem leadN_mem {L : List (Bytes × Nat)} {s : Bytes} {h : Nat} (hs : leadN L s = some h) : (s, h) ∈ L := by
  induction L using snoc_ind with
  | h0 => cases hs
  | h1 L x ih =>
    rw [leadN_snoc] at hs
    split at hs
    · rename_i e
      obtain rfl := Option.some.inj hs
      subst e
      simp
    · exact List.mem_append_left _ (ih hs)
theorem leadN_has {L : List (Bytes × Nat)} {x : Bytes × Nat} (hx : x ∈ L) : (leadN L x.1).isSome = true := by
  induction L using snoc_ind with
  | h0 => cases hx
  | h1 L y ih =>
    rw [leadN_snoc]
    split
    · rfl
    · rename_i e
      rcases List.mem_append.1 hx with h | h
      · exact ih h
      · rw [List.mem_singleton.1 h] at e; exact absurd rfl e
/-- the values as the map holds them -/
def leadF (L : List (Bytes × Nat)) (s : Bytes) : Option Value := (leadN L s).map fun h => .int .i64 h
theorem leadF_snoc (L : List (Bytes × Nat)) (x : Bytes × Nat) : leadF (L ++ [x]) = upd (leadF L) x.1 (.int .i64 x.2) := by
  funext s
  unfold leadF upd
  rw [leadN_snoc]
  split <;> rfl
theorem leadF_isSome (L : List (Bytes × Nat)) (s : Bytes) : (leadF L s).isSome = (leadN L s).isSome := by
  unfold leadF; cases leadN L s <;> rfl
/-- do the names of two lists lead alike? -/
def leadsB (x y : List (Bytes × Nat)) : Bool := (x.all fun p => (leadN y p.1).getD 0 == (leadN x p.1).getD 0) && leadC x == leadC y
def objsB (a b : Bytes) : Bool := (List.range 40).all fun k => objL a k == objL b k
/-- have two images the same? -/
def sameB (a b : Bytes) : Bool := objsB a b && leadsB (rootsL a) (rootsL b)
theorem objsB_false {a b : Bytes} {k : Nat} (hk : k < 40) (h : objL a k ≠ objL b k) : sameB a b = false := by
  unfold sameB objsB
  rw [Bool.and_eq_false_iff]
  left
  rw [List.all_eq_false]
  exact ⟨k, List.mem_range.2 hk, by simpa using h⟩
theorem objsB_true {a b : Bytes} (h : ∀ k, k < 40 → objL a k = objL b k) : objsB a b = true := by
  unfold objsB
  rw [List.all_eq_true]
  intro k hk
  simpa using h k (List.mem_range.1 hk)
theorem leadsB_refl (x : List (Bytes × Nat)) : leadsB x x = true := by
  unfold leadsB; simp
theorem sameB_refl (a : Bytes) : sameB a a = true := by
  unfold sameB
  rw [objsB_true fun _ _ => rfl, leadsB_refl]; rfl
end Go.Proofs.YtecjjhfaljdcpaaGreat
/- MoveKeeps, the plain law. No walk here. -/
namespace Go.Proofs.YtecjjhfaljdcpaaGreat
open Go.RowKit

theorem same_moved {l l' : Bytes} (h : MovedR l l') (hg : Good l) : sameB l l' = true := by
  unfold sameB
  rw [h.roots, leadsB_refl, Bool.and_true]
  refine objsB_true fun k hk => ?_
  obtain ⟨h1, h2⟩ := h.obj k hk
  have hh := h.has k hk
  unfold objL objB
  unfold objT at h1
  unfold objS at h2
  rw [hh] at h1 h2 ⊢
  by_cases e : hasE (rawE l k) = true
  · simp only [if_pos e] at h1 h2 ⊢
    rw [h1, h2]
  · simp only [if_neg e]
theorem fit_empty (n m : Nat) (h1 : 1 ≤ m) (h2 : m ≤ n) (h3 : n ≤ 6400) : fitE (n : Int) [] (m : Int) = 0 ∧ fitA (n : Int) [] (m : Int) = 0 := by
  have hc : chkX (n : Int) [] = 0 := chkX_of (by omega) (by omega) (by simp) (fun e he => by cases he) List.Pairwise.nil
  have hs : sortE [] = [] := List.Perm.eq_nil (sortE_perm [])
  have hh : holesX (n : Int) [] = [(0, (n : Int))] := by
    rw [holes_runs, hs, runsX_nil, if_pos (by omega)]; simp
  have hb : bestX (m : Int) [(0, (n : Int))] = (0, (n : Int)) := by
    show (if (m : Int) ≤ n ∧ ((0 : Int) = 0 ∨ (n : Int) < 0) then ((0 : Int), (n : Int)) else (0, 0)) = _
    rw [if_pos ⟨by omega, .inl rfl⟩]
  have e : fitE (n : Int) [] (m : Int) = 0 := by
    unfold fitE; rw [if_pos hc, if_neg (by omega), hh, hb, if_neg (by dsimp only; omega)]
  exact ⟨e, by unfold fitA; rw [if_pos e, hh, hb]⟩
theorem taken_none {l : Bytes} (h : ∀ k, k < 40 → hasE (rawE l k) = false) : takenL l = [] := by
  unfold takenL entriesL entsL
  rw [List.filter_eq_nil_iff.2 (fun k hk => by rw [h k (List.mem_range.1 hk)]; decide)]; rfl
theorem ents_one {l : Bytes} {k : Nat} (hk : k < 40) (h1 : hasE (rawE l k) = true) (h0 : ∀ j, j < 40 → j ≠ k → hasE (rawE l j) = false) : entriesL l = [((k : Int) + 1, rawE l k)] := by
  have hp : (entriesL l).Perm [((k : Int) + 1, rawE l k)] := by
    refine (List.perm_ext_iff_of_nodup ?_ (by simp)).2 fun e => ?_
    · exact (entL_nodup l).imp fun {a b} h e => h (by rw [e])
    · rw [entL_mem, List.mem_singleton]
      constructor
      · rintro ⟨j, hj, hh, rfl⟩
        by_cases e : j = k
        · rw [e]
        · rw [h0 j hj e] at hh; cases hh
      · rintro rfl; exact ⟨k, hk, h1, rfl⟩
  exact List.perm_singleton.1 hp
theorem keeps_start : ∃ (l1 l2 l3 L : Bytes) (hh : Int), allocL (List.replicate 320 0) 5 0 = l1 ∧ allocE (List.replicate 320 0) 5 0 = 0 ∧ allocH (List.replicate 320 0) 5 0 = 1 ∧ allocL l1 5 1 = l2 ∧ allocE l1 5 1 = 0 ∧ allocH l1 5 1 = hh ∧ freeE l2 1 = 0 ∧ freeL l2 1 = l3 ∧ Good l3 ∧ allN l3 = 1 ∧ allL l3 = L ∧ Good L ∧ ∃ o u m, statH L = statV o u 27 m 1 := by
  have hg : Good (List.replicate 320 0) := good_zero' rfl
  have hz : ∀ j, j < 40 → hasE (rawE (List.replicate 320 0) j) = false := fun j hj => by
    rw [show rawE (List.replicate 320 0) j = List.replicate 5 0 from zeros_cut 320 (5 * j) 5 (by omega)]; exact zeros_has
  have hr : ∀ i, i < 8 → rawR (List.replicate 320 0) i = List.replicate 11 0 := fun i hi => zeros_cut 320 (200 + 11 * i) 11 (by omega)
  have hlen : (List.replicate 320 (0 : UInt8)).length = 320 := List.length_replicate
  generalize List.replicate 320 (0 : UInt8) = l at *
  have hfst : ∀ (l : Bytes) (k : Nat), k < 40 → (∀ j, j < k → hasE (rawE l j) = true) → hasE (rawE l k) = false → fH l 40 = k + 1 := fun l k hk h0 h1 => by
    rcases fH_spec l 40 (Nat.le_refl _) with ⟨_, hall⟩ | ⟨q, _, k2, k3, k4, k5⟩
    · have := hall k (by omega) hk
      rw [h1] at this; cases this
    · rw [k3]
      rcases Nat.lt_trichotomy q k with hq | rfl | hq
      · rw [h0 q hq] at k4; cases k4
      · rfl
      · have := k5 k (by omega) hq
        rw [h1] at this; cases this
  have htk := taken_none hz
  have hfe : fitE ((32 : Nat) : Int) [] 5 = 0 ∧ fitA ((32 : Nat) : Int) [] 5 = 0 := fit_empty 32 5 (by omega) (by omega) (by omega)
  have hll : ((l.length : Int) - 288) = ((32 : Nat) : Int) := by rw [hlen]; rfl
  have f1 := hfst l 0 (by omega) (fun j hj => by omega) (hz 0 (by omega))
  have hE : allocE l 5 0 = 0 := by
    unfold allocE
    rw [if_neg (by decide), hll, htk, if_neg (by rw [f1]; have := hfe.1; omega)]
  have hH : allocH l 5 0 = 1 := by unfold allocH; rw [if_pos hE, f1]; rfl
  obtain ⟨k, a, n', t', e1, e2, hH', hA, hi⟩ := alloc_is hg hE
  obtain rfl : n' = 5 := by omega
  obtain rfl : t' = 0 := by omega
  obtain rfl : k = 0 := by omega
  have ha : a = 288 := by
    unfold allocA at hA
    rw [hll, htk] at hA
    have := hfe.2
    omega
  subst ha
  have hg1 := hi.good hg
  have he1 := hi.ent hg.bd.2
  have hlen1 : (allocL l 5 0).length = 320 := by rw [hi.len, hlen]
  have hents := hi.ents
  have hrots := hi.rots
  generalize allocL l 5 0 = l1 at *
  have hn1 : ∀ j, j < 40 → j ≠ 0 → hasE (rawE l1 j) = false := fun j hj hne => by rw [hents j hj, if_neg hne]; exact hz j hj
  have hc1 := good_chk hg1
  rw [hlen1] at hc1
  have f2 := hfst l1 1 (by omega) (fun j hj => by rw [show j = 0 by omega]; exact he1.1) (hn1 1 (by omega) (by omega))
  have hE2 : allocE l1 5 1 = 0 := by
    have hf : fitE ((320 : Nat) - 288 : Int) (takenL l1) 5 = 0 := fit_exists hc1 (p := 5) (by omega) (by omega) (by omega) (fun e he => by
      obtain ⟨j, hj, hh, rfl⟩ := takenL_mem.1 he
      by_cases h0 : j = 0
      · subst h0; right; rw [he1.2.1, he1.2.2.1]; dsimp only; omega
      · rw [hn1 j hj h0] at hh; cases hh)
    unfold allocE
    rw [if_neg (by decide), hlen1, if_neg (by rw [f2, hf]; decide)]
  obtain ⟨k, a, n', t', e1, e2, hH2, _, hi2⟩ := alloc_is hg1 hE2
  obtain rfl : n' = 5 := by omega
  obtain rfl : t' = 1 := by omega
  have hk1 : k = 1 := by
    have : allocH l1 5 1 = 2 := by unfold allocH; rw [if_pos hE2, f2]; rfl
    omega
  subst hk1
  have ha2 : 293 ≤ a := by
    have h := hi2.apart 0 (by omega) he1.1
    have := hi2.a0
    rw [he1.2.1, he1.2.2.1] at h
    omega
  have hg2 := hi2.good hg1
  have he2 := hi2.ent hg1.bd.2
  have hlen2 : (allocL l1 5 1).length = 320 := by rw [hi2.len, hlen1]
  have hents2 := hi2.ents
  have hrots2 := hi2.rots
  generalize hl2 : allocL l1 5 1 = l2 at *
  have hz2 : ∀ i, i < 8 → zeroE (rawR l2 i) = true := fun i hi' => by rw [hrots2 i hi', hrots i hi', hr i hi']; exact zeros_zero 11
  have hrl : rootsL l2 = [] := by
    unfold rootsL rootsF
    rw [List.filter_eq_nil_iff.2 (fun i hi' => by rw [hz2 i (List.mem_range.1 hi')]; decide)]; rfl
  have h20 : hasE (rawE l2 0) = true := by rw [hents2 0 (by omega), if_neg (by omega)]; exact he1.1
  have hF : freeE l2 1 = 0 := by
    unfold freeE
    have := (hE_has (l := l2) (k := 0) (by omega) h20).1
    rw [if_neg (by simpa using this), hrl]; rfl
  obtain ⟨q, hq, hfi⟩ := free_is hg2 hF
  obtain rfl : q = 0 := by omega
  have hg3 := hfi.good hg2
  have hlen3 : (freeL l2 1).length = 320 := by rw [hfi.len, hlen2]
  have hents3 := hfi.ents
  generalize hl3 : freeL l2 1 = l3 at *
  have h31 : rawE l3 1 = rawE l2 1 := by rw [hents3 1 (by omega), if_neg (by omega)]
  have hone : entriesL l3 = [(((1 : Nat) : Int) + 1, rawE l3 1)] := ents_one (by omega) (by rw [h31]; exact he2.1) (fun j hj hne => by
    rw [hents3 j hj]
    by_cases h0 : j = 0
    · rw [if_pos h0]; exact zeros_has
    · rw [if_neg h0, hents2 j hj, if_neg hne]; exact hn1 j hj h0)
  have hsm : sortM l3 = [(((1 : Nat) : Int) + 1, rawE l3 1)] := by
    have := sortM_perm l3
    rw [hone] at this
    exact List.perm_singleton.1 this
  have hgap : gapM 288 (sortM l3) = some ((((1 : Nat) : Int) + 1, rawE l3 1), 288) := by
    rw [hsm]; unfold gapM
    rw [if_pos (by dsimp only; rw [h31, he2.2.1]; omega)]
  have hsb : stepB l3 = true := by unfold stepB; rw [hgap]; rfl
  obtain ⟨s1, s2, -⟩ := step_moved hg3
  have hpk : packM 288 (sortM (stepL l3)) = 0 := by
    have h1 := s2 hsb
    have h2 : packM 288 (sortM l3) ≤ 1 := by have := packM_le (sortM l3) 288; rw [hsm] at this ⊢; exact this
    omega
  have hsb2 : stepB (stepL l3) = false := by unfold stepB; rw [packM_zero hpk]; rfl
  have hN : allN l3 = 1 := by
    unfold allN
    rw [show (40 : Nat) = 38 + 1 + 1 from rfl, allF, if_pos hsb, allF, if_neg (by rw [hsb2]; decide)]
  obtain ⟨d1, d2, -⟩ := all_done hg3
  refine ⟨l1, l2, l3, _, _, rfl, hE, hH, hl2, hE2, rfl, hF, hl3, hg3, hN, rfl, d1.good, ?_⟩
  have hst := statH_good d1.good
  have hsum : sumX (takenL (allL l3)) = 5 := by
    rw [d1.sum]
    unfold takenL
    rw [hone]
    show (0 : Int) + (rLen (rawE l3 1) : Int) = 5
    rw [h31, he2.2.2.1]; rfl
  have hln : ((allL l3).length : Int) = 320 := by rw [d1.len, hlen3]; rfl
  obtain ⟨r1, r2⟩ := packed_holes d1.good d2
  have hhs := holds_sum (good_chk d1.good)
  rw [hst]
  have hru : (holesX (((allL l3).length : Int) - 288) (takenL (allL l3))).length = 1 := by
    generalize holesX (((allL l3).length : Int) - 288) (takenL (allL l3)) = H at *
    rcases H with _ | ⟨x, _ | ⟨y, r⟩⟩
    · have : sumX ([] : List Ext) = 0 := rfl
      omega
    · rfl
    · simp at r1
  rw [hru, hsum, hln]
  exact ⟨_, _, _, rfl⟩
end Go.Proofs.YtecjjhfaljdcpaaGreat
/- What comes in: slices of ints. -/
namespace Go.Proofs.YtecjjhfaljdcpaaGreat
open Go.RowKit Go.ChangeShapes Go.WideShapes Go.ChangeAt

def icell (x : Int) : List Value := [.int .i64 x]
section
variable {H : Type} {enc : TypeId × Value → H} {w : World} {v : Value} {d : DataW H} {ps : List MemPlace} {base : Nat} {r : Reach}
set_option maxRecDepth 20000 in
theorem open_ints (hv : Value.okWide Tryz.prog w r base 24 v) (h : DataW.Trod enc Tryz.prog w 0 (fun _ => true) true 24 v d ps) (hz : (d.weights Tryz.prog 24).all (· ≤ reachBytes) = true) :
    ∃ (A : Option Addr) (c : Nat) (L : List Int), v = .slice A L.length c ∧ L.length ≤ c ∧ c ≤ 140737488351232 ∧ (∀ x ∈ L, -9223372036854775808 ≤ x ∧ x ≤ 9223372036854775807) ∧ RdX icell 1 w A L := by
  have hb : decide (1 ≤ Tryz.prog.bytesOf 3) = true := by kernel_rfl
  have hC : Tryz.prog.cellsOf 3 = 1 := by kernel_rfl
  refine open_seq (P := Tryz.prog) icell 1 (fun _ x => -9223372036854775808 ≤ x ∧ x ≤ 9223372036854775807) Tryz.underlying24 hC (by omega) (of_decide_eq_true hb) (fun n cs x hl ht hz => ?_) hv h hz
  match cs, hl with
  | [c0], _ =>
    obtain ⟨a, ha, -, wa⟩ := DataW.trod_int Tryz.underlying3 ht
    obtain ⟨lo, hi⟩ := wf_i64' wa
    exact ⟨a, by simpa [icell] using ha, lo, hi⟩
end
end Go.Proofs.YtecjjhfaljdcpaaGreat
/- MoveRoom: the walk. -/
namespace Go.Proofs.YtecjjhfaljdcpaaGreat
open Go.RowKit

theorem alloc_len {l : Bytes} (hg : Good l) (n t : Int) : (allocL l n t).length = l.length := by
  by_cases h0 : allocE l n t = 0
  · obtain ⟨k, a, n', t', _, _, _, _, h⟩ := alloc_is hg h0
    exact h.len
  · have : allocL l n t = l := by unfold allocL; rw [if_neg h0]
    rw [this]
theorem free_len {l : Bytes} (hg : Good l) (x : Int) : (freeL l x).length = l.length := by
  by_cases h0 : freeE l x = 0
  · obtain ⟨k, _, h⟩ := free_is hg h0
    exact h.len
  · have : freeL l x = l := by unfold freeL; rw [if_neg h0]
    rw [this]
/-- a block of five numbers beside a heap -/
structure Five (w : World) (F : Nat → Prop) (b : Nat) (a0 a1 a2 a3 a4 : Int) : Prop where
  blk : w.heap[b]? = some (.cells #[.int .i64 a0, .int .i64 a1, .int .i64 a2, .int .i64 a3, .int .i64 a4] 55 (0, 0))
  out : ¬ F b
section
variable {w w' : World} {F F' : Nat → Prop} {b : Nat} {a0 a1 a2 a3 a4 : Int}
theorem Five.lt (h : Five w F b a0 a1 a2 a3 a4) : b < w.heap.size := (Array.getElem?_eq_some_iff.1 h.blk).1
theorem Five.below (h : Five w F b a0 a1 a2 a3 a4) (hb : Below w.heap.size w w') : Five w' F b a0 a1 a2 a3 a4 := ⟨(hb.block _ h.lt).trans h.blk, h.out⟩
theorem Five.moved {w0 : World} {hh : Nat} {l : Bytes} (h : Five w F b a0 a1 a2 a3 a4) (hm : HpM w0 w w' F F' hh l) : Five w' F' b a0 a1 a2 a3 a4 :=
  ⟨(hm.kp.block _ h.lt h.out).trans h.blk, fun hk => by rcases hm.nw _ hk with h' | h'; exact h.out h'; have := h.lt; omega⟩
theorem Five.cells (h : Five w F b a0 a1 a2 a3 a4) : w.cell? ⟨b, 0, none⟩ = some (.int .i64 a0) ∧ w.cell? ⟨b, 1, none⟩ = some (.int .i64 a1) ∧ w.cell? ⟨b, 2, none⟩ = some (.int .i64 a2) ∧ w.cell? ⟨b, 3, none⟩ = some (.int .i64 a3) ∧ w.cell? ⟨b, 4, none⟩ = some (.int .i64 a4) := by
  have := h.blk
  refine ⟨?_, ?_, ?_, ?_, ?_⟩ <;> simp [World.cell?, this]
theorem Five.made {w0 : World} {hh : Nat} {l : Bytes} (hp : Hp w0 w F hh l) : Five (w.alloc (.cells #[.int .i64 a0, .int .i64 a1, .int .i64 a2, .int .i64 a3, .int .i64 a4] 55)) F w.heap.size a0 a1 a2 a3 a4 :=
  ⟨heap_alloc_new w _, fun hk => by have := hp.flt _ hk; omega⟩
end
end Go.Proofs.YtecjjhfaljdcpaaGreat
/- The contract of check.Leads. -/
namespace Go.Proofs.YtecjjhfaljdcpaaGreat
open Go.RowKit Go.Maps Go.ChangeMaps

def strL (s : Bytes) : Lit := .string s
theorem strL_inj (x y : Bytes) (h : strL x = strL y) : x = y := by
  unfold strL at h; injection h
theorem str_keyed : Go.Maps.Keyed Tryz.prog 9 := Go.Maps.string_keyed Tryz.underlying9
theorem str_key {s : Bytes} (hs : s.length ≤ 100000) : keyOf Tryz.prog 9 (sv s) = some (strL s) := by
  have := Go.WideMaps.keyOf_string_mk (P := Tryz.prog) Tryz.underlying9 (s := ⟨s.toArray⟩) (by unfold maxLen; simp [ByteArray.size]; omega)
  simpa [strL] using this
theorem rcells_len2 (x : Bytes × Nat) : (rcells x).length = 2 := rfl
theorem rootP_len (S : Nat → Bytes) (m : Nat) (x : Bytes × Nat) (h : x ∈ rootsF S m) : x.1.length ≤ 8 := by
  unfold rootsF at h
  obtain ⟨i, _, rfl⟩ := List.mem_map.1 h
  unfold rootP
  split
  · unfold nmR nameAt
    rw [List.length_take, List.length_take]; omega
  · simp
end Go.Proofs.YtecjjhfaljdcpaaGreat
/- Plain facts on applying changes, and turning them. No program in sight. -/
namespace Go.Proofs.YtecjjhfaljdcpaaGreat

/-- one change applied: a number of an error, or the bytes -/
def apply1 (b : Bytes) (c : Chg) : Except Int Bytes :=
  if c.at_ < 0 ∨ (b.length : Int) < c.at_ ∨ (b.length : Int) - c.at_ < c.old.length then .error 1
  else if c.old.length ≠ c.new.length then .error 3
  else if (b.drop c.at_.toNat).take c.old.length ≠ c.old then .error 6
  else .ok (splice b c.at_.toNat c.new)
/-- changes applied, one after the other -/
def applyL : Bytes → List Chg → Except Int Bytes
  | b, [] => .ok b
  | b, c :: L => match apply1 b c with
    | .error e => .error e
    | .ok b' => applyL b' L
/-- changes turned -/
def turnC (c : Chg) : Chg := ⟨c.at_, c.new, c.old⟩
def turnL (L : List Chg) : List Chg := L.reverse.map turnC

theorem apply1_len {b b' : Bytes} {c : Chg} (h : apply1 b c = .ok b') : b'.length = b.length := by
  unfold apply1 at h
  split at h
  · cases h
  · split at h
    · cases h
    · split at h
      · cases h
      · rename_i h1 h2 h3
        injection h with h
        subst h
        exact length_splice _ _ _ (by omega)
theorem apply1_ok (b old new : Bytes) (j : Nat) (hn : old.length = new.length) (hj : j + old.length ≤ b.length) (ho : (b.drop j).take old.length = old) : apply1 b ⟨j, old, new⟩ = .ok (splice b j new) := by
  unfold apply1
  simp only [Int.toNat_natCast]
  rw [if_neg (by omega), if_neg (by omega), if_neg (by simpa using ho)]
theorem applyL_append (b : Bytes) (L M : List Chg) : applyL b (L ++ M) = match applyL b L with
    | .error e => .error e
    | .ok b' => applyL b' M := by
  induction L generalizing b with
  | nil => rfl
  | cons c L ih =>
    simp only [List.cons_append, applyL]
    cases apply1 b c with
    | error e => rfl
    | ok b' => exact ih b'
theorem applyL_one (b : Bytes) (c : Chg) : applyL b [c] = apply1 b c := by
  simp only [applyL]
  cases apply1 b c <;> rfl
theorem turnL_append (L M : List Chg) : turnL (L ++ M) = turnL M ++ turnL L := by simp [turnL]
theorem turnL_length (L : List Chg) : (turnL L).length = L.length := by simp [turnL]
theorem take_drop_ext (x y : Bytes) (i r : Nat) (h : ∀ p, i ≤ p → p < i + r → x[p]? = y[p]?) : (x.drop i).take r = (y.drop i).take r := by
  apply List.ext_getElem?
  intro p
  rw [List.getElem?_take, List.getElem?_take]
  split
  · rw [List.getElem?_drop, List.getElem?_drop]; exact h _ (by omega) (by omega)
  · rfl
theorem splice_read (l x : Bytes) (o p : Nat) (h : o + x.length ≤ l.length) : (splice l o x)[p]? = if o ≤ p ∧ p < o + x.length then x[p - o]? else l[p]? := by
  split
  · rename_i hp
    have := splice_get l x o (p - o) h (by omega)
    rwa [show o + (p - o) = p from by omega] at this
  · rename_i hp
    exact (splice_same l x o p h (by omega)).symm
theorem cut_read (x : Bytes) (i r p : Nat) (h1 : i ≤ p) (h2 : p < i + r) : ((x.drop i).take r)[p - i]? = x[p]? := by
  rw [List.getElem?_take, if_pos (by omega), List.getElem?_drop]
  congr 1; omega
/-- what has changed makes of the old the new -/
theorem apply_diffF (a b : Bytes) (hl : a.length = b.length) (f : Nat) : ∀ i cur, a.length - i ≤ f → cur.length = a.length → (∀ p, cur[p]? = if p < i then b[p]? else a[p]?) → applyL cur (diffF a b f i) = .ok b := by
  have hend : ∀ i (cur : Bytes), a.length ≤ i → cur.length = a.length → (∀ p, cur[p]? = if p < i then b[p]? else a[p]?) → cur = b := by
    intro i cur hi hc hp
    apply List.ext_getElem?
    intro p
    rw [hp p]
    split
    · rfl
    · rw [List.getElem?_eq_none (by omega), List.getElem?_eq_none (by omega)]
  induction f with
  | zero =>
    intro i cur hf hc hp
    simp only [diffF, applyL]
    rw [hend i cur (by omega) hc hp]
  | succ f ih =>
    intro i cur hf hc hp
    simp only [diffF]
    by_cases hi : i < a.length
    · rw [if_pos hi]
      have hr := runAt_le a b i hl (by omega)
      have hstop : i + runAt a b i < a.length → a[i + runAt a b i]? = b[i + runAt a b i]? := runAt_stop a b i hl
      generalize runAt a b i = r at *
      by_cases h0 : 0 < r
      · rw [if_pos h0, applyL_append, applyL_one]
        have ho : ((a.drop i).take r).length = r := by simp; omega
        have hn : ((b.drop i).take r).length = r := by simp; omega
        have hm : (cur.drop i).take ((a.drop i).take r).length = (a.drop i).take r := by
          rw [ho]
          exact take_drop_ext _ _ _ _ fun p h1 h2 => by rw [hp p, if_neg (by omega)]
        rw [apply1_ok cur _ _ i (by omega) (by omega) hm]
        dsimp only
        refine ih _ _ (by omega) (by rw [length_splice _ _ _ (by omega), hc]) fun p => ?_
        rw [splice_read _ _ _ _ (by omega), hn]
        by_cases h1 : i ≤ p ∧ p < i + r
        · rw [if_pos h1, if_pos (by omega), cut_read _ _ _ _ h1.1 h1.2]
        · rw [if_neg h1, hp p]
          by_cases h2 : p < i
          · rw [if_pos h2, if_pos (by omega)]
          · rw [if_neg h2]
            by_cases h3 : p < i + r + 1
            · rw [if_pos h3]
              obtain rfl : p = i + r := by omega
              by_cases h4 : i + r < a.length
              · exact hstop h4
              · rw [List.getElem?_eq_none (by omega), List.getElem?_eq_none (by omega)]
            · rw [if_neg h3]
      · obtain rfl : r = 0 := by omega
        rw [if_neg h0, List.nil_append]
        refine ih _ _ (by omega) hc fun p => ?_
        rw [hp p]
        by_cases h2 : p < i
        · rw [if_pos h2, if_pos (by omega)]
        · rw [if_neg h2]
          by_cases h3 : p < i + 0 + 1
          · rw [if_pos h3]
            obtain rfl : p = i := by omega
            exact hstop (by omega)
          · rw [if_neg h3]
    · rw [if_neg hi]
      simp only [applyL]
      rw [hend i cur (by omega) hc hp]
theorem apply_diffL (a b : Bytes) (hl : a.length = b.length) : applyL a (diffL a b) = .ok b :=
  apply_diffF a b hl _ 0 a (by omega) rfl fun p => by rw [if_neg (by omega)]
/-- .. and turned, of the new the old -/
theorem apply_turnF (a b : Bytes) (hl : a.length = b.length) (f : Nat) : ∀ i cur, a.length - i ≤ f → cur.length = a.length → (∀ p, i ≤ p → cur[p]? = b[p]?) →
    ∃ c', applyL cur (turnL (diffF a b f i)) = .ok c' ∧ c'.length = a.length ∧ ∀ p, c'[p]? = if p < i then cur[p]? else a[p]? := by
  have hend : ∀ i (cur : Bytes), a.length ≤ i → cur.length = a.length → ∀ p, cur[p]? = if p < i then cur[p]? else a[p]? := by
    intro i cur hi hc p
    split
    · rfl
    · rw [List.getElem?_eq_none (by omega), List.getElem?_eq_none (by omega)]
  induction f with
  | zero =>
    intro i cur hf hc hp
    exact ⟨cur, rfl, hc, hend i cur (by omega) hc⟩
  | succ f ih =>
    intro i cur hf hc hp
    simp only [diffF]
    by_cases hi : i < a.length
    · rw [if_pos hi]
      have hr := runAt_le a b i hl (by omega)
      have hstop : i + runAt a b i < a.length → a[i + runAt a b i]? = b[i + runAt a b i]? := runAt_stop a b i hl
      generalize runAt a b i = r at *
      obtain ⟨c1, h1, hl1, hp1⟩ := ih (i + r + 1) cur (by omega) hc (fun p h => hp p (by omega))
      rw [turnL_append, applyL_append, h1]
      dsimp only
      by_cases h0 : 0 < r
      · rw [if_pos h0]
        have ho : ((a.drop i).take r).length = r := by simp; omega
        have hn : ((b.drop i).take r).length = r := by simp; omega
        have hm : (c1.drop i).take ((b.drop i).take r).length = (b.drop i).take r := by
          rw [hn]
          exact take_drop_ext _ _ _ _ fun p h1 h2 => by rw [hp1 p, if_pos (by omega), hp p (by omega)]
        refine ⟨splice c1 i ((a.drop i).take r), ?_, by rw [length_splice _ _ _ (by omega), hl1], fun p => ?_⟩
        · simp only [turnL, List.reverse_cons, List.reverse_nil, List.nil_append, List.map_cons, List.map_nil, turnC]
          rw [applyL_one]
          exact apply1_ok c1 _ _ i (by omega) (by omega) hm
        · rw [splice_read _ _ _ _ (by omega), ho]
          by_cases h2 : i ≤ p ∧ p < i + r
          · rw [if_pos h2, if_neg (by omega), cut_read _ _ _ _ h2.1 h2.2]
          · rw [if_neg h2, hp1 p]
            by_cases h3 : p < i
            · rw [if_pos (by omega), if_pos h3]
            · rw [if_neg h3]
              by_cases h4 : p < i + r + 1
              · rw [if_pos h4, hp p (by omega)]
                obtain rfl : p = i + r := by omega
                by_cases h5 : i + r < a.length
                · exact (hstop h5).symm
                · rw [List.getElem?_eq_none (by omega), List.getElem?_eq_none (by omega)]
              · rw [if_neg h4]
      · obtain rfl : r = 0 := by omega
        rw [if_neg h0]
        refine ⟨c1, rfl, hl1, fun p => ?_⟩
        rw [hp1 p]
        by_cases h3 : p < i
        · rw [if_pos (by omega), if_pos h3]
        · rw [if_neg h3]
          by_cases h4 : p < i + 0 + 1
          · rw [if_pos h4, hp p (by omega)]
            obtain rfl : p = i := by omega
            exact (hstop (by omega)).symm
          · rw [if_neg h4]
    · rw [if_neg hi]
      exact ⟨cur, rfl, hc, hend i cur (by omega) hc⟩
theorem apply_turnL (a b : Bytes) (hl : a.length = b.length) : applyL b (turnL (diffL a b)) = .ok a := by
  obtain ⟨c, h, hc, hp⟩ := apply_turnF a b hl a.length 0 b (by omega) hl.symm (fun _ _ => rfl)
  have : c = a := List.ext_getElem? fun p => by rw [hp p, if_neg (by omega)]
  rw [this] at h; exact h
/-- where a change begins, and that two do not touch -/
theorem diffF_apart (a b : Bytes) (hl : a.length = b.length) (f : Nat) : ∀ i, ∀ k c d, (diffF a b f i)[k]? = some c → (diffF a b f i)[k + 1]? = some d → c.at_ + (c.old.length : Int) < d.at_ := by
  induction f with
  | zero => intro i k c d h; simp [diffF] at h
  | succ f ih =>
    intro i k c d h1 h2
    simp only [diffF] at h1 h2
    split at h1
    · rename_i hi
      rw [if_pos hi] at h2
      split at h1
      · rename_i h0
        rw [if_pos h0] at h2
        cases k with
        | zero =>
          simp only [List.singleton_append, List.getElem?_cons_zero, Option.some.injEq, List.getElem?_cons_succ] at h1 h2
          obtain ⟨j, r, hj⟩ := diffF_mem a b hl f _ d (List.mem_of_getElem? h2)
          have hle := runAt_le a b i hl (by omega)
          have ho : ((a.drop i).take (runAt a b i)).length = runAt a b i := by simp; omega
          subst h1
          rw [hj.at_]
          have := hj.lo
          dsimp only
          rw [ho]
          omega
        | succ k =>
          simp only [List.singleton_append, List.getElem?_cons_succ] at h1 h2
          exact ih _ k c d h1 h2
      · rename_i h0
        rw [if_neg h0] at h2
        exact ih _ k c d h1 h2
    · simp at h1
end Go.Proofs.YtecjjhfaljdcpaaGreat
/- The contract of diff.Apply. -/
namespace Go.Proofs.YtecjjhfaljdcpaaGreat
open Go.RowKit

/-- the cells of one change, wherever its bytes lie -/
structure ChAny (w : World) (g off i : Nat) (c : Chg) (Ao An : Option Addr) (co cn : Nat) : Prop where
  at_ : w.cell? ⟨g, off + i * 3, none⟩ = some (.int .i64 c.at_)
  old : w.cell? ⟨g, off + i * 3 + 1, none⟩ = some (.slice Ao c.old.length co)
  new : w.cell? ⟨g, off + i * 3 + 2, none⟩ = some (.slice An c.new.length cn)
  rdO : Rd w Ao c.old
  rdN : Rd w An c.new
  leO : c.old.length ≤ co
  leN : c.new.length ≤ cn
/-- the slice at A has the changes L, wherever their bytes lie -/
def RdG (w : World) (A : Option Addr) (L : List Chg) : Prop := ∀ i (h : i < L.length), ∃ g off Ao An co cn, A = some ⟨g, off, none⟩ ∧ ChAny w g off i L[i] Ao An co cn
theorem RdC.rdg {w : World} {A : Option Addr} {L : List Chg} (h : RdC w A L) : RdG w A L := fun i hi => by
  obtain ⟨g, off, go, co, gn, cn, hA, hc⟩ := h i hi
  exact ⟨g, off, _, _, co, cn, hA, hc.at_, hc.old, hc.new, hc.rowO.rd, hc.rowN.rd, hc.rowO.le.1, hc.rowN.le.1⟩
theorem ChAny.below {w w' : World} {g off i : Nat} {c : Chg} {Ao An : Option Addr} {co cn : Nat} (h : ChAny w g off i c Ao An co cn) (hb : Below w.heap.size w w') : ChAny w' g off i c Ao An co cn :=
  ⟨(hb.cell (block_lt_of_cell h.at_)).trans h.at_, (hb.cell (block_lt_of_cell h.old)).trans h.old, (hb.cell (block_lt_of_cell h.new)).trans h.new, h.rdO.below hb, h.rdN.below hb, h.leO, h.leN⟩
theorem RdG.below {w w' : World} {A : Option Addr} {L : List Chg} (h : RdG w A L) (hb : Below w.heap.size w w') : RdG w' A L := fun i hi => by
  obtain ⟨g, off, Ao, An, co, cn, hA, hc⟩ := h i hi
  exact ⟨g, off, Ao, An, co, cn, hA, hc.below hb⟩

/-- b[i:k] of bytes, wherever i stands -/
theorem run_cut_any (A : Option Addr) (n c i k : Nat) (hik : i ≤ k) (hkc : k ≤ c) (W : World) :
    (Instr.sliceAt 22 (.slice A n c) (some (.int .i64 i)) (some (.int .i64 k)) none).run Tryz.prog W = .ok (.slice (if c = i then A else A.map (·.add i)) (k - i) (c - i)) W := by
  obtain ⟨i0, hi0, hz0, hz1, hz2⟩ := info_parts byte_info
  simp [Instr.sliceAt, Instr.slice, Instr.sliceBounds, Instr.sliceBound, run_underlying Tryz.underlying22, asIntOf, sizeOf, typeInfo, hi0, hz1, hik, hkc]
/-- b[i:] of bytes -/
theorem run_tail_any (A : Option Addr) (n c i : Nat) (hin : i ≤ n) (W : World) :
    (Instr.sliceAt 22 (.slice A n c) (some (.int .i64 i)) none none).run Tryz.prog W = .ok (.slice (if c = i then A else A.map (·.add i)) (n - i) (c - i)) W := by
  obtain ⟨i0, hi0, hz0, hz1, hz2⟩ := info_parts byte_info
  simp [Instr.sliceAt, Instr.slice, Instr.sliceBounds, Instr.sliceBound, run_underlying Tryz.underlying22, asIntOf, sizeOf, typeInfo, hi0, hz1, hin]

end Go.Proofs.YtecjjhfaljdcpaaGreat
/- The contract of check.Same. -/
namespace Go.Proofs.YtecjjhfaljdcpaaGreat
open Go.RowKit Go.Maps Go.ChangeMaps

theorem right_stray {l : Bytes} (h : checkL l = []) (k : Nat) (hk : k < 40) (hE : hasE (rawE l k) = true) : strayE l.length (rawE l k) = false := by
  cases hs : strayE l.length (rawE l k) with
  | false => rfl
  | true =>
    have : (⟨1, k + 1⟩ : Flt) ∈ checkL l := mem_checkL.2 (.inl ⟨k, hk, by unfold kindH; rw [hE, hs]; simp, by unfold kindH; rw [hE, hs]; simp⟩)
    rw [h] at this; cases this
theorem str_sameKey (a b : Bytes) : (strL a).sameKey (strL b) = decide (a = b) := by
  by_cases h : a = b
  · subst h
    simp [WideAt.sameKey_self (show WideAt.IsKeyLit (strL a) from trivial)]
  · rw [decide_eq_false h]
    exact sameKey_ne (fun e => h (strL_inj _ _ e))
theorem zero_int (w : World) : (zeroValue 3).run Tryz.prog w = .ok (.int .i64 0) w := by kernel_rfl
end Go.Proofs.YtecjjhfaljdcpaaGreat
/- MoveKeeps: the walk. -/
namespace Go.Proofs.YtecjjhfaljdcpaaGreat
open Go.RowKit

theorem Rd.moved {w0 w w' : World} {F F' : Nat → Prop} {h p off : Nat} {l m : Bytes} (hr : Rd w (some ⟨p, off, none⟩) m) (hm : HpM w0 w w' F F' h l) (hp : ¬ F p) (hl : 0 < m.length) : Rd w' (some ⟨p, off, none⟩) m ∧ ¬ F' p := by
  obtain ⟨p', off', e, hlt⟩ := hr.lt hl
  have e := Option.some.inj e
  injection e with e1 e2
  subst e1 e2
  refine ⟨fun j hj => ?_, fun hk => by rcases hm.nw _ hk with h' | h'; exact hp h'; omega⟩
  obtain ⟨q, o, eq, hc⟩ := hr j hj
  refine ⟨q, o, eq, ?_⟩
  have e := Option.some.inj eq
  injection e with e1 e2
  subst e1 e2
  exact (World.cell?_of_block (a := ⟨p, off + j, none⟩) (hm.kp.block p hlt hp)).trans hc
end Go.Proofs.YtecjjhfaljdcpaaGreat
/- MoveTells: the walk. -/
namespace Go.Proofs.YtecjjhfaljdcpaaGreat
open Go.RowKit

set_option maxRecDepth 100000 in
set_option maxHeartbeats 2000000 in
theorem moveTells_walk (A : Option Addr) (n c : Nat) (b : Bytes) (w : World) (hn : b.length = n) (hnc : n ≤ c) (hrd : Rd w A b) :
    Calls Tryz.prog 4 #[.slice A n c] w fun e w' => e = .returned (.bool true) ∧ Below w.heap.size w w' := by
  have HLD := Hidden.mk (loaded_ok A n c b w hn hnc hrd)
  have HGL := Hidden.mk (loadL_good b)
  generalize loadL b = ll at *
  clear hn hnc hrd
  go_enter Tryz.func4, Tryz.ntmps4
  go_wp2_with fail
  refine HLD.out.mono ?_
  rintro e w1 ⟨h, F, p, off, c1, rfl, hc1, hp1, hr1, hfp⟩
  have hbd := HGL.out.bd
  have hrb : rightB ll.length = true := rightB_true.2 (by omega)
  have HTK := Hidden.mk (rtaken_ok (some ⟨p, off, none⟩) ll.length c1 ll w1 rfl hrb hc1 hr1)
  have HRS : Hidden (∀ A c W, RdX tcells 2 W A (takenL ll) → Calls Tryz.prog 22 #[.int .i64 ((ll.length : Int) - 288), .slice A (takenL ll).length c] W fun e w' => e = .returned (.agg #[.int .i64 ((takenL ll).length : Int), .int .i64 (sumX (takenL ll)), .int .i64 ((ll.length : Int) - 288 - sumX (takenL ll)), .int .i64 (mostX (holesX ((ll.length : Int) - 288) (takenL ll))), .int .i64 ((holesX ((ll.length : Int) - 288) (takenL ll)).length : Int)]) ∧ Below W.heap.size W w') := ⟨fun A c W hW => by
    have hcast : (((ll.length - 288 : Nat)) : Int) = (ll.length : Int) - 288 := by omega
    have h := rstat_any (ll.length - 288) A (takenL ll).length c (takenL ll) W rfl hW (by rw [hcast]; exact good_chk HGL.out)
    rw [hcast] at h
    have h2 := statH_good HGL.out
    unfold statH at h2
    rw [h2] at h
    exact h⟩
  have HGN : Hidden (∀ W, Hp w W F h ll → Calls Tryz.prog 24 #[.pointer (some ⟨h, 0, none⟩)] W fun e w' => e = .returned (.int .i64 ((ll.length : Int) - 288 - sumX (takenL ll) - mostX (holesX ((ll.length : Int) - 288) (takenL ll)))) ∧ Below W.heap.size W w') := ⟨fun W hW => mgain_any hW HGL.out⟩
  have HSB : Hidden (0 ≤ mostX (holesX ((ll.length : Int) - 288) (takenL ll)) ∧ mostX (holesX ((ll.length : Int) - 288) (takenL ll)) ≤ (ll.length : Int) - 288 - sumX (takenL ll) ∧ 0 ≤ sumX (takenL ll)) := ⟨(mostX_mem _).1, most_free (good_chk HGL.out), (sum_mem (fun x hx => by have := badX_false (holds_bad (good_chk HGL.out) x hx); omega)).1⟩
  have HFB : Hidden ((ll.length : Int) - 288 - sumX (takenL ll) ≤ 6400) := ⟨by have := HSB.out; omega⟩
  have HMA : Hidden (∀ W, Hp w W F h ll → Calls Tryz.prog 18 #[.pointer (some ⟨h, 0, none⟩)] W fun e w' => e = .returned (.tuple #[.int .i64 (allN ll : Int), .nilIface]) ∧ ∃ F', HpM w W w' F F' h (allL ll)) := ⟨fun W hW => mall_any hW HGL.out⟩
  have HAD := Hidden.mk (all_done HGL.out)
  have HAF : Hidden (packM 288 (sortM ll) ≤ 40 ∧ (allN ll, allL ll) = (0 + (allF 40 ll).1, (allF 40 ll).2)) := ⟨pack40 ll, by rw [Nat.zero_add]; rfl⟩
  have HALN : Hidden ((allL ll).length = ll.length ∧ allN ll ≤ 40) := ⟨HAD.out.1.len, HAD.out.2.2⟩
  have HP1 := Hidden.mk hp1
  have HR1 := Hidden.mk (And.intro hr1 hfp)
  have s0 : IntKind.i64.wrap ((ll.length : Int) - 288) = (ll.length : Int) - 288 := IntWalk.i64_in _ (by omega)
  generalize mostX (holesX ((ll.length : Int) - 288) (takenL ll)) = mo at *
  generalize ((holesX ((ll.length : Int) - 288) (takenL ll)).length : Int) = ru at *
  generalize (ll.length : Int) - 288 - sumX (takenL ll) = fr at *
  generalize sumX (takenL ll) = su at *
  generalize allN ll = an at *
  generalize allL ll = al at *
  clear hp1 hr1 hfp HLD HAD hrb
  go_wp2_with fail
  refine HTK.out.mono ?_
  rintro e w2 ⟨A2, c2, rfl, hc2, hr2, hb2⟩
  have HS2 := Hidden.mk (HRS.out A2 c2 w2 hr2)
  have HB2 := Hidden.mk hb2
  generalize hob : (takenL ll).length = ob at *
  clear hr2 hb2 HTK HRS hc2 hob
  go_wp2_with fail
  refine HS2.out.mono ?_
  rintro e w3 ⟨rfl, hb3⟩
  have HB3 := Hidden.mk (HB2.out.trans (hb3.mono HB2.out.size))
  clear hb3 HS2 HB2
  have HAL : Hidden (Below w1.heap.size w1 (w3.alloc (.cells #[.int .i64 ob, .int .i64 su, .int .i64 fr, .int .i64 mo, .int .i64 ru] 55)) ∧ (w3.alloc (.cells #[.int .i64 ob, .int .i64 su, .int .i64 fr, .int .i64 mo, .int .i64 ru] 55)).heap[w3.heap.size]? = some (.cells #[.int .i64 ob, .int .i64 su, .int .i64 fr, .int .i64 mo, .int .i64 ru] 55 (0, 0)) ∧ w1.heap.size ≤ w3.heap.size) := ⟨HB3.out.alloc HB3.out.size _, heap_alloc_new w3 _, HB3.out.size⟩
  go_wp2_with fail
  generalize w3.alloc (.cells #[.int .i64 ob, .int .i64 su, .int .i64 fr, .int .i64 mo, .int .i64 ru] 55) = w4 at *
  generalize w3.heap.size = sb at *
  refine (HGN.out w4 (HP1.out.below HAL.out.1)).mono ?_
  rintro e w5 ⟨rfl, hb5⟩
  have H5 : Hidden (Below w1.heap.size w1 w5 ∧ w5.heap[sb]? = some (.cells #[.int .i64 ob, .int .i64 su, .int .i64 fr, .int .i64 mo, .int .i64 ru] 55 (0, 0))) := ⟨HAL.out.1.trans (hb5.mono HAL.out.1.size), (hb5.block _ (Array.getElem?_eq_some_iff.1 HAL.out.2.1).1).trans HAL.out.2.1⟩
  have HSBW : Hidden (w1.heap.size ≤ sb) := ⟨HAL.out.2.2⟩
  clear hb5 HGN HB3 HAL
  go_wp2_with fail
  go_loopg [7, 8] 41 (fun q nv xv wr => ∃ (i f : Nat) (p' o' c' : Nat) (l' : Bytes), i + f = 40 ∧ q = f + 1 ∧ nv = .int .i64 (i : Int) ∧ xv = .slice (some ⟨p', o', none⟩) ll.length c' ∧ Hidden (Good l' ∧ l'.length = ll.length ∧ packM 288 (sortM l') ≤ f ∧ (an, al) = (i + (allF f l').1, (allF f l').2) ∧ ll.length ≤ c' ∧ ¬ F p' ∧ Rd wr (some ⟨p', o', none⟩) l' ∧ Below w5.heap.size w5 wr))
  case atStart => exact ⟨0, 40, p, off, c1, ll, rfl, rfl, rfl, rfl, ⟨HGL.out, rfl, HAF.out.1, HAF.out.2, hc1, HR1.out.2, HR1.out.1.below H5.out.1, Below.refl _ _⟩⟩
  case round =>
    obtain ⟨i, f, p', o', c', l', hif, rfl, rfl, rfl, hst⟩ := hrel
    have HST := Hidden.mk hst.out
    have HC := Hidden.mk (rstep_any p' o' ll.length c' l' wr hst.out.2.1 hst.out.1 hst.out.2.2.2.2.1 hst.out.2.2.2.2.2.2.1)
    have hbf : f = 0 → stepB l' = false := fun h0 => by
      have hgn := packM_zero (a := 288) (S := sortM l') (by have := hst.out.2.2.1; omega)
      unfold stepB; rw [hgn]; rfl
    have HBF := Hidden.mk hbf
    have HSM := Hidden.mk (step_moved hst.out.1)
    have HAFF : Hidden (∀ g, f = g + 1 → allF f l' = if stepB l' = true then ((allF g (stepL l')).1 + 1, (allF g (stepL l')).2) else (0, l')) := ⟨fun g hg => by rw [hg]; rfl⟩
    have HAZ : Hidden (f = 0 → allF f l' = (0, l')) := ⟨fun hg => by rw [hg]; rfl⟩
    have s1 : IntKind.i64.wrap ((i : Int) + 1) = (i : Int) + 1 := IntWalk.i64_in _ (by omega)
    clear hst hbf HAF
    cases hb : stepB l' with
    | true =>
      rw [hb] at HC
      have hf : f ≠ 0 := fun h0 => by have := HBF.out h0; rw [hb] at this; cases this
      obtain ⟨g, rfl⟩ : ∃ g, f = g + 1 := ⟨f - 1, by omega⟩
      have HA1 := Hidden.mk (HAFF.out g rfl)
      rw [hb, if_pos rfl] at HA1
      have hlt := HSM.out.2.1 hb
      have HN : Hidden (Good (stepL l') ∧ (stepL l').length = ll.length ∧ packM 288 (sortM (stepL l')) ≤ g ∧ (an, al) = (i + 1 + (allF g (stepL l')).1, (allF g (stepL l')).2)) := ⟨HSM.out.1.good, HSM.out.1.len.trans HST.out.2.1, by have := HST.out.2.2.1; omega, by rw [HST.out.2.2.2.1, HA1.out]; simp; omega⟩
      clear hlt HAFF HAZ HBF HSM HA1 hb hf
      generalize stepL l' = l2 at *
      go_wp2_with fail
      refine HC.out.mono ?_
      rintro e w6 ⟨p2, o2, c2', rfl, hc2', hp2, hr2, hb6⟩
      have HM : Hidden (ll.length ≤ c2' ∧ ¬ F p2 ∧ Rd w6 (some ⟨p2, o2, none⟩) l2 ∧ Below w5.heap.size w5 w6) := ⟨hc2', fun hk => by
        rcases hp2 with rfl | h2
        · exact HST.out.2.2.2.2.2.1 hk
        · have q1 := HP1.out.flt _ hk
          have q2 := H5.out.1.size
          have q3 := HST.out.2.2.2.2.2.2.2.size
          omega, hr2, HST.out.2.2.2.2.2.2.2.trans (hb6.mono HST.out.2.2.2.2.2.2.2.size)⟩
      clear hc2' hp2 hr2 hb6 HC HST
      go_wp2_with fail
      go_roundg (g + 1)
      case measure => omega
      case rel => exact ⟨i + 1, g, p2, o2, c2', l2, by omega, rfl, by go_num, rfl, ⟨HN.out.1, HN.out.2.1, HN.out.2.2.1, HN.out.2.2.2, HM.out.1, HM.out.2.1, HM.out.2.2.1, HM.out.2.2.2⟩⟩
    | false =>
      rw [hb] at HC
      have hsl := (HSM.out.2.2 hb).1
      rw [hsl] at HC
      have HE : Hidden ((an, al) = (i, l')) := ⟨by
        have h1 := HST.out.2.2.2.1
        rw [h1]
        by_cases h0 : f = 0
        · rw [HAZ.out h0]; rfl
        · rw [HAFF.out (f - 1) (by omega), hb]; rfl⟩
      have he1 : an = i := congrArg Prod.fst HE.out
      have he2 : al = l' := congrArg Prod.snd HE.out
      subst he1 he2
      clear HAFF HAZ HBF HSM hb hsl HE
      go_wp2_with fail
      refine HC.out.mono ?_
      rintro e w6 ⟨p2, o2, c2', rfl, hc2', hp2, hr2, hb6⟩
      have hb56 := HST.out.2.2.2.2.2.2.2.trans (hb6.mono HST.out.2.2.2.2.2.2.2.size)
      have hb16 := H5.out.1.trans (hb56.mono H5.out.1.size)
      have HCA := Hidden.mk (HMA.out w6 (HP1.out.below hb16))
      have H6 : Hidden (Rd w6 (some ⟨p', o', none⟩) al ∧ ¬ F p' ∧ w6.heap[sb]? = some (.cells #[.int .i64 ob, .int .i64 su, .int .i64 fr, .int .i64 mo, .int .i64 ru] 55 (0, 0)) ∧ sb < w6.heap.size ∧ ¬ F sb) := ⟨HST.out.2.2.2.2.2.2.1.below hb6, HST.out.2.2.2.2.2.1, (hb56.block _ (Array.getElem?_eq_some_iff.1 H5.out.2).1).trans H5.out.2, Nat.lt_of_lt_of_le (Array.getElem?_eq_some_iff.1 H5.out.2).1 hb56.size, fun hk => by have q1 := HP1.out.flt _ hk; have q2 := HSBW.out; omega⟩
      clear hc2' hp2 hr2 hb6 hb56 hb16 HC HMA
      go_wp2_with fail
      refine HCA.out.mono ?_
      rintro e w7 ⟨rfl, F7, hm7⟩
      have hrd7 := H6.out.1.moved hm7 H6.out.2.1 (by rw [HALN.out.1]; omega)
      have hbk7 := (hm7.kp.block sb H6.out.2.2.2.1 H6.out.2.2.2.2).trans H6.out.2.2.1
      have HP7 := Hidden.mk hm7.hp
      have HR7 := Hidden.mk hrd7.1
      have HK7 := Hidden.mk hbk7
      clear hrd7 hbk7 hm7 HCA H6
      have HCB : Hidden (∀ W, Below w7.heap.size w7 W → Calls Tryz.prog 11 #[.pointer (some ⟨h, 0, none⟩)] W fun e w' => ∃ g cap, e = .returned (.slice (some ⟨g, 0, none⟩) al.length cap) ∧ W.heap.size ≤ g ∧ Row w' 5 g cap al ∧ Below W.heap.size W w') := ⟨fun W hW => hbytes_ok _ _ F7 h al (HP7.out.below hW)⟩
      have KS : Hidden (∀ W, Below w7.heap.size w7 W → (convert 22 9 (.slice (some ⟨p', o', none⟩) ll.length c')).run Tryz.prog W = .ok (sv al) W ∧ W.cell? ⟨sb, 2, none⟩ = some (.int .i64 fr) ∧ W.cell? ⟨sb, 3, none⟩ = some (.int .i64 mo)) := ⟨fun W hW => by
        obtain ⟨-, -, x2, x3, -, -⟩ := fiveCells ((hW.block _ (Array.getElem?_eq_some_iff.1 HK7.out).1).trans HK7.out)
        exact ⟨conv_text W _ ll.length c' al HALN.out.1 (HR7.out.below hW), x2, x3⟩⟩
      have HBW7 := Hidden.mk HP7.out.bel
      have s1 : IntKind.i64.wrap (fr - mo) = fr - mo := IntWalk.i64_in _ (by have := HSB.out; have := HFB.out; omega)
      have e1 : (al == al) = true := by simp
      clear HST HP7 HR7 HK7
      go_upto_region 13 with (fail)
      refine wp_region_held_drew (S := fun W => (convert 22 9 (.slice (some ⟨p', o', none⟩) ll.length c')).run Tryz.prog W = .ok (sv al) W ∧ W.cell? ⟨sb, 2, none⟩ = some (.int .i64 fr) ∧ W.cell? ⟨sb, 3, none⟩ = some (.int .i64 mo)) (by kernel_rfl) (KS.out _ (Below.refl _ _).drew) (fun hHeld => ?_)
      refine wpAnyH_take (i := 0) (oi := { dst := some 44, op := Op.move (Operand.tmp 12), type := 32, pos := "law.go:480", after := #[], guard := none }) (v := ?_) rfl (by kernel_rfl) (by kernel_rfl) (by kernel_rfl) (fun _ _ _ h => h) (Or.inl ⟨by rfl, ?_⟩) hHeld ?_
      rotate_left
      · intro w_ hSw
        go_simp
        try with_reducible rfl
      try simp only [Act.put, List.setIfInBounds_toArray, List.set_cons_zero, List.set_cons_succ]
      refine wpAnyH_take (i := 1) (oi := { dst := some 45, op := Op.binOp BinOp.eql 32 (Operand.tmp 44) (Operand.const Value.nilIface) 32, type := 4, pos := "law.go:480", after := #[{ on := 0, ground := Ground.data }], guard := none }) (v := ?_) rfl (by kernel_rfl) (by kernel_rfl) (by kernel_rfl) (fun _ _ _ h => h) (Or.inl ⟨by rfl, ?_⟩) hHeld ?_
      rotate_left
      · intro w_ hSw
        go_simp
        try with_reducible rfl
      try simp only [Act.put, List.setIfInBounds_toArray, List.set_cons_zero, List.set_cons_succ]
      refine wpAnyH_take (i := 2) (oi := { dst := some 46, op := Op.move (Operand.tmp 45), type := 4, pos := "law.go:480", after := #[{ on := 1, ground := Ground.data }], guard := none }) (v := ?_) rfl (by kernel_rfl) (by kernel_rfl) (by kernel_rfl) (fun _ _ _ h => h) (Or.inl ⟨by rfl, ?_⟩) hHeld ?_
      rotate_left
      · intro w_ hSw
        go_simp
        try with_reducible rfl
      try simp only [Act.put, List.setIfInBounds_toArray, List.set_cons_zero, List.set_cons_succ]
      refine wpAnyH_take (i := 3) (oi := { dst := some 47, op := Op.move (Operand.tmp 11), type := 3, pos := "law.go:480", after := #[{ on := 2, ground := Ground.guard }], guard := some (2, true) }) (v := ?_) rfl (by kernel_rfl) (by kernel_rfl) (by kernel_rfl) (fun _ _ _ h => h) (Or.inl ⟨by rfl, ?_⟩) hHeld ?_
      rotate_left
      · intro w_ hSw
        go_simp
        try with_reducible rfl
      try simp only [Act.put, List.setIfInBounds_toArray, List.set_cons_zero, List.set_cons_succ]
      refine wpAnyH_take (i := 4) (oi := { dst := some 48, op := Op.move (Operand.tmp 7), type := 3, pos := "law.go:480", after := #[{ on := 2, ground := Ground.guard }], guard := some (2, true) }) (v := ?_) rfl (by kernel_rfl) (by kernel_rfl) (by kernel_rfl) (fun _ _ _ h => h) (Or.inl ⟨by rfl, ?_⟩) hHeld ?_
      rotate_left
      · intro w_ hSw
        go_simp
        try with_reducible rfl
      try simp only [Act.put, List.setIfInBounds_toArray, List.set_cons_zero, List.set_cons_succ]
      refine wpAnyH_take (i := 5) (oi := { dst := some 49, op := Op.binOp BinOp.eql 3 (Operand.tmp 47) (Operand.tmp 48) 3, type := 4, pos := "law.go:480", after := #[{ on := 3, ground := Ground.data }, { on := 4, ground := Ground.data }, { on := 2, ground := Ground.guard }], guard := some (2, true) }) (v := ?_) rfl (by kernel_rfl) (by kernel_rfl) (by kernel_rfl) (fun _ _ _ h => h) (Or.inl ⟨by rfl, ?_⟩) hHeld ?_
      rotate_left
      · intro w_ hSw
        go_simp
        try with_reducible rfl
      try simp only [Act.put, List.setIfInBounds_toArray, List.set_cons_zero, List.set_cons_succ]
      refine wpAnyH_take (i := 6) (oi := { dst := some 50, op := Op.pick (Operand.tmp 46) (Operand.tmp 49) (Operand.const (Value.bool false)), type := 4, pos := "law.go:480", after := #[{ on := 2, ground := Ground.data }, { on := 5, ground := Ground.data }], guard := none }) (v := ?_) rfl (by kernel_rfl) (by kernel_rfl) (by kernel_rfl) (fun _ _ _ h => h) (Or.inl ⟨by rfl, ?_⟩) hHeld ?_
      rotate_left
      · intro w_ hSw
        go_simp
        try with_reducible rfl
      try simp only [Act.put, List.setIfInBounds_toArray, List.set_cons_zero, List.set_cons_succ]
      refine wpAnyH_take (i := 7) (oi := { dst := some 51, op := Op.move (Operand.tmp 50), type := 4, pos := "law.go:480", after := #[{ on := 6, ground := Ground.data }, { on := 2, ground := Ground.chain }], guard := none }) (v := ?_) rfl (by kernel_rfl) (by kernel_rfl) (by kernel_rfl) (fun _ _ _ h => h) (Or.inl ⟨by rfl, ?_⟩) hHeld ?_
      rotate_left
      · intro w_ hSw
        go_simp
        try with_reducible rfl
      try simp only [Act.put, List.setIfInBounds_toArray, List.set_cons_zero, List.set_cons_succ]
      refine wpAnyH_take (i := 8) (oi := { dst := some 52, op := Op.move (Operand.tmp 3), type := 25, pos := "law.go:480", after := #[{ on := 7, ground := Ground.guard }], guard := some (7, true) }) (v := ?_) rfl (by kernel_rfl) (by kernel_rfl) (by kernel_rfl) (fun _ _ _ h => h) (Or.inl ⟨by rfl, ?_⟩) hHeld ?_
      rotate_left
      · intro w_ hSw
        go_simp
        try with_reducible rfl
      try simp only [Act.put, List.setIfInBounds_toArray, List.set_cons_zero, List.set_cons_succ]
      refine wpAnyH_take (i := 11) (oi := { dst := some 55, op := Op.move (Operand.tmp 8), type := 22, pos := "law.go:480", after := #[{ on := 7, ground := Ground.guard }], guard := some (7, true) }) (v := ?_) rfl (by kernel_rfl) (by kernel_rfl) (by kernel_rfl) (fun _ _ _ h => h) (Or.inl ⟨by rfl, ?_⟩) hHeld ?_
      rotate_left
      · intro w_ hSw
        go_simp
        try with_reducible rfl
      try simp only [Act.put, List.setIfInBounds_toArray, List.set_cons_zero, List.set_cons_succ]
      refine wpAnyH_take (i := 12) (oi := { dst := some 56, op := Op.convert 22 9 (Operand.tmp 55), type := 9, pos := "law.go:480", after := #[{ on := 11, ground := Ground.data }, { on := 7, ground := Ground.guard }], guard := some (7, true) }) (v := ?_) rfl (by kernel_rfl) (by kernel_rfl) (by kernel_rfl) (fun _ _ _ h => h) (Or.inl ⟨by rfl, ?_⟩) hHeld ?_
      rotate_left
      · intro w_ hSw
        go_simp
        try with_reducible rfl
      try simp only [Act.put, List.setIfInBounds_toArray, List.set_cons_zero, List.set_cons_succ]
      refine wpAnyH_ready (rs := [9]) (by kernel_rfl) (by simp) ?_
      refine AllReadyH.cons (o := { dst := some 53, op := Op.call { callee := Callee.value (Operand.func 11), args := #[Operand.tmp 52], argTypes := #[25] }, type := 22, pos := "law.go:480", after := #[{ on := 8, ground := Ground.data }, { on := 7, ground := Ground.chain }, { on := 7, ground := Ground.guard }], guard := some (7, true) }) rfl (fun K hK => ?_) AllReadyH.nil
      rw [if_pos (by rfl)]
      go_simp
      go_at_call 11
      refine (HCB.out _ (Below.refl _ _).drew).mono ?_
      rintro e w8 ⟨g2, cap2, rfl, hg2, hrow2, hb8⟩
      have hbX : Below w7.heap.size w7 w8 := (Below.refl _ _).drew.trans hb8
      have e2 := conv_text w8 (some ⟨g2, 0, none⟩) al.length cap2 al rfl hrow2.rd
      dsimp only
      refine hK.out _ _ (KS.out _ hbX) (fun hHeld => ?_)
      clear hK K
      try simp only [Act.put, List.setIfInBounds_toArray, List.set_cons_zero, List.set_cons_succ]
      refine wpAnyH_ready (rs := [10]) (by kernel_rfl) (by simp) ?_
      refine AllReadyH.cons (o := { dst := some 54, op := Op.convert 22 9 (Operand.tmp 53), type := 9, pos := "law.go:480", after := #[{ on := 9, ground := Ground.data }, { on := 7, ground := Ground.guard }], guard := some (7, true) }) rfl (fun K hK => ?_) AllReadyH.nil
      rw [if_pos (by rfl)]
      go_simp
      refine hK.out _ _ hHeld (fun hHeld => ?_)
      clear hK K
      try simp only [Act.put, List.setIfInBounds_toArray, List.set_cons_zero, List.set_cons_succ]
      refine wpAnyH_take (i := 13) (oi := { dst := some 57, op := Op.binOp BinOp.eql 9 (Operand.tmp 54) (Operand.tmp 56) 9, type := 4, pos := "law.go:480", after := #[{ on := 10, ground := Ground.data }, { on := 12, ground := Ground.data }, { on := 7, ground := Ground.guard }], guard := some (7, true) }) (v := ?_) rfl (by kernel_rfl) (by kernel_rfl) (by kernel_rfl) (fun _ _ _ h => h) (Or.inl ⟨by rfl, ?_⟩) hHeld ?_
      rotate_left
      · intro w_ hSw
        go_simp
        try with_reducible rfl
      try simp only [Act.put, List.setIfInBounds_toArray, List.set_cons_zero, List.set_cons_succ]
      refine wpAnyH_take (i := 14) (oi := { dst := some 58, op := Op.pick (Operand.tmp 51) (Operand.tmp 57) (Operand.const (Value.bool false)), type := 4, pos := "law.go:480", after := #[{ on := 7, ground := Ground.data }, { on := 13, ground := Ground.data }], guard := none }) (v := ?_) rfl (by kernel_rfl) (by kernel_rfl) (by kernel_rfl) (fun _ _ _ h => h) (Or.inl ⟨by rfl, ?_⟩) hHeld ?_
      rotate_left
      · intro w_ hSw
        go_simp
        try with_reducible rfl
      try simp only [Act.put, List.setIfInBounds_toArray, List.set_cons_zero, List.set_cons_succ]
      refine wpAnyH_take (i := 15) (oi := { dst := some 59, op := Op.move (Operand.tmp 58), type := 4, pos := "law.go:480", after := #[{ on := 14, ground := Ground.data }, { on := 9, ground := Ground.chain }], guard := none }) (v := ?_) rfl (by kernel_rfl) (by kernel_rfl) (by kernel_rfl) (fun _ _ _ h => h) (Or.inl ⟨by rfl, ?_⟩) hHeld ?_
      rotate_left
      · intro w_ hSw
        go_simp
        try with_reducible rfl
      try simp only [Act.put, List.setIfInBounds_toArray, List.set_cons_zero, List.set_cons_succ]
      refine wpAnyH_take (i := 16) (oi := { dst := some 60, op := Op.move (Operand.tmp 6), type := 3, pos := "law.go:480", after := #[{ on := 15, ground := Ground.guard }], guard := some (15, true) }) (v := ?_) rfl (by kernel_rfl) (by kernel_rfl) (by kernel_rfl) (fun _ _ _ h => h) (Or.inl ⟨by rfl, ?_⟩) hHeld ?_
      rotate_left
      · intro w_ hSw
        go_simp
        try with_reducible rfl
      try simp only [Act.put, List.setIfInBounds_toArray, List.set_cons_zero, List.set_cons_succ]
      refine wpAnyH_take (i := 17) (oi := { dst := some 61, op := Op.fieldAddr 55 (Operand.tmp 5) 2, type := 0, pos := "law.go:480", after := #[{ on := 15, ground := Ground.guard }], guard := some (15, true) }) (v := ?_) rfl (by kernel_rfl) (by kernel_rfl) (by kernel_rfl) (fun _ _ _ h => h) (Or.inl ⟨by rfl, ?_⟩) hHeld ?_
      rotate_left
      · intro w_ hSw
        go_simp
        try with_reducible rfl
      try simp only [Act.put, List.setIfInBounds_toArray, List.set_cons_zero, List.set_cons_succ]
      refine wpAnyH_take (i := 18) (oi := { dst := some 62, op := Op.load 3 (Operand.tmp 61), type := 3, pos := "law.go:480", after := #[{ on := 17, ground := Ground.data }, { on := 15, ground := Ground.guard }], guard := some (15, true) }) (v := ?_) rfl (by kernel_rfl) (by kernel_rfl) (by kernel_rfl) (fun _ _ _ h => h) (Or.inl ⟨by rfl, ?_⟩) hHeld ?_
      rotate_left
      · intro w_ hSw
        go_simp
        try with_reducible rfl
      try simp only [Act.put, List.setIfInBounds_toArray, List.set_cons_zero, List.set_cons_succ]
      refine wpAnyH_take (i := 19) (oi := { dst := some 63, op := Op.fieldAddr 55 (Operand.tmp 5) 3, type := 0, pos := "law.go:480", after := #[{ on := 15, ground := Ground.guard }], guard := some (15, true) }) (v := ?_) rfl (by kernel_rfl) (by kernel_rfl) (by kernel_rfl) (fun _ _ _ h => h) (Or.inl ⟨by rfl, ?_⟩) hHeld ?_
      rotate_left
      · intro w_ hSw
        go_simp
        try with_reducible rfl
      try simp only [Act.put, List.setIfInBounds_toArray, List.set_cons_zero, List.set_cons_succ]
      refine wpAnyH_take (i := 20) (oi := { dst := some 64, op := Op.load 3 (Operand.tmp 63), type := 3, pos := "law.go:480", after := #[{ on := 19, ground := Ground.data }, { on := 15, ground := Ground.guard }], guard := some (15, true) }) (v := ?_) rfl (by kernel_rfl) (by kernel_rfl) (by kernel_rfl) (fun _ _ _ h => h) (Or.inl ⟨by rfl, ?_⟩) hHeld ?_
      rotate_left
      · intro w_ hSw
        go_simp
        try with_reducible rfl
      try simp only [Act.put, List.setIfInBounds_toArray, List.set_cons_zero, List.set_cons_succ]
      refine wpAnyH_take (i := 21) (oi := { dst := some 65, op := Op.binOp BinOp.sub 3 (Operand.tmp 62) (Operand.tmp 64) 3, type := 3, pos := "law.go:480", after := #[{ on := 18, ground := Ground.data }, { on := 20, ground := Ground.data }, { on := 15, ground := Ground.guard }], guard := some (15, true) }) (v := ?_) rfl (by kernel_rfl) (by kernel_rfl) (by kernel_rfl) (fun _ _ _ h => h) (Or.inl ⟨by rfl, ?_⟩) hHeld ?_
      rotate_left
      · intro w_ hSw
        go_simp
        try with_reducible rfl
      try simp only [Act.put, List.setIfInBounds_toArray, List.set_cons_zero, List.set_cons_succ]
      refine wpAnyH_take (i := 22) (oi := { dst := some 66, op := Op.binOp BinOp.eql 3 (Operand.tmp 60) (Operand.tmp 65) 3, type := 4, pos := "law.go:480", after := #[{ on := 16, ground := Ground.data }, { on := 21, ground := Ground.data }, { on := 15, ground := Ground.guard }], guard := some (15, true) }) (v := ?_) rfl (by kernel_rfl) (by kernel_rfl) (by kernel_rfl) (fun _ _ _ h => h) (Or.inl ⟨by rfl, ?_⟩) hHeld ?_
      rotate_left
      · intro w_ hSw
        go_simp
        try with_reducible rfl
      try simp only [Act.put, List.setIfInBounds_toArray, List.set_cons_zero, List.set_cons_succ]
      refine wpAnyH_take (i := 23) (oi := { dst := some 67, op := Op.pick (Operand.tmp 59) (Operand.tmp 66) (Operand.const (Value.bool false)), type := 4, pos := "law.go:480", after := #[{ on := 15, ground := Ground.data }, { on := 22, ground := Ground.data }], guard := none }) (v := ?_) rfl (by kernel_rfl) (by kernel_rfl) (by kernel_rfl) (fun _ _ _ h => h) (Or.inl ⟨by rfl, ?_⟩) hHeld ?_
      rotate_left
      · intro w_ hSw
        go_simp
        try with_reducible rfl
      try simp only [Act.put, List.setIfInBounds_toArray, List.set_cons_zero, List.set_cons_succ]
      refine wpAnyH_take (i := 24) (oi := { dst := some 2, op := Op.assign (Operand.tmp 67), type := 4, pos := "law.go:480", after := #[{ on := 23, ground := Ground.data }, { on := 15, ground := Ground.chain }, { on := 0, ground := Ground.phase }, { on := 1, ground := Ground.phase }, { on := 2, ground := Ground.phase }, { on := 3, ground := Ground.phase }, { on := 4, ground := Ground.phase }, { on := 5, ground := Ground.phase }, { on := 6, ground := Ground.phase }, { on := 7, ground := Ground.phase }, { on := 8, ground := Ground.phase }, { on := 9, ground := Ground.phase }, { on := 10, ground := Ground.phase }, { on := 11, ground := Ground.phase }, { on := 12, ground := Ground.phase }, { on := 13, ground := Ground.phase }, { on := 14, ground := Ground.phase }, { on := 15, ground := Ground.phase }, { on := 16, ground := Ground.phase }, { on := 17, ground := Ground.phase }, { on := 18, ground := Ground.phase }, { on := 19, ground := Ground.phase }, { on := 20, ground := Ground.phase }, { on := 21, ground := Ground.phase }, { on := 22, ground := Ground.phase }, { on := 23, ground := Ground.phase }], guard := none }) (v := ?_) rfl (by kernel_rfl) (by kernel_rfl) (by kernel_rfl) (fun _ _ _ h => h) (Or.inl ⟨by rfl, ?_⟩) hHeld ?_
      rotate_left
      · intro w_ hSw
        go_simp
        try with_reducible rfl
      try simp only [Act.put, List.setIfInBounds_toArray, List.set_cons_zero, List.set_cons_succ]
      refine wpAnyH_done (by kernel_rfl) ?_ _

      have HFB2 := Hidden.mk (HBW7.out.trans (hbX.mono HBW7.out.size))
      clear hrow2 hg2 hb8 hbX HCB KS e2
      go_wp2_with fail
      go_ret
      exact ⟨rfl, HFB2.out⟩
end Go.Proofs.YtecjjhfaljdcpaaGreat
