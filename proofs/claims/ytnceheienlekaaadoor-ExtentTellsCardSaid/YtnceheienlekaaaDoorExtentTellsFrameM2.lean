/- Contracts and plain laws, put together: Ext4, ExtP, RefXP, RefX1, RefX2, RefX3, RefX4, Told, Told2, Told3, Open4, ExtentTells1. -/
import Derived.Test.YtnceheienlekaaaDoorExtentTellsFrameM1
import Derived.Deep.DeepCutAuto
import Derived.Deep.LoopGhost
import Derived.BigQuiet
import Derived.Deep.CutBlock
import Derived.StillTailTactics
import Derived.LaidEql
import Derived.Stop.Asserts
import Derived.RowKitTokens
/- The contract of extent.Stat. -/
namespace Go.Proofs.YtnceheienlekaaaDoor
open Go.RowKit

def statV (o u f m r : Int) : Value := .agg #[.int .i64 o, .int .i64 u, .int .i64 f, .int .i64 m, .int .i64 r]
def sumX (l : List Ext) : Int := l.foldl (fun s e => s + e.2) 0
def mostX (H : List Ext) : Int := H.foldl (fun s e => max s e.2) 0
theorem sumX_succ (l : List Ext) (k : Nat) (hk : k < l.length) : sumX (l.take (k + 1)) = sumX (l.take k) + l[k].2 := by
  unfold sumX; rw [List.take_succ_eq_append_getElem hk, List.foldl_append]; rfl
theorem mostX_succ (l : List Ext) (k : Nat) (hk : k < l.length) : mostX (l.take (k + 1)) = max (mostX (l.take k)) l[k].2 := by
  unfold mostX; rw [List.take_succ_eq_append_getElem hk, List.foldl_append]; rfl
theorem sumX_bd (l : List Ext) (h : OkX l) : ∀ k, k ≤ l.length → 0 ≤ sumX (l.take k) ∧ sumX (l.take k) ≤ 6400 * k
  | 0, _ => by simp [sumX]
  | k + 1, hk => by
    have ih := sumX_bd l h k (by omega)
    have := h l[k] (List.getElem_mem (by omega))
    rw [sumX_succ l k (by omega)]
    omega
/-- what Stat says -/
def statX (n : Int) (l : List Ext) : Value := if chkX n l = 0 then statV l.length (sumX l) (n - sumX l) (mostX (holesX n l)) (holesX n l).length else statV 0 0 0 0 0
set_option maxRecDepth 100000 in
theorem xstat_any (n : Int) (A : Option Addr) (m c : Nat) (l : List Ext) (w : World) (hl : l.length = m) (hmc : m ≤ c) (hr : RdX tcells 2 w A l) :
    Calls Tryd.prog 38 #[.int .i64 n, .slice A m c] w fun e w' => e = .returned (.tuple #[statX n l, errV (chkX n l)]) ∧ Below w.heap.size w w' := by
  have HC : Hidden (∀ W, Below w.heap.size w W → Calls Tryd.prog 32 #[.int .i64 n, .slice A m c] W fun e w' => e = .returned (errV (chkX n l)) ∧ Below W.heap.size W w') := ⟨fun W hW => xcheck_any n A m c l W hl hmc (hr.below hW)⟩
  have HB0 : Hidden (Below w.heap.size w (w.alloc (.cells #[.int .i64 0, .int .i64 0, .int .i64 0, .int .i64 0, .int .i64 0] 73))) := ⟨(Below.refl _ _).alloc (Nat.le_refl _) _⟩
  have HBK0 : Hidden ((w.alloc (.cells #[.int .i64 0, .int .i64 0, .int .i64 0, .int .i64 0, .int .i64 0] 73)).heap[w.heap.size]? = some (.cells #[.int .i64 0, .int .i64 0, .int .i64 0, .int .i64 0, .int .i64 0] 73 (0, 0))) := ⟨heap_alloc_new w _⟩
  have HSX : Hidden (statX n l = if chkX n l = 0 then statV l.length (sumX l) (n - sumX l) (mostX (holesX n l)) (holesX n l).length else statV 0 0 0 0 0) := ⟨rfl⟩
  by_cases h0 : chkX n l = 0
  · obtain ⟨o0, o1, o2, o3, -⟩ := chkX_ok h0
    have HH : Hidden (∀ W, Below w.heap.size w W → Calls Tryd.prog 66 #[.int .i64 n, .slice A m c] W fun e w' => ∃ v, e = .returned v ∧ w'.ownsRow W.heap.size 123 2 v (holesX n l).length ((holesX n l).flatMap tcells) ∧ Below W.heap.size W w') := ⟨fun W hW => xholes_any n A m c l W o0 o1 hl (by omega) (hr.below hW) o3⟩
    have hHl := holesX_len n l
    rw [h0] at HC
    rw [show errV 0 = Value.nilIface from rfl] at HC
    have hsx := HSX.out
    rw [if_pos h0] at hsx
    rw [hsx, h0, show errV 0 = Value.nilIface from rfl]
    have HR := Hidden.mk hr
    have HO := Hidden.mk o3
    have HL := Hidden.mk hl
    have hm200 : m ≤ 200 := by omega
    generalize holesX n l = H at *
    clear HSX hsx h0 hr o3 hl
    unfold statV
    go_enter Tryd.func38, Tryd.ntmps38
    go_wp2_with fail
    generalize w.alloc (.cells #[.int .i64 0, .int .i64 0, .int .i64 0, .int .i64 0, .int .i64 0] 73) = w0 at *
    refine (HC.out _ HB0.out).mono ?_
    rintro e w1 ⟨rfl, hb1⟩
    have hlt : w.heap.size < w0.heap.size := (Array.getElem?_eq_some_iff.1 HBK0.out).1
    have hal : Below w1.heap.size w1 (w1.alloc (.cells #[.int .i64 m, .int .i64 0, .int .i64 0, .int .i64 0, .int .i64 0] 73)) := (Below.refl _ _).alloc (Nat.le_refl _) _
    have hB1 := HB0.out.trans (hb1.mono HB0.out.size)
    have hlt1 : w.heap.size < w1.heap.size := Nat.lt_of_lt_of_le hlt hb1.size
    have HST : Hidden (Below w.heap.size w (w1.alloc (.cells #[.int .i64 m, .int .i64 0, .int .i64 0, .int .i64 0, .int .i64 0] 73)) ∧ (w1.alloc (.cells #[.int .i64 m, .int .i64 0, .int .i64 0, .int .i64 0, .int .i64 0] 73)).heap[w.heap.size]? = some (.cells #[.int .i64 0, .int .i64 0, .int .i64 0, .int .i64 0, .int .i64 0] 73 (0, 0)) ∧ (w1.alloc (.cells #[.int .i64 m, .int .i64 0, .int .i64 0, .int .i64 0, .int .i64 0] 73)).heap[w1.heap.size]? = some (.cells #[.int .i64 m, .int .i64 0, .int .i64 0, .int .i64 0, .int .i64 0] 73 (0, 0))) :=
      ⟨hB1.trans (hal.mono hB1.size), (hal.block _ hlt1).trans ((hb1.block _ hlt).trans HBK0.out), heap_alloc_new w1 _⟩
    clear hb1 hal hB1 hlt
    go_wp2_with fail
    generalize w1.alloc (.cells #[.int .i64 m, .int .i64 0, .int .i64 0, .int .i64 0, .int .i64 0] 73) = w2 at *
    generalize w1.heap.size = sb at *
    go_loopg [24] m (fun q i wr => ∃ (k : Nat) (u : Int), k ≤ m ∧ q = m - k ∧ i = .int .i64 (k : Int) ∧ 0 ≤ u ∧ u ≤ 6400 * k ∧ Hidden (sumX (l.take k) = u ∧ Below w.heap.size w wr ∧ wr.heap[w.heap.size]? = some (.cells #[.int .i64 0, .int .i64 0, .int .i64 0, .int .i64 0, .int .i64 0] 73 (0, 0)) ∧ wr.heap[sb]? = some (.cells #[.int .i64 m, .int .i64 u, .int .i64 0, .int .i64 0, .int .i64 0] 73 (0, 0))))
    case atStart => exact ⟨0, 0, by omega, rfl, rfl, by omega, by omega, ⟨rfl, HST.out⟩⟩
    case round =>
      obtain ⟨k, u, hk, rfl, rfl, hu0, hu1, hst⟩ := hrel
      by_cases hlt : k < m
      · have hkl : k < l.length := by have := HL.out; omega
        obtain ⟨p, off, rfl, hcx⟩ := (HR.out.below hst.out.2.1) k hkl
        have c0 := hcx 0 _ rfl
        have c1 := hcx 1 _ rfl
        rw [Nat.add_zero] at c0
        have HS := Hidden.mk (sumX_succ l k hkl)
        rw [hst.out.1] at HS
        have hb := HO.out l[k] (List.getElem_mem hkl)
        generalize l[k] = e at *
        obtain ⟨e1, e2⟩ := e
        dsimp only at c0 c1 HS hb
        obtain ⟨b0, b1, b2⟩ := hb
        have hal : Below wr.heap.size wr (wr.alloc (.cells #[.int .i64 e1, .int .i64 e2] 123)) := (Below.refl _ _).alloc (Nat.le_refl _) _
        have HN : Hidden (Below w.heap.size w (wr.alloc (.cells #[.int .i64 e1, .int .i64 e2] 123)) ∧ (wr.alloc (.cells #[.int .i64 e1, .int .i64 e2] 123)).heap[w.heap.size]? = some (.cells #[.int .i64 0, .int .i64 0, .int .i64 0, .int .i64 0, .int .i64 0] 73 (0, 0)) ∧ (wr.alloc (.cells #[.int .i64 e1, .int .i64 e2] 123)).heap[sb]? = some (.cells #[.int .i64 m, .int .i64 u, .int .i64 0, .int .i64 0, .int .i64 0] 73 (0, 0))) :=
          ⟨hst.out.2.1.trans (hal.mono hst.out.2.1.size), (hal.block _ (Array.getElem?_eq_some_iff.1 hst.out.2.2.1).1).trans hst.out.2.2.1, (hal.block _ (Array.getElem?_eq_some_iff.1 hst.out.2.2.2).1).trans hst.out.2.2.2⟩
        have hbk := HN.out.2.2
        have z1 : (wr.alloc (.cells #[.int .i64 e1, .int .i64 e2] 123)).cell? ⟨sb, 1, none⟩ = some (.int .i64 u) := by simp [World.cell?, hbk]
        have hfz : ∀ q, (wr.alloc (.cells #[.int .i64 e1, .int .i64 e2] 123)).frozen? ⟨sb, q, none⟩ = false := fun q => frozen_of_row _ sb q _ _ hbk
        have HNE : Hidden (w.heap.size ≠ sb) := ⟨by omega⟩
        have HN2 : Hidden (Below w.heap.size w ((wr.alloc (.cells #[.int .i64 e1, .int .i64 e2] 123)).setCell ⟨sb, 1, none⟩ (.int .i64 (u + e2))) ∧ ((wr.alloc (.cells #[.int .i64 e1, .int .i64 e2] 123)).setCell ⟨sb, 1, none⟩ (.int .i64 (u + e2))).heap[w.heap.size]? = some (.cells #[.int .i64 0, .int .i64 0, .int .i64 0, .int .i64 0, .int .i64 0] 73 (0, 0)) ∧ ((wr.alloc (.cells #[.int .i64 e1, .int .i64 e2] 123)).setCell ⟨sb, 1, none⟩ (.int .i64 (u + e2))).heap[sb]? = some (.cells #[.int .i64 m, .int .i64 (u + e2), .int .i64 0, .int .i64 0, .int .i64 0] 73 (0, 0))) :=
          ⟨HN.out.1.setCell (p := ⟨sb, 1, none⟩) (by simp; omega) _, (Below.heap_setCell _ _ _ _ HNE.out).trans HN.out.2.1, heap_setK HN.out.2.2 _⟩
        have s1 : IntKind.i64.wrap (u + e2) = u + e2 := IntWalk.i64_in _ (by omega)
        have s3 : IntKind.i64.wrap ((k : Int) + 1) = (k : Int) + 1 := IntWalk.i64_in _ (by omega)
        have hne : wr.heap.size ≠ sb := by have := (Array.getElem?_eq_some_iff.1 hst.out.2.2.2).1; omega
        have k0 : (0 : Int) ≤ k := by omega
        have k1 : (k : Int) < m := by omega
        clear hcx hal hbk HN hst
        go_wp2_with fail
        go_roundg (m - (k + 1))
        case measure => omega
        case rel => exact ⟨k + 1, u + e2, by omega, rfl, by go_num, by omega, by omega, ⟨HS.out, HN2.out⟩⟩
      · obtain rfl : k = m := by omega
        have hsu := hst.out.1
        rw [List.take_of_length_le (by have := HL.out; omega)] at hsu
        have HSU := Hidden.mk hsu
        have hbk := hst.out.2.2.2
        have z1 : wr.cell? ⟨sb, 1, none⟩ = some (.int .i64 u) := by simp [World.cell?, hbk]
        have z2 : wr.cell? ⟨sb, 2, none⟩ = some (.int .i64 0) := by simp [World.cell?, hbk]
        have hfz : ∀ q, wr.frozen? ⟨sb, q, none⟩ = false := fun q => frozen_of_row _ sb q _ _ hbk
        have s1 : IntKind.i64.wrap (n - u) = n - u := IntWalk.i64_in _ (by omega)
        have HNE : Hidden (w.heap.size ≠ sb) := ⟨by omega⟩
        have H2 : Hidden (Below w.heap.size w (wr.setCell ⟨sb, 2, none⟩ (.int .i64 (n - u))) ∧ (wr.setCell ⟨sb, 2, none⟩ (.int .i64 (n - u))).heap[w.heap.size]? = some (.cells #[.int .i64 0, .int .i64 0, .int .i64 0, .int .i64 0, .int .i64 0] 73 (0, 0)) ∧ (wr.setCell ⟨sb, 2, none⟩ (.int .i64 (n - u))).heap[sb]? = some (.cells #[.int .i64 k, .int .i64 u, .int .i64 (n - u), .int .i64 0, .int .i64 0] 73 (0, 0))) :=
          ⟨hst.out.2.1.setCell (p := ⟨sb, 2, none⟩) (by simp; omega) _, (Below.heap_setCell _ _ _ _ HNE.out).trans hst.out.2.2.1, heap_setK hbk _⟩
        clear hsu hbk hst HST
        go_wp2_with fail
        generalize wr.setCell ⟨sb, 2, none⟩ (.int .i64 (n - u)) = w5 at *
        refine (HH.out _ H2.out.1).mono ?_
        rintro e w6 ⟨v, rfl, hown, hb6⟩
        have H6 : Hidden (Below w.heap.size w w6 ∧ w6.heap[w.heap.size]? = some (.cells #[.int .i64 0, .int .i64 0, .int .i64 0, .int .i64 0, .int .i64 0] 73 (0, 0)) ∧ w6.heap[sb]? = some (.cells #[.int .i64 k, .int .i64 u, .int .i64 (n - u), .int .i64 0, .int .i64 0] 73 (0, 0)) ∧ w6.ownsRow w5.heap.size 123 2 v H.length (H.flatMap tcells) ∧ sb < w5.heap.size ∧ w.heap.size < w5.heap.size) :=
          ⟨H2.out.1.trans (hb6.mono H2.out.1.size), (hb6.block _ (Array.getElem?_eq_some_iff.1 H2.out.2.1).1).trans H2.out.2.1, (hb6.block _ (Array.getElem?_eq_some_iff.1 H2.out.2.2).1).trans H2.out.2.2, hown, (Array.getElem?_eq_some_iff.1 H2.out.2.2).1, (Array.getElem?_eq_some_iff.1 H2.out.2.1).1⟩
        obtain ⟨A3, c3, rfl, hc3, -⟩ := own_split hown
        clear hown hb6 H2 HH HC z1 z2 hfz HR
        generalize hhl : H.length = hl at *
        have HHL := Hidden.mk hhl
        clear hhl
        go_wp2_with fail
        go_loopg [44] hl (fun q i wr => ∃ (j : Nat) (x : Int), j ≤ hl ∧ q = hl - j ∧ i = .int .i64 (j : Int) ∧ Hidden (mostX (H.take j) = x ∧ Below w.heap.size w wr ∧ wr.heap[w.heap.size]? = some (.cells #[.int .i64 0, .int .i64 0, .int .i64 0, .int .i64 0, .int .i64 0] 73 (0, 0)) ∧ wr.heap[sb]? = some (.cells #[.int .i64 k, .int .i64 u, .int .i64 (n - u), .int .i64 x, .int .i64 j] 73 (0, 0)) ∧ wr.ownsRow w5.heap.size 123 2 (.slice A3 hl c3) hl (H.flatMap tcells)))
        case atStart => exact ⟨0, 0, by omega, rfl, rfl, ⟨rfl, H6.out.1, H6.out.2.1, H6.out.2.2.1, H6.out.2.2.2.1⟩⟩
        case round =>
          obtain ⟨j, x, hj, rfl, rfl, hst⟩ := hrel
          by_cases hlt2 : j < hl
          · have hjH : j < H.length := by have := HHL.out; omega
            obtain ⟨g, off, rfl, hgb, hgl, hcx⟩ := own_at tcells_len hst.out.2.2.2.2 j hjH (by omega)
            have c0 := hcx 0 _ rfl
            have c1 := hcx 1 _ rfl
            simp only [Nat.add_zero] at c0
            have HS := Hidden.mk (mostX_succ H j hjH)
            rw [hst.out.1] at HS
            generalize H[j] = e at *
            obtain ⟨e1, e2⟩ := e
            dsimp only at c0 c1 HS
            have hal : Below wr.heap.size wr (wr.alloc (.cells #[.int .i64 e1, .int .i64 e2] 123)) := (Below.refl _ _).alloc (Nat.le_refl _) _
            have hsbl := (Array.getElem?_eq_some_iff.1 hst.out.2.2.2.1).1
            have hbk := (hal.block _ hsbl).trans hst.out.2.2.2.1
            have HWE : Hidden ((wr.alloc (.cells #[.int .i64 e1, .int .i64 e2] 123)).heap[w.heap.size]? = some (.cells #[.int .i64 0, .int .i64 0, .int .i64 0, .int .i64 0, .int .i64 0] 73 (0, 0)) ∧ Below w.heap.size w (wr.alloc (.cells #[.int .i64 e1, .int .i64 e2] 123)) ∧ (wr.alloc (.cells #[.int .i64 e1, .int .i64 e2] 123)).ownsRow w5.heap.size 123 2 (.slice (some ⟨g, off, none⟩) hl c3) hl (H.flatMap tcells)) := ⟨(hal.block _ (Array.getElem?_eq_some_iff.1 hst.out.2.2.1).1).trans hst.out.2.2.1, hst.out.2.1.trans (hal.mono hst.out.2.1.size), own_below hst.out.2.2.2.2 hal⟩
            have z3 : (wr.alloc (.cells #[.int .i64 e1, .int .i64 e2] 123)).cell? ⟨sb, 3, none⟩ = some (.int .i64 x) := by simp [World.cell?, hbk]
            have z4 : (wr.alloc (.cells #[.int .i64 e1, .int .i64 e2] 123)).cell? ⟨sb, 4, none⟩ = some (.int .i64 (j : Int)) := by simp [World.cell?, hbk]
            have hfz : ∀ q, (wr.alloc (.cells #[.int .i64 e1, .int .i64 e2] 123)).frozen? ⟨sb, q, none⟩ = false := fun q => frozen_of_row _ sb q _ _ hbk
            have s3 : IntKind.i64.wrap ((j : Int) + 1) = (j : Int) + 1 := IntWalk.i64_in _ (by omega)
            have HBK := Hidden.mk hbk
            have hne : wr.heap.size ≠ sb := by omega
            have k0 : (0 : Int) ≤ j := by omega
            have k1 : (j : Int) < hl := by omega
            have HSB : Hidden (w.heap.size ≤ sb ∧ sb < w5.heap.size) := ⟨by omega, H6.out.2.2.2.2.1⟩
            clear hcx hal hbk hst H6 hsbl
            have HN3 : Hidden ((((wr.alloc (.cells #[.int .i64 e1, .int .i64 e2] 123)).setCell ⟨sb, 3, none⟩ (.int .i64 (max x e2))).heap[sb]? = some (.cells #[.int .i64 k, .int .i64 u, .int .i64 (n - u), .int .i64 (max x e2), .int .i64 j] 73 (0, 0)))) := ⟨heap_setK HBK.out _⟩
            have z4' : ((wr.alloc (.cells #[.int .i64 e1, .int .i64 e2] 123)).setCell ⟨sb, 3, none⟩ (.int .i64 (max x e2))).cell? ⟨sb, 4, none⟩ = some (.int .i64 (j : Int)) := by simp only [World.cell?, HN3.out]; rfl
            have HN4 : Hidden (Below w.heap.size w (((wr.alloc (.cells #[.int .i64 e1, .int .i64 e2] 123)).setCell ⟨sb, 3, none⟩ (.int .i64 (max x e2))).setCell ⟨sb, 4, none⟩ (.int .i64 ((j : Int) + 1))) ∧ (((wr.alloc (.cells #[.int .i64 e1, .int .i64 e2] 123)).setCell ⟨sb, 3, none⟩ (.int .i64 (max x e2))).setCell ⟨sb, 4, none⟩ (.int .i64 ((j : Int) + 1))).heap[w.heap.size]? = some (.cells #[.int .i64 0, .int .i64 0, .int .i64 0, .int .i64 0, .int .i64 0] 73 (0, 0)) ∧ (((wr.alloc (.cells #[.int .i64 e1, .int .i64 e2] 123)).setCell ⟨sb, 3, none⟩ (.int .i64 (max x e2))).setCell ⟨sb, 4, none⟩ (.int .i64 ((j : Int) + 1))).heap[sb]? = some (.cells #[.int .i64 k, .int .i64 u, .int .i64 (n - u), .int .i64 (max x e2), .int .i64 ((j : Int) + 1)] 73 (0, 0)) ∧ (((wr.alloc (.cells #[.int .i64 e1, .int .i64 e2] 123)).setCell ⟨sb, 3, none⟩ (.int .i64 (max x e2))).setCell ⟨sb, 4, none⟩ (.int .i64 ((j : Int) + 1))).ownsRow w5.heap.size 123 2 (.slice (some ⟨g, off, none⟩) hl c3) hl (H.flatMap tcells)) :=
              ⟨(HWE.out.2.1.setCell (p := ⟨sb, 3, none⟩) HSB.out.1 _).setCell (p := ⟨sb, 4, none⟩) HSB.out.1 _, (Below.heap_setCell _ _ _ _ HNE.out).trans ((Below.heap_setCell _ _ _ _ HNE.out).trans HWE.out.1), heap_setK HN3.out _,
                ownsRow_block HWE.out.2.2 fun q hq => (Below.heap_setCell _ _ _ _ (fun e => by have := (HWE.out.2.2.lt q hq).1; have := HSB.out.2; simp at e; omega)).trans (Below.heap_setCell _ _ _ _ (fun e => by have := (HWE.out.2.2.lt q hq).1; have := HSB.out.2; simp at e; omega))⟩
            clear HN3 HWE HBK
            go_wp2_with fail
            go_roundg (hl - (j + 1))
            case measure => omega
            case rel => exact ⟨j + 1, max x e2, by omega, rfl, by go_num, ⟨HS.out, HN4.out.1, HN4.out.2.1, HN4.out.2.2.1, HN4.out.2.2.2⟩⟩
          · obtain rfl : j = hl := by omega
            have hmx := hst.out.1
            rw [List.take_of_length_le (by have := HHL.out; omega)] at hmx
            have HMX := Hidden.mk hmx
            have hbk := hst.out.2.2.2.1
            have hrk := hst.out.2.2.1
            have y0 : ∀ q, wr.frozen? ⟨w.heap.size, q, none⟩ = false := fun q => frozen_of_row _ _ q _ _ hrk
            have z0 : wr.cell? ⟨sb, 0, none⟩ = some (.int .i64 k) := by simp [World.cell?, hbk]
            have z1 : wr.cell? ⟨sb, 1, none⟩ = some (.int .i64 u) := by simp [World.cell?, hbk]
            have z2 : wr.cell? ⟨sb, 2, none⟩ = some (.int .i64 (n - u)) := by simp [World.cell?, hbk]
            have z3 : wr.cell? ⟨sb, 3, none⟩ = some (.int .i64 x) := by simp [World.cell?, hbk]
            have z4 : wr.cell? ⟨sb, 4, none⟩ = some (.int .i64 (j : Int)) := by simp [World.cell?, hbk]
            have r0 : wr.cell? ⟨w.heap.size, 0, none⟩ = some (.int .i64 0) := by simp [World.cell?, hrk]
            have r1 : wr.cell? ⟨w.heap.size, 1, none⟩ = some (.int .i64 0) := by simp [World.cell?, hrk]
            have r2 : wr.cell? ⟨w.heap.size, 2, none⟩ = some (.int .i64 0) := by simp [World.cell?, hrk]
            have r3 : wr.cell? ⟨w.heap.size, 3, none⟩ = some (.int .i64 0) := by simp [World.cell?, hrk]
            have r4 : wr.cell? ⟨w.heap.size, 4, none⟩ = some (.int .i64 0) := by simp [World.cell?, hrk]
            have HB := Hidden.mk hst.out.2.1
            have HF : Hidden ((l.length : Int) = k ∧ sumX l = u ∧ mostX H = x ∧ (H.length : Int) = j) := ⟨by rw [HL.out], HSU.out, HMX.out, by rw [HHL.out]⟩
            clear hmx hbk hrk hst H6
            go_wp2_with fail
            refine bodyPost_ret (v := .tuple #[.agg #[.int .i64 k, .int .i64 u, .int .i64 (n - u), .int .i64 x, .int .i64 (j : Int)], .nilIface]) ?_ rfl ?_
            · rw [results_cell_tmp rfl]
              go_simp
            · refine ⟨by rw [HF.out.1, HF.out.2.1, HF.out.2.2.1, HF.out.2.2.2], ((((HB.out.setCell (p := ⟨w.heap.size, 0, none⟩) (Nat.le_refl _) _).setCell (p := ⟨w.heap.size, 1, none⟩) (Nat.le_refl _) _).setCell (p := ⟨w.heap.size, 2, none⟩) (Nat.le_refl _) _).setCell (p := ⟨w.heap.size, 3, none⟩) (Nat.le_refl _) _).setCell (p := ⟨w.heap.size, 4, none⟩) (Nat.le_refl _) _⟩
  · have hsx := HSX.out
    rw [if_neg h0] at hsx
    rw [hsx]
    have hev : errV (chkX n l) = .iface 85 (.int .i64 (chkX n l)) := by unfold errV; rw [if_neg h0]
    rw [hev] at HC ⊢
    unfold statV
    generalize chkX n l = q at *
    clear h0 hev HSX hsx hr hl
    go_enter Tryd.func38, Tryd.ntmps38
    go_wp2_with fail
    generalize w.alloc (.cells #[.int .i64 0, .int .i64 0, .int .i64 0, .int .i64 0, .int .i64 0] 73) = w0 at *
    refine (HC.out _ HB0.out).mono ?_
    rintro e w1 ⟨rfl, hb1⟩
    have hlt : w.heap.size < w0.heap.size := (Array.getElem?_eq_some_iff.1 HBK0.out).1
    have hbk := (hb1.block _ hlt).trans HBK0.out
    have HB1 := Hidden.mk (HB0.out.trans (hb1.mono HB0.out.size))
    have y0 : ∀ q, w1.frozen? ⟨w.heap.size, q, none⟩ = false := fun q => frozen_of_row _ _ q _ _ hbk
    have z0 : w1.cell? ⟨w.heap.size, 0, none⟩ = some (.int .i64 0) := by simp [World.cell?, hbk]
    have z1 : w1.cell? ⟨w.heap.size, 1, none⟩ = some (.int .i64 0) := by simp [World.cell?, hbk]
    have z2 : w1.cell? ⟨w.heap.size, 2, none⟩ = some (.int .i64 0) := by simp [World.cell?, hbk]
    have z3 : w1.cell? ⟨w.heap.size, 3, none⟩ = some (.int .i64 0) := by simp [World.cell?, hbk]
    have z4 : w1.cell? ⟨w.heap.size, 4, none⟩ = some (.int .i64 0) := by simp [World.cell?, hbk]
    clear hb1 hlt hbk
    go_wp2_with fail
    refine bodyPost_ret (v := .tuple #[.agg #[.int .i64 0, .int .i64 0, .int .i64 0, .int .i64 0, .int .i64 0], .iface 85 (.int .i64 q)]) ?_ rfl ?_
    · rw [results_cell_tmp rfl]
      go_simp
    · exact ⟨rfl, ((((HB1.out.setCell (p := ⟨w.heap.size, 0, none⟩) (Nat.le_refl _) _).setCell (p := ⟨w.heap.size, 1, none⟩) (Nat.le_refl _) _).setCell (p := ⟨w.heap.size, 2, none⟩) (Nat.le_refl _) _).setCell (p := ⟨w.heap.size, 3, none⟩) (Nat.le_refl _) _).setCell (p := ⟨w.heap.size, 4, none⟩) (Nat.le_refl _) _⟩
end Go.Proofs.YtnceheienlekaaaDoor
/- Extents, the plain law: what is free between extents that are right. No walk here. -/
namespace Go.Proofs.YtnceheienlekaaaDoor
open Go.RowKit

/-- behind each other, from a to n -/
def Tidy : Int → List Ext → Int → Prop
  | a, [], n => a ≤ n
  | a, e :: r, n => a ≤ e.1 ∧ 1 ≤ e.2 ∧ Tidy (e.1 + e.2) r n
theorem hitX_symm (e o : Ext) : hitX e o = hitX o e := by unfold hitX; rw [Bool.and_comm]
theorem chkX_pair {n : Int} {l : List Ext} (h : chkX n l = 0) : l.Pairwise (fun a b => hitX a b = false) := by
  obtain ⟨_, _, _, _, h5⟩ := chkX_ok h
  rw [List.pairwise_iff_getElem]
  intro i j hi hj hij
  have h2 := (h5 j hj).2
  rw [List.any_eq_false] at h2
  have hm : l[i] ∈ l.take j := by
    rw [List.mem_take_iff_getElem]
    exact ⟨i, by omega, rfl⟩
  have := h2 _ hm
  rw [hitX_symm]
  simpa using this
theorem loopX_of (n : Int) (l : List Ext) : ∀ k, k ≤ l.length → (∀ j (hj : j < l.length), j < k → badX n l[j] = false ∧ (l.take j).any (hitX l[j]) = false) → loopX n l k = 0
  | 0, _, _ => rfl
  | k + 1, hk, h => by
    have h0 := loopX_of n l k (by omega) (fun j hj hjk => h j hj (by omega))
    obtain ⟨h1, h2⟩ := h k (by omega) (by omega)
    rw [loopX, if_pos h0]
    have hg : l.getD k (0, 0) = l[k] := by simp [show k < l.length by omega]
    rw [hg]
    unfold faultX
    rw [h1, h2]; rfl
theorem chkX_of {n : Int} {l : List Ext} (h0 : 0 ≤ n) (h1 : n ≤ 6400) (h2 : l.length ≤ 200) (hb : ∀ e ∈ l, badX n e = false) (hp : l.Pairwise (fun a b => hitX a b = false)) : chkX n l = 0 := by
  unfold chkX
  rw [if_neg (by omega), if_neg (by omega)]
  refine loopX_of n l _ (Nat.le_refl _) fun j hj _ => ⟨hb _ (List.getElem_mem hj), ?_⟩
  rw [List.any_eq_false]
  intro x hx
  rw [List.mem_take_iff_getElem] at hx
  obtain ⟨i, hi, rfl⟩ := hx
  rw [List.pairwise_iff_getElem] at hp
  have := hp i j (by omega) hj (by omega)
  rw [hitX_symm]
  simpa using this
theorem badX_of {n : Int} {e : Ext} (h : 1 ≤ e.2 ∧ 0 ≤ e.1 ∧ e.1 + e.2 ≤ n) : badX n e = false := by
  unfold badX
  simp only [Bool.or_eq_false_iff, decide_eq_false_iff_not]
  omega
theorem hitX_false {e o : Ext} : hitX e o = false ↔ (o.1 + o.2 ≤ e.1 ∨ e.1 + e.2 ≤ o.1) := by
  unfold hitX
  simp only [Bool.and_eq_false_iff, decide_eq_false_iff_not]
  omega
theorem tidy_mk (n : Int) : ∀ (S : List Ext) (a : Int), (∀ e ∈ S, a ≤ e.1 ∧ 1 ≤ e.2 ∧ e.1 + e.2 ≤ n) → S.Pairwise (fun x y => x.1 + x.2 ≤ y.1) → a ≤ n → Tidy a S n
  | [], _, _, _, h => h
  | e :: r, a, hb, hp, _ => by
    obtain ⟨h1, h2, h3⟩ := hb e (List.mem_cons_self ..)
    rw [List.pairwise_cons] at hp
    exact ⟨h1, h2, tidy_mk n r _ (fun x hx => by have := hb x (List.mem_cons_of_mem _ hx); have := hp.1 x hx; omega) hp.2 (by omega)⟩
theorem tidy_of {n : Int} {l : List Ext} (h : chkX n l = 0) : Tidy 0 (sortE l) n := by
  obtain ⟨h0, h1, h2, _, h5⟩ := chkX_ok h
  have hbad : ∀ e ∈ sortE l, badX n e = false := fun e he => by
    obtain ⟨j, hj, rfl⟩ := List.getElem_of_mem ((sortE_perm l).mem_iff.1 he)
    exact (h5 j hj).1
  refine tidy_mk n _ 0 (fun e he => by have := badX_false (hbad e he); omega) ?_ h0
  have hp : (sortE l).Pairwise (fun a b => hitX a b = false) := ((sortE_perm l).pairwise_iff (fun {x y} h => by rw [hitX_symm]; exact h)).2 (chkX_pair h)
  rw [List.pairwise_iff_getElem] at hp ⊢
  have hs := sortE_sorted l
  rw [List.pairwise_iff_getElem] at hs
  intro i j hi hj hij
  have a1 := hitX_false.1 (hp i j hi hj hij)
  have a2 := hs i j hi hj hij
  have a3 := badX_false (hbad _ (List.getElem_mem hi))
  have a4 := badX_false (hbad _ (List.getElem_mem hj))
  omega
theorem tidy_le : ∀ {S : List Ext} {a n : Int}, Tidy a S n → a ≤ n
  | [], _, _, h => h
  | e :: r, a, n, ⟨h1, h2, h3⟩ => by have := tidy_le h3; omega
theorem tidy_mem : ∀ {S : List Ext} {a n : Int}, Tidy a S n → ∀ e ∈ S, a ≤ e.1 ∧ 1 ≤ e.2 ∧ e.1 + e.2 ≤ n
  | e :: r, a, n, ⟨h1, h2, h3⟩, x, hx => by
    rcases List.mem_cons.1 hx with rfl | hx
    · exact ⟨h1, h2, tidy_le h3⟩
    · have := tidy_mem h3 x hx; omega
theorem tidy_strict : ∀ {S : List Ext} {a n : Int}, Tidy a S n → S.Pairwise (fun x y => x.1 < y.1)
  | [], _, _, _ => List.Pairwise.nil
  | e :: r, a, n, ⟨h1, h2, h3⟩ => List.Pairwise.cons (fun x hx => by have := tidy_mem h3 x hx; omega) (tidy_strict h3)
/-- holes of a tidy list, with its end -/
def runsX (a : Int) (S : List Ext) (n : Int) : List Ext := holesGo a (S ++ [(n, 0)])
theorem runsX_nil (a n : Int) : runsX a [] n = if a < n then [(a, n - a)] else [] := by
  unfold runsX
  simp [holesGo]
theorem runsX_cons (a : Int) (e : Ext) (r : List Ext) (n : Int) : runsX a (e :: r) n = (if a < e.1 then [(a, e.1 - a)] else []) ++ runsX (e.1 + e.2) r n := rfl
theorem runs_mem : ∀ {S : List Ext} {a n : Int}, Tidy a S n → ∀ h ∈ runsX a S n, a ≤ h.1 ∧ 1 ≤ h.2 ∧ h.1 + h.2 ≤ n ∧ ∀ e ∈ S, h.1 + h.2 ≤ e.1 ∨ e.1 + e.2 ≤ h.1
  | [], a, n, ht, h, hh => by
    rw [runsX_nil] at hh
    split at hh
    · rw [List.mem_singleton.1 hh]
      dsimp only
      exact ⟨by omega, by omega, by omega, fun e he => by cases he⟩
    · cases hh
  | e :: r, a, n, ⟨h1, h2, h3⟩, h, hh => by
    rw [runsX_cons] at hh
    rcases List.mem_append.1 hh with hh | hh
    · split at hh
      · rw [List.mem_singleton.1 hh]
        have := tidy_le h3
        dsimp only
        refine ⟨by omega, by omega, by omega, fun x hx => .inl ?_⟩
        rcases List.mem_cons.1 hx with rfl | hx
        · omega
        · have := tidy_mem h3 x hx; omega
      · cases hh
    · obtain ⟨i1, i2, i3, i4⟩ := runs_mem h3 h hh
      refine ⟨by omega, i2, i3, fun x hx => ?_⟩
      rcases List.mem_cons.1 hx with rfl | hx
      · right; omega
      · exact i4 x hx
theorem runs_pair : ∀ {S : List Ext} {a n : Int}, Tidy a S n → (runsX a S n).Pairwise (fun x y => x.1 + x.2 ≤ y.1)
  | [], a, n, _ => by
    rw [runsX_nil]; split <;> simp
  | e :: r, a, n, ⟨h1, h2, h3⟩ => by
    rw [runsX_cons]
    have ih := runs_pair h3
    split
    · refine List.Pairwise.cons (fun x hx => ?_) ih
      have := runs_mem h3 x hx
      dsimp only
      omega
    · exact ih
theorem foldl_sum (l : List Ext) : ∀ s : Int, l.foldl (fun s e => s + e.2) s = s + l.foldl (fun s e => s + e.2) 0 := by
  induction l with
  | nil => intro s; simp
  | cons x l ih => intro s; rw [List.foldl_cons, ih, List.foldl_cons, ih (0 + x.2)]; omega
theorem sumX_cons (e : Ext) (l : List Ext) : sumX (e :: l) = e.2 + sumX l := by
  unfold sumX; rw [List.foldl_cons, foldl_sum]; omega
theorem sumX_append (l m : List Ext) : sumX (l ++ m) = sumX l + sumX m := by
  induction l with
  | nil => simp [sumX]
  | cons x l ih => rw [List.cons_append, sumX_cons, sumX_cons, ih]; omega
theorem sumX_perm {l m : List Ext} (h : l.Perm m) : sumX l = sumX m := by
  induction h with
  | nil => rfl
  | cons x _ ih => rw [sumX_cons, sumX_cons, ih]
  | swap x y l => rw [sumX_cons, sumX_cons, sumX_cons, sumX_cons]; omega
  | trans _ _ h1 h2 => rw [h1, h2]
theorem runs_sum : ∀ {S : List Ext} {a n : Int}, Tidy a S n → sumX S + sumX (runsX a S n) = n - a
  | [], a, n, h => by
    have : a ≤ n := h
    rw [runsX_nil]; split
    · rw [sumX_cons]; simp [sumX]
    · simp [sumX]; omega
  | e :: r, a, n, ⟨h1, h2, h3⟩ => by
    rw [runsX_cons, sumX_cons, sumX_append]
    have ih := runs_sum h3
    split
    · rw [sumX_cons]
      have : sumX [] = 0 := rfl
      dsimp only
      omega
    · have : sumX [] = 0 := rfl
      omega
/-- one more, where it fits -/
theorem runs_insert : ∀ {S : List Ext} {a n at_ L size : Int}, Tidy a S n → (at_, L) ∈ runsX a S n → 1 ≤ size → size ≤ L →
    ∃ S', S'.Perm ((at_, size) :: S) ∧ Tidy a S' n ∧ (runsX a S' n).length ≤ (runsX a S n).length ∧ ∀ h ∈ runsX a S' n, ∃ h' ∈ runsX a S n, h.2 ≤ h'.2
  | [], a, n, at_, L, size, ht, hm, h1, h2 => by
    rw [runsX_nil] at hm
    split at hm
    · rename_i hlt
      have he := List.mem_singleton.1 hm
      injection he with e1 e2
      subst e1 e2
      refine ⟨[(at_, size)], List.Perm.refl _, ⟨Int.le_refl _, h1, (by omega : at_ + size ≤ n)⟩, ?_, ?_⟩
      · rw [runsX_cons, runsX_nil, runsX_nil, if_neg (by dsimp only; omega), if_pos hlt]
        dsimp only
        split <;> simp
      · intro h hh
        rw [runsX_cons, runsX_nil, if_neg (by dsimp only; omega)] at hh
        dsimp only at hh
        split at hh
        · have hm' : h = (at_ + size, n - (at_ + size)) := by simpa using hh
          rw [hm', runsX_nil, if_pos hlt]
          exact ⟨_, List.mem_singleton.2 rfl, by dsimp only; omega⟩
        · simp at hh
    · cases hm
  | e :: r, a, n, at_, L, size, ⟨t1, t2, t3⟩, hm, h1, h2 => by
    rw [runsX_cons] at hm
    rcases List.mem_append.1 hm with hm | hm
    · split at hm
      · rename_i hlt
        have he := List.mem_singleton.1 hm
        injection he with e1 e2
        subst e1 e2
        refine ⟨(at_, size) :: e :: r, List.Perm.refl _, ⟨Int.le_refl _, h1, (by dsimp only; omega), t2, t3⟩, ?_, ?_⟩
        · rw [runsX_cons, runsX_cons, runsX_cons, if_neg (by dsimp only; omega), if_pos hlt]
          dsimp only
          split <;> simp
        · intro h hh
          rw [runsX_cons, runsX_cons, if_neg (by dsimp only; omega)] at hh
          dsimp only at hh
          rw [runsX_cons, if_pos hlt]
          rw [List.nil_append] at hh
          rcases List.mem_append.1 hh with hh | hh
          · split at hh
            · rw [List.mem_singleton.1 hh]
              exact ⟨_, List.mem_cons_self .., by dsimp only; omega⟩
            · cases hh
          · exact ⟨h, List.mem_cons_of_mem _ hh, Int.le_refl _⟩
      · cases hm
    · obtain ⟨S', p1, p2, p3, p4⟩ := runs_insert t3 hm h1 h2
      refine ⟨e :: S', (List.Perm.cons e p1).trans (List.Perm.swap _ _ _), ⟨t1, t2, p2⟩, ?_, ?_⟩
      · rw [runsX_cons, runsX_cons, List.length_append, List.length_append]; omega
      · intro h hh
        rw [runsX_cons] at hh ⊢
        rcases List.mem_append.1 hh with hh | hh
        · exact ⟨h, List.mem_append_left _ hh, Int.le_refl _⟩
        · obtain ⟨h', m1, m2⟩ := p4 h hh
          exact ⟨h', List.mem_append_right _ m1, m2⟩
theorem sortE_unique {l S : List Ext} {a n : Int} (hp : S.Perm l) (ht : Tidy a S n) : sortE l = S := by
  have h1 : (sortE l).Perm S := (sortE_perm l).trans hp.symm
  have hs := tidy_strict ht
  refine List.Perm.eq_of_pairwise (le := fun x y : Ext => x.1 ≤ y.1) (fun x y hx hy h h' => ?_) (sortE_sorted l) (hs.imp fun h => Int.le_of_lt h) h1
  have hx' : x ∈ S := h1.mem_iff.1 hx
  obtain ⟨i, hi, rfl⟩ := List.getElem_of_mem hx'
  obtain ⟨j, hj, rfl⟩ := List.getElem_of_mem hy
  rw [List.pairwise_iff_getElem] at hs
  rcases Nat.lt_trichotomy i j with hij | rfl | hij
  · have := hs i j hi hj hij; omega
  · rfl
  · have := hs j i hj hi hij; omega
theorem bestX_snoc (size : Int) (H : List Ext) (x : Ext) : bestX size (H ++ [x]) = if size ≤ x.2 ∧ ((bestX size H).2 = 0 ∨ x.2 < (bestX size H).2) then x else bestX size H := by
  unfold bestX; rw [List.foldl_append]; rfl
theorem snocE {p : List Ext → Prop} (h0 : p []) (h1 : ∀ L x, p L → p (L ++ [x])) (L : List Ext) : p L := by
  rw [← List.reverse_reverse L]
  induction L.reverse with
  | nil => exact h0
  | cons x L ih => rw [List.reverse_cons]; exact h1 _ _ ih
theorem best_inv (size : Int) (h1 : 1 ≤ size) (H : List Ext) : (bestX size H = (0, 0) ∧ ∀ h ∈ H, h.2 < size) ∨ (bestX size H ∈ H ∧ size ≤ (bestX size H).2 ∧ ∀ h ∈ H, size ≤ h.2 → (bestX size H).2 ≤ h.2) := by
  induction H using snocE with
  | h0 => exact .inl ⟨rfl, fun h hh => by cases hh⟩
  | h1 L x ih =>
    rw [bestX_snoc]
    rcases ih with ⟨e, hall⟩ | ⟨hm, hs, hall⟩
    · rw [e]
      by_cases hx : size ≤ x.2
      · rw [if_pos ⟨hx, .inl rfl⟩]
        refine .inr ⟨by simp, hx, fun h hh hsz => ?_⟩
        rcases List.mem_append.1 hh with hh | hh
        · have := hall h hh; omega
        · rw [List.mem_singleton.1 hh]; exact Int.le_refl _
      · rw [if_neg (fun h => hx h.1)]
        refine .inl ⟨rfl, fun h hh => ?_⟩
        rcases List.mem_append.1 hh with hh | hh
        · exact hall h hh
        · rw [List.mem_singleton.1 hh]; omega
    · by_cases hx : size ≤ x.2 ∧ ((bestX size L).2 = 0 ∨ x.2 < (bestX size L).2)
      · rw [if_pos hx]
        refine .inr ⟨by simp, hx.1, fun h hh hsz => ?_⟩
        rcases List.mem_append.1 hh with hh | hh
        · have := hall h hh hsz; omega
        · rw [List.mem_singleton.1 hh]; exact Int.le_refl _
      · rw [if_neg hx]
        refine .inr ⟨List.mem_append_left _ hm, hs, fun h hh hsz => ?_⟩
        rcases List.mem_append.1 hh with hh | hh
        · exact hall h hh hsz
        · rw [List.mem_singleton.1 hh] at hsz ⊢; omega
section
variable {n : Int} {l : List Ext}
theorem holes_runs (n : Int) (l : List Ext) : holesX n l = runsX 0 (sortE l) n := rfl
theorem holes_mem (h : chkX n l = 0) : ∀ x ∈ holesX n l, 0 ≤ x.1 ∧ 1 ≤ x.2 ∧ x.1 + x.2 ≤ n ∧ ∀ e ∈ l, x.1 + x.2 ≤ e.1 ∨ e.1 + e.2 ≤ x.1 := fun x hx => by
  obtain ⟨i1, i2, i3, i4⟩ := runs_mem (tidy_of h) x hx
  exact ⟨i1, i2, i3, fun e he => i4 e ((sortE_perm l).mem_iff.2 he)⟩
theorem holds_sum (h : chkX n l = 0) : sumX l + sumX (holesX n l) = n := by
  have h1 := runs_sum (tidy_of h)
  rw [sumX_perm (sortE_perm l)] at h1
  rw [holes_runs]; omega
theorem holds_bad (h : chkX n l = 0) : ∀ e ∈ l, badX n e = false := fun e he => by
  obtain ⟨_, _, _, _, h5⟩ := chkX_ok h
  obtain ⟨j, hj, rfl⟩ := List.getElem_of_mem he
  exact (h5 j hj).1
theorem holds_chk (h : chkX n l = 0) (hl : (l ++ holesX n l).length ≤ 200) : chkX n (l ++ holesX n l) = 0 := by
  obtain ⟨h0, h1, _, _, _⟩ := chkX_ok h
  have hm := holes_mem h
  refine chkX_of h0 h1 hl (fun e he => ?_) ?_
  · rcases List.mem_append.1 he with he | he
    · exact holds_bad h e he
    · have := hm e he; exact badX_of (by omega)
  · rw [List.pairwise_append]
    refine ⟨chkX_pair h, (runs_pair (tidy_of h)).imp fun hxy => hitX_false.2 (.inr hxy), fun e he x hx => ?_⟩
    have := (hm x hx).2.2.2 e he
    exact hitX_false.2 (by omega)
theorem more_chk (h : chkX n l = 0) {at_ L size : Int} (hm : (at_, L) ∈ holesX n l) (h1 : 1 ≤ size) (h2 : size ≤ L) (hl : l.length + 1 ≤ 200) : chkX n (l ++ [(at_, size)]) = 0 ∧ chkX n ((at_, size) :: l) = 0 := by
  obtain ⟨o0, o1, _, _, _⟩ := chkX_ok h
  obtain ⟨m1, m2, m3, m4⟩ := holes_mem h _ hm
  dsimp only at m1 m2 m3 m4
  have hb : ∀ e ∈ (at_, size) :: l, badX n e = false := fun e he => by
    rcases List.mem_cons.1 he with rfl | he
    · exact badX_of (by dsimp only; omega)
    · exact holds_bad h e he
  have hx : ∀ e ∈ l, hitX (at_, size) e = false := fun e he => hitX_false.2 (by have := m4 e he; dsimp only; omega)
  constructor
  · refine chkX_of o0 o1 (by simp; omega) (fun e he => hb e (by simp at he ⊢; rcases he with h | h; exact .inr h; exact .inl h)) ?_
    rw [List.pairwise_append]
    refine ⟨chkX_pair h, by simp, fun e he x hx' => ?_⟩
    rw [List.mem_singleton.1 hx', hitX_symm]
    exact hx e he
  · refine chkX_of o0 o1 (by simp; omega) hb ?_
    exact List.Pairwise.cons hx (chkX_pair h)
theorem fit_none (h : chkX n l = 0) {size : Int} (hf : fitE n l size ≠ 0) : ∀ x ∈ holesX n l, 1 ≤ size → x.2 < size := fun x hx hs => by
  obtain ⟨o0, o1, _, _, _⟩ := chkX_ok h
  have hm := holes_mem h x hx
  unfold fitE at hf
  rw [if_pos h] at hf
  by_cases h1 : size < 1 ∨ 6400 < size
  · omega
  · rw [if_neg h1] at hf
    rcases best_inv size hs (holesX n l) with ⟨e, hall⟩ | ⟨_, h2, _⟩
    · exact hall x hx
    · rw [if_neg (by omega)] at hf; exact absurd rfl hf
theorem fit_some (h : chkX n l = 0) {size : Int} (hf : fitE n l size = 0) : ∃ L, (fitA n l size, L) ∈ holesX n l ∧ 1 ≤ size ∧ size ≤ L ∧ (∀ x ∈ holesX n l, size ≤ x.2 → L ≤ x.2) ∧ (∀ x ∈ holesX n l, x.1 = fitA n l size → x.2 = L) := by
  have hA : fitA n l size = (bestX size (holesX n l)).1 := by unfold fitA; rw [if_pos hf]
  unfold fitE at hf
  rw [if_pos h] at hf
  by_cases h1 : size < 1 ∨ 6400 < size
  · rw [if_pos h1] at hf; cases hf
  · rw [if_neg h1] at hf
    have hs : 1 ≤ size := by omega
    rcases best_inv size hs (holesX n l) with ⟨e, _⟩ | ⟨hm, h2, h3⟩
    · rw [e] at hf; cases hf
    · refine ⟨(bestX size (holesX n l)).2, by rw [hA]; exact hm, hs, h2, h3, fun x hx hxa => ?_⟩
      rw [hA] at hxa
      have hp := runs_pair (tidy_of h)
      rw [← holes_runs, List.pairwise_iff_getElem] at hp
      obtain ⟨i, hi, rfl⟩ := List.getElem_of_mem hx
      obtain ⟨j, hj, hjb⟩ := List.getElem_of_mem hm
      rw [← hjb] at hxa ⊢
      have pi := holes_mem h _ (List.getElem_mem hi)
      have pj := holes_mem h _ (List.getElem_mem hj)
      rcases Nat.lt_trichotomy i j with hij | rfl | hij
      · have := hp i j hi hj hij; omega
      · rfl
      · have := hp j i hj hi hij; omega
theorem mostX_snoc (H : List Ext) (x : Ext) : mostX (H ++ [x]) = max (mostX H) x.2 := by
  unfold mostX; rw [List.foldl_append]; rfl
theorem mostX_mem (H : List Ext) : 0 ≤ mostX H ∧ (∀ x ∈ H, x.2 ≤ mostX H) ∧ ∀ M, 0 ≤ M → (∀ x ∈ H, x.2 ≤ M) → mostX H ≤ M := by
  induction H using snocE with
  | h0 => exact ⟨Int.le_refl _, fun x hx => (by cases hx), fun M hM _ => hM⟩
  | h1 L x ih =>
    obtain ⟨i0, i1, i2⟩ := ih
    rw [mostX_snoc]
    refine ⟨by omega, fun y hy => ?_, fun M hM hall => ?_⟩
    · rcases List.mem_append.1 hy with hy | hy
      · have := i1 y hy; omega
      · rw [List.mem_singleton.1 hy]; omega
    · have := i2 M hM (fun y hy => hall y (List.mem_append_left _ hy))
      have := hall x (by simp)
      omega
theorem sum_mem {H : List Ext} (hp : ∀ x ∈ H, 0 ≤ x.2) : 0 ≤ sumX H ∧ ∀ x ∈ H, x.2 ≤ sumX H := by
  induction H with
  | nil => exact ⟨Int.le_refl _, fun x hx => by cases hx⟩
  | cons y r ih =>
    obtain ⟨i0, i1⟩ := ih (fun x hx => hp x (List.mem_cons_of_mem _ hx))
    have := hp y (List.mem_cons_self ..)
    rw [sumX_cons]
    refine ⟨by omega, fun x hx => ?_⟩
    rcases List.mem_cons.1 hx with rfl | hx
    · omega
    · have := i1 x hx; omega
/-- what is most is free -/
theorem most_free (h : chkX n l = 0) : mostX (holesX n l) ≤ n - sumX l := by
  have hs := holds_sum h
  have hm := sum_mem (H := holesX n l) (fun x hx => by have := holes_mem h x hx; omega)
  exact (mostX_mem _).2.2 _ (by omega) (fun x hx => by have := hm.2 x hx; omega)
theorem fit_most (h : chkX n l = 0) {size : Int} (hf : fitE n l size ≠ 0) : size < 1 ∨ mostX (holesX n l) < size := by
  by_cases h1 : size < 1
  · exact .inl h1
  · right
    have := (mostX_mem (holesX n l)).2.2 (size - 1) (by omega) (fun x hx => by have := fit_none h hf x hx (by omega); omega)
    omega
theorem more_stat (h : chkX n l = 0) {at_ L size : Int} (hm : (at_, L) ∈ holesX n l) (h1 : 1 ≤ size) (h2 : size ≤ L) :
    mostX (holesX n ((at_, size) :: l)) ≤ mostX (holesX n l) ∧ (holesX n ((at_, size) :: l)).length ≤ (holesX n l).length ∧ sumX ((at_, size) :: l) = size + sumX l := by
  obtain ⟨S', p1, p2, p3, p4⟩ := runs_insert (tidy_of h) hm h1 h2
  have hu : sortE ((at_, size) :: l) = S' := sortE_unique (p1.trans (List.Perm.cons _ (sortE_perm l))) p2
  rw [holes_runs n (_ :: l), hu]
  refine ⟨(mostX_mem _).2.2 _ (mostX_mem _).1 (fun x hx => ?_), p3, sumX_cons _ _⟩
  obtain ⟨x', m1, m2⟩ := p4 x hx
  have := (mostX_mem (holesX n l)).2.1 x' m1
  omega
end
end Go.Proofs.YtnceheienlekaaaDoor
/- The reference's extents, plainly: its holes are the program's. No walk here. -/
namespace Go.Proofs.YtnceheienlekaaaDoor
open Go.RowKit

/-- a place that is free, behind runs -/
def addR (out : List Ext) (i : Int) : List Ext := match out.getLast? with
  | some h => if h.1 + h.2 = i then out.dropLast ++ [(h.1, h.2 + 1)] else out ++ [(i, 1)]
  | none => out ++ [(i, 1)]
def goR (T : Nat → Bool) (acc : List Ext) (i : Nat) : Nat → List Ext
  | 0 => acc
  | m + 1 => if T (i + m) = true then goR T acc i m else addR (goR T acc i m) ((i + m : Nat) : Int)
theorem goR_add (T : Nat → Bool) (acc : List Ext) (i a : Nat) : ∀ b, goR T acc i (a + b) = goR T (goR T acc i a) (i + a) b
  | 0 => rfl
  | b + 1 => by
    rw [← Nat.add_assoc, goR, goR, goR_add T acc i a b, Nat.add_assoc]
theorem goR_taken (T : Nat → Bool) (acc : List Ext) (i : Nat) : ∀ m, (∀ j, j < m → T (i + j) = true) → goR T acc i m = acc
  | 0, _ => rfl
  | m + 1, h => by rw [goR, if_pos (h m (by omega)), goR_taken T acc i m (fun j hj => h j (by omega))]
/-- the last run ends ahead of a -/
def EndsLt (acc : List Ext) (a : Int) : Prop := ∀ h, acc.getLast? = some h → h.1 + h.2 < a
theorem goR_free (T : Nat → Bool) (acc : List Ext) (i : Nat) (he : EndsLt acc i) : ∀ m, (∀ j, j < m + 1 → T (i + j) = false) → goR T acc i (m + 1) = acc ++ [((i : Int), ((m + 1 : Nat) : Int))]
  | 0, h => by
    rw [goR, goR, if_neg (by rw [h 0 (by omega)]; decide)]
    unfold addR
    cases hl : acc.getLast? with
    | none => simp
    | some x =>
      have := he x hl
      simp only
      rw [if_neg (by omega)]; simp
  | m + 1, h => by
    rw [goR, if_neg (by rw [h (m + 1) (by omega)]; decide), goR_free T acc i he m (fun j hj => h j (by omega))]
    unfold addR
    rw [List.getLast?_append]
    simp only [List.getLast?_singleton, Option.or]
    rw [if_pos (by omega), List.dropLast_concat]
    congr 1
def coverX (e : Ext) (i : Nat) : Bool := decide (e.1 ≤ i) && decide ((i : Int) < e.1 + e.2)
theorem goR_runs (T : Nat → Bool) (n : Nat) : ∀ (S : List Ext) (a : Nat) (acc : List Ext), Tidy a S n → (∀ i, a ≤ i → i < n → T i = S.any (fun e => coverX e i)) → EndsLt acc a → goR T acc a (n - a) = acc ++ runsX a S n
  | [], a, acc, ht, hT, he => by
    have ht : (a : Int) ≤ n := ht
    rw [runsX_nil]
    by_cases h : a < n
    · obtain ⟨m, hm⟩ : ∃ m, n - a = m + 1 := ⟨n - a - 1, by omega⟩
      rw [hm, goR_free T acc a he m (fun j hj => by rw [hT (a + j) (by omega) (by omega)]; rfl), if_pos (by omega)]
      rw [show ((m + 1 : Nat) : Int) = (n : Int) - a by omega]
    · rw [show n - a = 0 by omega, if_neg (by omega)]
      simp [goR]
  | e :: r, a, acc, ht, hT, he => by
    obtain ⟨h1, h2, h3⟩ := ht
    have h4 := tidy_le h3
    obtain ⟨x, y⟩ := e
    dsimp only at h1 h2 h3 h4
    obtain ⟨p, rfl⟩ := Int.eq_ofNat_of_zero_le (show 0 ≤ x by omega)
    obtain ⟨q, rfl⟩ := Int.eq_ofNat_of_zero_le (show 0 ≤ y by omega)
    have hrest : ∀ i, i < p + q → r.any (fun e => coverX e i) = false := fun i hi => by
      rw [List.any_eq_false]
      intro z hz
      have := tidy_mem h3 z hz
      simp [coverX]; omega
    have e1 : n - a = (p - a) + (q + (n - (p + q))) := by omega
    have s1 : goR T acc a (p - a) = acc ++ (if (a : Int) < (p : Int) then [((a : Int), (p : Int) - a)] else []) := by
      by_cases h : a < p
      · obtain ⟨m, hm⟩ : ∃ m, p - a = m + 1 := ⟨p - a - 1, by omega⟩
        rw [hm, goR_free T acc a he m (fun j hj => ?_), if_pos (by omega)]
        · rw [show ((m + 1 : Nat) : Int) = (p : Int) - a by omega]
        · rw [hT (a + j) (by omega) (by omega), List.any_cons, hrest (a + j) (by omega)]
          simp [coverX]; omega
      · rw [show p - a = 0 by omega, if_neg (by omega)]
        simp [goR]
    have hends : EndsLt (acc ++ (if (a : Int) < (p : Int) then [((a : Int), (p : Int) - a)] else [])) ((p + q : Nat) : Int) := by
      intro h hh
      by_cases hc : (a : Int) < (p : Int)
      · rw [if_pos hc, List.getLast?_append] at hh
        simp only [List.getLast?_singleton, Option.or, Option.some.injEq] at hh
        subst hh
        dsimp only; omega
      · rw [if_neg hc, List.append_nil] at hh
        have := he h hh; omega
    rw [e1, goR_add, s1, goR_add, goR_taken T _ (a + (p - a)) q (fun j hj => by
      rw [hT (a + (p - a) + j) (by omega) (by omega), List.any_cons]
      have : coverX ((p : Int), (q : Int)) (a + (p - a) + j) = true := by simp [coverX]; omega
      rw [this]; rfl)]
    rw [show a + (p - a) + q = p + q by omega]
    rw [goR_runs T n r (p + q) _ (by simpa using h3) (fun i h5 h6 => by
      rw [hT i (by omega) h6, List.any_cons]
      have : coverX ((p : Int), (q : Int)) i = false := by simp [coverX]; omega
      rw [this, Bool.false_or]) hends]
    rw [runsX_cons, List.append_assoc]
    simp
/-- the reference's holes are the program's -/
theorem goR_holes {n : Nat} {l : List Ext} (h : chkX n l = 0) (T : Nat → Bool) (hT : ∀ i, i < n → T i = l.any (fun e => coverX e i)) : goR T [] 0 n = holesX n l := by
  have ht := tidy_of h
  have := goR_runs T n (sortE l) 0 [] ht (fun i _ hi => by
    rw [hT i hi, Bool.eq_iff_iff, List.any_eq_true, List.any_eq_true]
    constructor
    · rintro ⟨x, h1, h2⟩; exact ⟨x, (sortE_perm l).mem_iff.2 h1, h2⟩
    · rintro ⟨x, h1, h2⟩; exact ⟨x, (sortE_perm l).mem_iff.1 h1, h2⟩) (fun h hh => by cases hh)
  rw [Nat.sub_zero, List.nil_append] at this
  rw [this, holes_runs]; rfl
/-- the reference's choice: where; how long -/
def refF (size : Int) (H : List Ext) : Int × Int := H.foldl (fun b h => if size ≤ h.2 ∧ (b.1 < 0 ∨ h.2 < b.2) then h else b) (-1, 0)
theorem refF_succ (size : Int) (H : List Ext) (k : Nat) (hk : k < H.length) : refF size (H.take (k + 1)) = if size ≤ H[k].2 ∧ ((refF size (H.take k)).1 < 0 ∨ H[k].2 < (refF size (H.take k)).2) then H[k] else refF size (H.take k) := by
  unfold refF
  rw [List.take_succ_eq_append_getElem hk, List.foldl_append]; rfl
theorem refF_best (size : Int) (H : List Ext) : (∀ h ∈ H, 0 ≤ h.1 ∧ 1 ≤ h.2) → (bestX size H = (0, 0) ∧ refF size H = (-1, 0)) ∨ (1 ≤ (bestX size H).2 ∧ 0 ≤ (bestX size H).1 ∧ refF size H = bestX size H) := by
  induction H using snocE with
  | h0 => exact fun _ => .inl ⟨rfl, rfl⟩
  | h1 L x ih =>
    intro hH
    have hx := hH x (by simp)
    rw [bestX_snoc]
    have hs : refF size (L ++ [x]) = if size ≤ x.2 ∧ ((refF size L).1 < 0 ∨ x.2 < (refF size L).2) then x else refF size L := by
      unfold refF; rw [List.foldl_append]; rfl
    rw [hs]
    rcases ih (fun h hh => hH h (List.mem_append_left _ hh)) with ⟨a, b⟩ | ⟨a, b, c⟩
    · rw [a, b]
      by_cases h : size ≤ x.2
      · rw [if_pos ⟨h, .inl rfl⟩, if_pos ⟨h, .inl (by decide)⟩]
        exact .inr ⟨hx.2, hx.1, rfl⟩
      · rw [if_neg (fun hh => h hh.1), if_neg (fun hh => h hh.1)]
        exact .inl ⟨rfl, rfl⟩
    · rw [c]
      by_cases h : size ≤ x.2 ∧ x.2 < (bestX size L).2
      · rw [if_pos ⟨h.1, .inr h.2⟩, if_pos ⟨h.1, .inr h.2⟩]
        exact .inr ⟨hx.2, hx.1, rfl⟩
      · rw [if_neg (fun hh => h ⟨hh.1, by omega⟩), if_neg (fun hh => h ⟨hh.1, by omega⟩)]
        exact .inr ⟨a, b, rfl⟩
theorem refF_fit {n : Int} {l : List Ext} (h : chkX n l = 0) (size : Int) (hs : ¬ (size < 1 ∨ 6400 < size)) : ((refF size (holesX n l)).1 < 0 ∧ fitE n l size = 4 ∧ fitA n l size = 0) ∨ (0 ≤ (refF size (holesX n l)).1 ∧ fitE n l size = 0 ∧ fitA n l size = (refF size (holesX n l)).1) := by
  have hb := refF_best size (holesX n l) (fun x hx => by have := holes_mem h x hx; omega)
  rcases hb with ⟨a, b⟩ | ⟨a, b, c⟩
  · left
    have e : fitE n l size = 4 := by unfold fitE; rw [if_pos h, if_neg hs, a]; rfl
    exact ⟨by rw [b]; decide, e, by unfold fitA; rw [e]; rfl⟩
  · right
    have e : fitE n l size = 0 := by unfold fitE; rw [if_pos h, if_neg hs, if_neg (by omega)]
    exact ⟨by rw [c]; exact b, e, by unfold fitA; rw [if_pos e, c]⟩
theorem stat_used {n : Int} {l : List Ext} (h : chkX n l = 0) : n - sumX (holesX n l) = sumX l ∧ n - sumX l = sumX (holesX n l) := by
  have := holds_sum h; omega
end Go.Proofs.YtnceheienlekaaaDoor
/- The reference's extents: Extents, Holes. -/
namespace Go.Proofs.YtnceheienlekaaaDoor
open Go.RowKit

theorem zero6401 : Tryd.zeroCells126 = Array.replicate 6401 (.bool false) := by kernel_rfl
/-- a block of booleans: which are true -/
def BlkB (w : World) (g : Nat) (T : Nat → Bool) : Prop := ∃ cur, w.heap[g]? = some (.cells cur 126 (0, 0)) ∧ cur.size = 6401 ∧ ∀ i, i < 6401 → cur[i]? = some (.bool (T i))
theorem BlkB.block {w w' : World} {g : Nat} {T : Nat → Bool} (h : BlkB w g T) (hb : w'.heap[g]? = w.heap[g]?) : BlkB w' g T := by
  obtain ⟨cur, h1, h2⟩ := h
  exact ⟨cur, hb.trans h1, h2⟩
theorem BlkB.cell {w : World} {g : Nat} {T : Nat → Bool} (h : BlkB w g T) (i : Nat) (hi : i < 6401) : w.cell? ⟨g, i, none⟩ = some (.bool (T i)) ∧ w.frozen? ⟨g, i, none⟩ = false := by
  obtain ⟨cur, h1, h2, h3⟩ := h
  exact ⟨by simp [World.cell?, h1, h3 i hi], frozen_of_row _ g i _ _ h1⟩
theorem BlkB.set {w : World} {g : Nat} {T : Nat → Bool} (h : BlkB w g T) (i : Nat) (hi : i < 6401) : BlkB (w.setCell ⟨g, i, none⟩ (.bool true)) g (fun q => T q || decide (q = i)) := by
  obtain ⟨cur, h1, h2, h3⟩ := h
  refine ⟨_, heap_setK (k := i) h1 _, by simp [h2], fun q hq => ?_⟩
  rw [Array.getElem?_setIfInBounds]
  by_cases e : i = q
  · subst e
    rw [if_pos rfl, if_pos (by omega)]; simp
  · rw [if_neg e, h3 q hq]
    have : decide (q = i) = false := by simp; omega
    show _ = some (Value.bool (T q || decide (q = i)))
    rw [this, Bool.or_false]
theorem BlkB.congr {w : World} {g : Nat} {T T' : Nat → Bool} (h : BlkB w g T) (e : ∀ i, i < 6401 → T' i = T i) : BlkB w g T' := by
  obtain ⟨cur, h1, h2, h3⟩ := h
  exact ⟨cur, h1, h2, fun i hi => by rw [e i hi]; exact h3 i hi⟩
/-- a cell of an own row, stored into -/
theorem own_set {w : World} {base size n g cap k : Nat} {e : TypeId} {xs : List Value} (h : w.ownsRow base e size (.slice (some ⟨g, 0, none⟩) n cap) n xs) (hk : k < xs.length) (u : Value) :
    (w.setCell ⟨g, k, none⟩ u).ownsRow base e size (.slice (some ⟨g, 0, none⟩) n cap) n (xs.set k u) ∧ w.frozen? ⟨g, k, none⟩ = false := by
  rcases h with ⟨h0, ⟨h1, _⟩ | ⟨g', cap', cur, he, hb, hh, hn, hm, hc, ht⟩⟩
  · cases h1
  · injection he with he _ hcap
    injection he with he
    injection he with he
    subst he hcap
    refine ⟨⟨by rw [List.length_set]; exact h0, .inr ⟨g, cap, _, rfl, hb, heap_setK (k := k) hh u, hn, hm, by simp [hc], ?_⟩⟩, frozen_of_row _ g k _ _ hh⟩
    rw [← ht, Array.toList_setIfInBounds, List.take_set]
theorem loopX_step (n : Int) (l : List Ext) (k : Nat) (hk : k < l.length) (h : loopX n l k = 0) : loopX n l (k + 1) = faultX n l k l[k] := by
  rw [loopX, if_pos h]
  have hg : l.getD k (0, 0) = l[k] := by simp [hk]
  rw [hg]
theorem loopX_chk {n : Int} {l : List Ext} (hn : ¬ (n < 0 ∨ 6400 < n)) (hl : ¬ 200 < l.length) (k : Nat) (hk : k ≤ l.length) {q : Nat} (hq : loopX n l k = q) (h0 : q ≠ 0) : chkX n l = q := by
  unfold chkX
  rw [if_neg hn, if_neg hl, loopX_stop n l k (by omega) l.length hk, hq]
set_option maxRecDepth 100000 in
set_option maxHeartbeats 1000000 in
theorem rext_any (n : Int) (A : Option Addr) (m c : Nat) (l : List Ext) (w : World) (hl : l.length = m) (hmc : m ≤ c) (hr : RdX tcells 2 w A l) :
    Calls Tryd.prog 31 #[.int .i64 n, .slice A m c] w fun e w' => e = .returned (.int .i64 (chkX n l : Int)) ∧ Below w.heap.size w w' := by
  have HL := Hidden.mk hl
  have HR := Hidden.mk hr
  have HX : Hidden (chkX n l = if n < 0 ∨ 6400 < n then 1 else if 200 < m then 4 else loopX n l m) := ⟨by unfold chkX; rw [hl]⟩
  have HST : Hidden (¬ (n < 0 ∨ 6400 < n) → ¬ 200 < m → ∀ k, k ≤ m → ∀ q : Nat, loopX n l k = q → q ≠ 0 → chkX n l = q) := ⟨fun a b k hk q hq h0 => loopX_chk a (by rw [hl]; exact b) k (by rw [hl]; exact hk) hq h0⟩
  generalize chkX n l = r at *
  clear hl hr
  by_cases q1 : n < 0
  · have d1 : decide (n < 0) = true := by simpa using q1
    have hr1 : r = 1 := by rw [HX.out, if_pos (.inl q1)]
    subst hr1
    clear q1 HX HST
    go_enter Tryd.func31, Tryd.ntmps31
    go_wp2_with fail
    go_ret
    exact ⟨rfl, Below.refl _ _⟩
  have d1 : decide (n < 0) = false := by simpa using q1
  by_cases q2 : 6400 < n
  · have d2 : decide (6400 < n) = true := by simpa using q2
    have hr1 : r = 1 := by rw [HX.out, if_pos (.inr q2)]
    subst hr1
    clear q1 q2 HX HST
    go_enter Tryd.func31, Tryd.ntmps31
    go_wp2_with fail
    go_ret
    exact ⟨rfl, Below.refl _ _⟩
  have d2 : decide (6400 < n) = false := by simpa using q2
  by_cases q3 : 200 < m
  · have d3 : decide (200 < (m : Int)) = true := by simp; omega
    have d3' : decide (200 < m) = true := by simpa using q3
    have hr1 : r = 4 := by rw [HX.out, if_neg (by omega), if_pos q3]
    subst hr1
    clear q1 q2 q3 HX HST
    go_enter Tryd.func31, Tryd.ntmps31
    go_wp2_with fail
    go_ret
    exact ⟨rfl, Below.refl _ _⟩
  have d3 : decide (200 < (m : Int)) = false := by simp; omega
  have d3' : decide (200 < m) = false := by simpa using q3
  have HX := Hidden.mk (show r = loopX n l m by rw [HX.out, if_neg (by omega), if_neg q3])
  have HST := Hidden.mk (HST.out (by omega) q3)
  have HN : Hidden (0 ≤ n ∧ n ≤ 6400 ∧ m ≤ 200) := ⟨by omega⟩
  clear q1 q2 q3
  go_enter Tryd.func31, Tryd.ntmps31
  go_wp2_with fail
  clear d1 d2 d3 d3'
  go_loopg [5] m (fun q iv wr => ∃ k : Nat, k ≤ m ∧ q = m - k ∧ iv = .int .i64 (k : Int) ∧ Hidden (loopX n l k = 0 ∧ Below w.heap.size w wr))
  case atStart => exact ⟨0, by omega, rfl, rfl, ⟨rfl, Below.refl _ _⟩⟩
  case round =>
    obtain ⟨k, hk, rfl, rfl, hst⟩ := hrel
    by_cases hlt : k < m
    · have hkl : k < l.length := by rw [HL.out]; exact hlt
      have i0 : (0 : Int) ≤ k := by omega
      have i1 : (k : Int) < m := by omega
      have s1 : IntKind.i64.wrap ((k : Int) + 1) = (k : Int) + 1 := IntWalk.i64_in _ (by have := HN.out; omega)
      have HF := Hidden.mk (loopX_step n l k hkl hst.out.1)
      have HZ := Hidden.mk (loopX_zero n l k hst.out.1)
      have HB := Hidden.mk hst.out.2
      obtain ⟨pb, off, rfl, hcx⟩ := (HR.out.below HB.out) k hkl
      have x0 := hcx 0 _ rfl
      have x1 := hcx 1 _ rfl
      rw [Nat.add_zero] at x0
      have HFX : Hidden (faultX n l k l[k] = if badX n l[k] = true then 1 else if (l.take k).any (hitX l[k]) = true then 7 else 0) := ⟨rfl⟩
      generalize l[k] = e at *
      obtain ⟨e1, e2⟩ := e
      dsimp only at x0 x1
      have hal := (Below.refl wr.heap.size wr).alloc (Nat.le_refl _) (.cells #[.int .i64 e1, .int .i64 e2] 123)
      have HB2 := Hidden.mk (HB.out.trans (hal.mono HB.out.size))
      have hbk := heap_alloc_new wr (.cells #[.int .i64 e1, .int .i64 e2] 123)
      have HBK := Hidden.mk hbk
      have y0 : (wr.alloc (.cells #[.int .i64 e1, .int .i64 e2] 123)).cell? ⟨wr.heap.size, 0, none⟩ = some (.int .i64 e1) := by simp only [World.cell?]; rw [hbk]; rfl
      have y1 : (wr.alloc (.cells #[.int .i64 e1, .int .i64 e2] 123)).cell? ⟨wr.heap.size, 1, none⟩ = some (.int .i64 e2) := by simp only [World.cell?]; rw [hbk]; rfl
      have HBAD : Hidden (badX n (e1, e2) = true → r = 1) := ⟨fun hb => HST.out (k + 1) (by omega) 1 (by rw [HF.out, HFX.out, if_pos hb]) (by decide)⟩
      clear hcx hal hbk hst
      by_cases b1 : e2 < 1
      · have t1 : decide (e2 < 1) = true := by simpa using b1
        have hr1 := HBAD.out (by unfold badX; simp [b1])
        subst hr1
        clear b1 HBAD
        go_wp2_with fail
        go_ret
        exact ⟨rfl, HB2.out⟩
      have t1 : decide (e2 < 1) = false := by simpa using b1
      by_cases b2 : e1 < 0
      · have t2 : decide (e1 < 0) = true := by simpa using b2
        have hr1 := HBAD.out (by unfold badX; simp [b2])
        subst hr1
        clear b1 b2 HBAD
        go_wp2_with fail
        go_ret
        exact ⟨rfl, HB2.out⟩
      have t2 : decide (e1 < 0) = false := by simpa using b2
      by_cases b3 : n < e1
      · have t3 : decide (n < e1) = true := by simpa using b3
        have hr1 := HBAD.out (by
          unfold badX
          by_cases h : n < e2
          · simp [h]
          · have : n - e2 < e1 := by omega
            simp [this])
        subst hr1
        clear b1 b2 b3 HBAD
        go_wp2_with fail
        go_ret
        exact ⟨rfl, HB2.out⟩
      have t3 : decide (n < e1) = false := by simpa using b3
      have s2 : IntKind.i64.wrap (n - e1) = n - e1 := IntWalk.i64_in _ (by have := HN.out; omega)
      by_cases b4 : n - e1 < e2
      · have t4 : decide (n - e1 < e2) = true := by simpa using b4
        have hr1 := HBAD.out (by
          unfold badX
          have : n - e2 < e1 := by omega
          simp [this])
        subst hr1
        clear b1 b2 b3 b4 HBAD
        go_wp2_with fail
        go_ret
        exact ⟨rfl, HB2.out⟩
      have t4 : decide (n - e1 < e2) = false := by simpa using b4
      have HOK : Hidden (badX n (e1, e2) = false ∧ 0 ≤ e1 ∧ e1 ≤ 6400 ∧ 1 ≤ e2 ∧ e2 ≤ 6400) := ⟨badX_of (by dsimp only; omega), by have := HN.out; omega⟩
      have HFX := Hidden.mk (show faultX n l k (e1, e2) = if (l.take k).any (hitX (e1, e2)) = true then 7 else 0 by rw [HFX.out, if_neg (by rw [HOK.out.1]; decide)])
      clear b1 b2 b3 b4 HBAD
      go_wp2_with fail
      generalize wr.alloc (.cells #[.int .i64 e1, .int .i64 e2] 123) = wa at *
      clear x0 x1 t1 t2 t3 t4 s2 HB HBK
      generalize wr.heap.size = gb at *
      go_loopg [7] k (fun q jv wy => ∃ j : Nat, j ≤ k ∧ q = k - j ∧ jv = .int .i64 (j : Int) ∧ Hidden ((l.take j).any (hitX (e1, e2)) = false ∧ Below wa.heap.size wa wy))
      case atStart => exact ⟨0, by omega, rfl, rfl, ⟨by simp, Below.refl _ _⟩⟩
      case round =>
        obtain ⟨j, hj, rfl, rfl, hs2⟩ := hrel
        have HY := Hidden.mk hs2.out
        have HBY := Hidden.mk (HB2.out.trans (HY.out.2.mono HB2.out.size))
        clear hs2
        have yy0 := (HY.out.2.cell (p := ⟨gb, 0, none⟩) (block_lt_of_cell y0)).trans y0
        have yy1 := (HY.out.2.cell (p := ⟨gb, 1, none⟩) (block_lt_of_cell y1)).trans y1
        by_cases hjk : j < k
        · have j0 : (0 : Int) ≤ j := by omega
          have j1 : (j : Int) < k := by omega
          have j2 : (j : Int) < m := by omega
          have s3 : IntKind.i64.wrap ((j : Int) + 1) = (j : Int) + 1 := IntWalk.i64_in _ (by have := HN.out; omega)
          have hjl : j < l.length := by omega
          have hfz := HZ.out j hjk
          have hgj : l.getD j (0, 0) = l[j] := by simp [hjl]
          rw [hgj] at hfz
          have hbz := badX_false (faultX_zero hfz).1
          obtain ⟨pb', off', e', hcy⟩ := (HR.out.below HBY.out) j hjl
          simp only [Option.some.injEq, Addr.mk.injEq, and_true] at e'
          obtain ⟨rfl, rfl⟩ := e'
          have z0 := hcy 0 _ rfl
          have z1 := hcy 1 _ rfl
          rw [Nat.add_zero] at z0
          have HTK : Hidden ((l.take (j + 1)).any (hitX (e1, e2)) = ((l.take j).any (hitX (e1, e2)) || hitX (e1, e2) l[j])) := ⟨by rw [List.take_succ_eq_append_getElem hjl, List.any_append]; simp⟩
          have HMEM : Hidden (hitX (e1, e2) l[j] = true → (l.take k).any (hitX (e1, e2)) = true) := ⟨fun h => List.any_eq_true.2 ⟨l[j], List.mem_take_iff_getElem.2 ⟨j, by omega, rfl⟩, h⟩⟩
          generalize l[j] = b at *
          obtain ⟨b1, b2⟩ := b
          dsimp only at z0 z1 hbz
          have HHX : Hidden (hitX (e1, e2) (b1, b2) = (decide (e1 < b1 + b2) && decide (b1 < e1 + e2))) := ⟨rfl⟩
          have s4 : IntKind.i64.wrap (b1 + b2) = b1 + b2 := IntWalk.i64_in _ (by have := HN.out; omega)
          have s5 : IntKind.i64.wrap (e1 + e2) = e1 + e2 := IntWalk.i64_in _ (by have := HOK.out; omega)
          have hal := (Below.refl wr.heap.size wr).alloc (Nat.le_refl _) (.cells #[.int .i64 b1, .int .i64 b2] 123)
          have v0 := (hal.cell (p := ⟨gb, 0, none⟩) (block_lt_of_cell yy0)).trans yy0
          have v1 := (hal.cell (p := ⟨gb, 1, none⟩) (block_lt_of_cell yy1)).trans yy1
          have HBZ := Hidden.mk (HY.out.2.trans (hal.mono HY.out.2.size))
          have HBW := Hidden.mk (HBY.out.trans (hal.mono HBY.out.size))
          clear hcy hbz hfz hal hgj
          by_cases c1 : e1 < b1 + b2
          · have t1 : decide (e1 < b1 + b2) = true := by simpa using c1
            by_cases c2 : b1 < e1 + e2
            · have t2 : decide (b1 < e1 + e2) = true := by simpa using c2
              have hr1 := HST.out (k + 1) (by omega) 7 (by rw [HF.out, HFX.out, if_pos (HMEM.out (by rw [HHX.out, t1, t2]; rfl))]) (by decide)
              subst hr1
              clear c1 c2 HMEM HHX
              go_wp2_with fail
              go_ret
              exact ⟨rfl, HBW.out⟩
            · have t2 : decide (b1 < e1 + e2) = false := by simpa using c2
              have HN1 := Hidden.mk (show (l.take (j + 1)).any (hitX (e1, e2)) = false by rw [HTK.out, HY.out.1, HHX.out, t1, t2]; rfl)
              clear c1 c2 HMEM HHX
              go_wp2_with fail
              go_roundg (k - (j + 1))
              case measure => omega
              case rel => exact ⟨j + 1, by omega, rfl, by go_num, ⟨HN1.out, HBZ.out⟩⟩
          · have t1 : decide (e1 < b1 + b2) = false := by simpa using c1
            have HN1 := Hidden.mk (show (l.take (j + 1)).any (hitX (e1, e2)) = false by rw [HTK.out, HY.out.1, HHX.out, t1]; rfl)
            clear c1 HMEM HHX
            go_wp2_with fail
            go_roundg (k - (j + 1))
            case measure => omega
            case rel => exact ⟨j + 1, by omega, rfl, by go_num, ⟨HN1.out, HBZ.out⟩⟩
        · obtain rfl : j = k := by omega
          have t4 : decide ((j : Int) < j) = false := by simp
          have HN1 := Hidden.mk (show loopX n l (j + 1) = 0 by rw [HF.out, HFX.out, if_neg (by rw [HY.out.1]; decide)])
          clear HY yy0 yy1
          go_wp2_with fail
          go_roundg (m - (j + 1))
          case measure => omega
          case rel => exact ⟨j + 1, by omega, rfl, by go_num, ⟨HN1.out, HBY.out⟩⟩
    · obtain rfl : k = m := by omega
      have t4 : decide ((k : Int) < k) = false := by simp
      have hr0 : r = 0 := by rw [HX.out]; exact hst.out.1
      subst hr0
      go_wp2_with fail
      go_ret
      exact ⟨rfl, hst.out.2⟩
end Go.Proofs.YtnceheienlekaaaDoor
/- The reference's extents: Holes. -/
namespace Go.Proofs.YtnceheienlekaaaDoor
open Go.RowKit

theorem coverX_step (e : Ext) (j i : Nat) (h0 : 0 ≤ e.1) : (decide (e.1 ≤ i) && decide ((i : Int) < e.1 + ((j + 1 : Nat) : Int))) = ((decide (e.1 ≤ i) && decide ((i : Int) < e.1 + (j : Int))) || decide (i = e.1.toNat + j)) := by
  rw [Bool.eq_iff_iff]
  simp only [Bool.and_eq_true, Bool.or_eq_true, decide_eq_true_eq]
  omega
theorem goR_succ (T : Nat → Bool) (i : Nat) : goR T [] 0 (i + 1) = if T i = true then goR T [] 0 i else addR (goR T [] 0 i) (i : Int) := by
  rw [goR, Nat.zero_add]
theorem goR_len (T : Nat → Bool) : ∀ i, (goR T [] 0 i).length ≤ i
  | 0 => Nat.le_refl _
  | i + 1 => by
    rw [goR_succ]
    have := goR_len T i
    split
    · omega
    · unfold addR
      split
      · split <;> simp <;> omega
      · simp; omega
theorem tcells_flat (L : List Ext) : (L.flatMap tcells).length = L.length * 2 := by
  induction L with
  | nil => rfl
  | cons x r ih => rw [List.flatMap_cons, List.length_append, ih, List.length_cons]; simp [tcells]; omega
/-- runs lie within what was looked at -/
theorem goR_in (T : Nat → Bool) : ∀ i, ∀ x ∈ goR T [] 0 i, 0 ≤ x.1 ∧ 1 ≤ x.2 ∧ x.1 + x.2 ≤ i
  | 0 => fun x hx => by cases hx
  | i + 1 => fun x hx => by
    have ih := goR_in T i
    rw [goR_succ] at hx
    by_cases ht : T i = true
    · rw [if_pos ht] at hx
      have := ih x hx; omega
    · rw [if_neg ht] at hx
      unfold addR at hx
      cases hl : (goR T [] 0 i).getLast? with
      | none =>
        rw [hl] at hx
        simp only [List.mem_append, List.mem_singleton] at hx
        rcases hx with hx | rfl
        · have := ih x hx; omega
        · dsimp only; omega
      | some y =>
        rw [hl] at hx
        have hy := ih y (List.mem_of_getLast? hl)
        simp only at hx
        by_cases he : y.1 + y.2 = (i : Int)
        · rw [if_pos he] at hx
          simp only [List.mem_append, List.mem_singleton] at hx
          rcases hx with hx | rfl
          · have := ih x ((List.dropLast_sublist _).subset hx); omega
          · dsimp only; omega
        · rw [if_neg he] at hx
          simp only [List.mem_append, List.mem_singleton] at hx
          rcases hx with hx | rfl
          · have := ih x hx; omega
          · dsimp only; omega
set_option maxRecDepth 100000 in
set_option maxHeartbeats 1000000 in
theorem rholes_any (n : Nat) (A : Option Addr) (m c : Nat) (l : List Ext) (w : World) (hl : l.length = m) (hr : RdX tcells 2 w A l) (hc : chkX (n : Int) l = 0) :
    Calls Tryd.prog 33 #[.int .i64 (n : Int), .slice A m c] w fun e w' => ∃ v, e = .returned v ∧ w'.ownsRow w.heap.size 123 2 v (holesX (n : Int) l).length ((holesX (n : Int) l).flatMap tcells) ∧ Below w.heap.size w w' := by
  obtain ⟨o0, o1, o2, o3, -⟩ := chkX_ok hc
  have HL := Hidden.mk hl
  have HR := Hidden.mk hr
  have HBD : Hidden (∀ e ∈ l, 0 ≤ e.1 ∧ 1 ≤ e.2 ∧ e.1 + e.2 ≤ n) := ⟨fun e he => by have := badX_false (holds_bad hc e he); omega⟩
  have HH : Hidden (∀ T : Nat → Bool, (∀ i, i < n → T i = l.any (fun e => coverX e i)) → goR T [] 0 n = holesX (n : Int) l) := ⟨fun T hT => goR_holes hc T hT⟩
  have HN : Hidden (n ≤ 6400 ∧ m ≤ 200) := ⟨by omega⟩
  obtain ⟨hi0, hi1, hz0, hz1, hz2⟩ := info_parts extent_info
  have HI := Hidden.mk (And.intro hi1 (And.intro hz0 (And.intro hz1 hz2)))
  have HB0 := Hidden.mk ((Below.refl w.heap.size w).alloc (Nat.le_refl _) (.cells Tryd.zeroCells126 126))
  have HT0 : Hidden (BlkB (w.alloc (.cells Tryd.zeroCells126 126)) w.heap.size (fun _ => false)) := ⟨⟨_, heap_alloc_new w _, by rw [zero6401]; simp, fun i hi => by rw [zero6401]; simp [hi]⟩⟩
  generalize holesX (n : Int) l = H at *
  clear hl hr hc o0 o1 o2 o3 hi1 hz0 hz1 hz2
  go_enter Tryd.func33, Tryd.ntmps33
  go_upto_region 2 with (fail)
  generalize w.alloc (.cells Tryd.zeroCells126 126) = w1 at *
  generalize hgb : w.heap.size = gb at *
  have HGB := Hidden.mk hgb
  clear hgb
  go_wp2_with fail
  go_loopg [6] m (fun q kv wr => ∃ k : Nat, k ≤ m ∧ q = m - k ∧ kv = .int .i64 (k : Int) ∧ Hidden (BlkB wr gb (fun i => (l.take k).any (fun e => coverX e i)) ∧ Below gb w wr))
  case atStart => exact ⟨0, by omega, rfl, rfl, ⟨HT0.out.congr (fun i _ => by simp), HB0.out⟩⟩
  case round =>
    obtain ⟨k, hk, rfl, rfl, hst⟩ := hrel
    by_cases hlt : k < m
    · have hkl : k < l.length := by rw [HL.out]; exact hlt
      have i0 : (0 : Int) ≤ k := by omega
      have i1 : (k : Int) < m := by omega
      have s1 : IntKind.i64.wrap ((k : Int) + 1) = (k : Int) + 1 := IntWalk.i64_in _ (by have := HN.out; omega)
      obtain ⟨pb, off, rfl, hcx⟩ := HR.out k hkl
      have x0 := hcx 0 _ rfl
      have x1 := hcx 1 _ rfl
      rw [Nat.add_zero] at x0
      have hbd := HBD.out l[k] (List.getElem_mem hkl)
      have HTK : Hidden (∀ i : Nat, (l.take (k + 1)).any (fun e => coverX e i) = ((l.take k).any (fun e => coverX e i) || coverX l[k] i)) := ⟨fun i => by rw [List.take_succ_eq_append_getElem hkl, List.any_append]; simp⟩
      generalize l[k] = e at *
      obtain ⟨e1, e2⟩ := e
      dsimp only at x0 x1 hbd
      obtain ⟨p, rfl⟩ := Int.eq_ofNat_of_zero_le hbd.1
      obtain ⟨q, rfl⟩ := Int.eq_ofNat_of_zero_le (show 0 ≤ e2 by omega)
      have HRK : Hidden (∀ W, Below gb w W → W.cell? ⟨pb, off + k * 2, none⟩ = some (.int .i64 (p : Int)) ∧ W.cell? ⟨pb, off + k * 2 + 1, none⟩ = some (.int .i64 (q : Int))) := ⟨fun W hW => by
        rw [← HGB.out] at hW
        exact ⟨(hW.cell (p := ⟨pb, off + k * 2, none⟩) (block_lt_of_cell x0)).trans x0, (hW.cell (p := ⟨pb, off + k * 2 + 1, none⟩) (block_lt_of_cell x1)).trans x1⟩⟩
      have HS := Hidden.mk hst.out
      clear hcx x0 x1 hst
      go_wp2_with fail
      go_loopg [7] q (fun z jv wy => ∃ j : Nat, j ≤ q ∧ z = q - j ∧ jv = .int .i64 (j : Int) ∧ Hidden (BlkB wy gb (fun i => (l.take k).any (fun e => coverX e i) || (decide ((p : Int) ≤ i) && decide ((i : Int) < (p : Int) + (j : Int)))) ∧ Below gb w wy))
      case atStart => exact ⟨0, by omega, rfl, rfl, ⟨HS.out.1.congr (fun i _ => by
        have : (decide ((p : Int) ≤ i) && decide ((i : Int) < (p : Int) + ((0 : Nat) : Int))) = false := by
          rw [Bool.eq_false_iff]; intro h; simp only [Bool.and_eq_true, decide_eq_true_eq] at h; omega
        rw [this, Bool.or_false]), HS.out.2⟩⟩
      case round =>
        obtain ⟨j, hj, rfl, rfl, hs2⟩ := hrel
        obtain ⟨x0, x1⟩ := HRK.out wr hs2.out.2
        by_cases hjq : j < q
        · have j0 : decide ((j : Int) < q) = true := by simp; omega
          have s2 : IntKind.i64.wrap ((p : Int) + j) = (p : Int) + j := IntWalk.i64_in _ (by have := HN.out; omega)
          have s3 : IntKind.i64.wrap ((j : Int) + 1) = (j : Int) + 1 := IntWalk.i64_in _ (by have := HN.out; omega)
          have hz1 : p + j < 6401 := by have := HN.out; omega
          have z0 : (0 : Int) ≤ (p : Int) + j := by omega
          have z1 : (p : Int) + j < 6401 := by omega
          obtain ⟨y0, y1⟩ := hs2.out.1.cell (p + j) hz1
          have HNX : Hidden (BlkB (wr.setCell ⟨gb, p + j, none⟩ (.bool true)) gb (fun i => (l.take k).any (fun e => coverX e i) || (decide ((p : Int) ≤ i) && decide ((i : Int) < (p : Int) + ((j + 1 : Nat) : Int)))) ∧ Below gb w (wr.setCell ⟨gb, p + j, none⟩ (.bool true))) := ⟨(hs2.out.1.set (p + j) hz1).congr (fun i _ => by
            have := coverX_step ((p : Int), 0) j i (by dsimp only; omega)
            dsimp only at this
            rw [this, show ((p : Int)).toNat + j = p + j by omega, Bool.or_assoc]), hs2.out.2.setCell (p := ⟨gb, p + j, none⟩) (Nat.le_refl _) _⟩
          clear hs2 HS
          go_wp2_with fail
          go_roundg (q - (j + 1))
          case measure => omega
          case rel => exact ⟨j + 1, by omega, rfl, by go_num, HNX⟩
        · obtain rfl : j = q := by omega
          have j0 : decide ((j : Int) < j) = false := by simp
          have HNX : Hidden (BlkB wr gb (fun i => (l.take (k + 1)).any (fun e => coverX e i)) ∧ Below gb w wr) := ⟨hs2.out.1.congr (fun i _ => by rw [HTK.out i]; rfl), hs2.out.2⟩
          clear hs2 HS
          go_wp2_with fail
          go_roundg (m - (k + 1))
          case measure => omega
          case rel => exact ⟨k + 1, by omega, rfl, by go_num, HNX⟩
    · obtain rfl : k = m := by omega
      have t4 : decide ((k : Int) < k) = false := by simp
      obtain ⟨T, hT⟩ : ∃ T : Nat → Bool, T = fun i => l.any (fun e => coverX e i) := ⟨_, rfl⟩
      have HS : Hidden (BlkB wr gb T ∧ Below gb w wr) := ⟨by
        have h1 := hst.out.1
        rw [List.take_of_length_le (by rw [HL.out]; exact Nat.le_refl _)] at h1
        rw [hT]; exact h1, hst.out.2⟩
      have HG := Hidden.mk (HH.out T (fun i _ => by rw [hT]))
      clear hT hst HH
      have HGL : Hidden (gb < w1.heap.size) := ⟨by obtain ⟨cur, h1, -⟩ := HT0.out; exact (Array.getElem?_eq_some_iff.1 h1).1⟩
      clear HT0 HB0
      go_wp2_with fail
      go_loopg [8, 9] n (fun q v iv wr => ∃ i : Nat, i ≤ n ∧ q = n - i ∧ iv = .int .i64 (i : Int) ∧ Hidden (BlkB wr gb T ∧ Below gb w wr ∧ wr.ownsRow (gb + 1) 123 2 v (goR T [] 0 i).length ((goR T [] 0 i).flatMap tcells)))
      case atStart => exact ⟨0, by omega, rfl, rfl, ⟨HS.out.1, HS.out.2, World.ownsRow_nil _ _ _ _⟩⟩
      case round =>
        obtain ⟨i, hi, rfl, rfl, hs⟩ := hrel
        by_cases hin : i < n
        · have d0 : decide ((i : Int) < n) = true := by simp; omega
          have i0 : (0 : Int) ≤ i := by omega
          have i1 : (i : Int) < 6401 := by have := HN.out; omega
          have s1 : IntKind.i64.wrap ((i : Int) + 1) = (i : Int) + 1 := IntWalk.i64_in _ (by have := HN.out; omega)
          obtain ⟨y0, -⟩ := hs.out.1.cell i (by have := HN.out; omega)
          have HSC := Hidden.mk (goR_succ T i)
          have HST := Hidden.mk hs.out
          have hgl : gb + 1 ≤ wr.heap.size := by obtain ⟨cur, h1, -⟩ := hs.out.1; exact (Array.getElem?_eq_some_iff.1 h1).1
          cases hT : T i with
          | true =>
            rw [hT] at y0
            have HNX : Hidden (goR T [] 0 (i + 1) = goR T [] 0 i) := ⟨by rw [HSC.out, if_pos hT]⟩
            clear hT hs HSC HS
            go_wp2_with fail
            go_roundg (n - (i + 1))
            case measure => omega
            case rel => exact ⟨i + 1, by omega, rfl, by go_num, ⟨HST.out.1, HST.out.2.1, by rw [HNX.out]; exact HST.out.2.2⟩⟩
          | false =>
            rw [hT] at y0
            have HNX : Hidden (goR T [] 0 (i + 1) = addR (goR T [] 0 i) i) := ⟨by rw [HSC.out, if_neg (by rw [hT]; decide)]⟩
            have hlen := goR_len T i
            have hins := goR_in T i
            obtain ⟨H', hH'⟩ : ∃ H', goR T [] 0 (i + 1) = H' := ⟨_, rfl⟩
            have HHE := Hidden.mk hH'
            rw [hH'] at HNX
            clear hH'
            generalize goR T [] 0 i = R at *
            obtain ⟨Av, cv, rfl, hcv, -⟩ := own_split hs.out.2.2
            clear hT hs HSC HS
            rcases List.eq_nil_or_concat R with hnil | ⟨R', x, hR⟩
            · subst hnil
              have HNX : Hidden (H' = [] ++ [((i : Int), 1)]) := ⟨HNX.out⟩
              clear hlen hins
              go_upto_region 15 with (fail)
              go_quiet (fail)
              go_upto_region 17 with (fail)
              have HQ : Hidden (BlkB (wr.drewN nq) gb T ∧ Below gb w (wr.drewN nq) ∧ (wr.drewN nq).ownsRow (gb + 1) 123 2 (.slice Av 0 cv) 0 ((([] : List Ext)).flatMap tcells)) := ⟨HST.out.1, below_drewN HST.out.2.1 _, HST.out.2.2⟩
              have hgq : gb + 1 ≤ (wr.drewN nq).heap.size := hgl
              clear y0 hgl HST
              generalize wr.drewN nq = wq at *
              obtain ⟨hi1, hz0, hz1, hz2⟩ := HI.out
              have hown9 := HQ.out.2.2
              go_wp2_with (at_builtin; refine wpList_append_lies _ rfl (.tmp 75) (.tmp 78) _ rfl (gb + 1) 123 hi0 _ 2 16 Tryd.underlying69 hi1 hz0 hz1 hz2 rfl (by decide) (.slice Av 0 cv) 0 ((([] : List Ext)).flatMap tcells) rfl (own_below hown9 ((Below.refl _ _).alloc (Nat.le_refl _) _)) ⟨(wq).heap.size, 0, none⟩ 1 1 [.int .i64 (i : Int), .int .i64 1] rfl rfl (World.news_of_block (cs := #[.int .i64 (i : Int), .int .i64 1]) (t := 123) (fr := (0, 0)) (heap_alloc_new (wq) _)) (by simp [Value.oneCell']) (by omega) (by simp only [maxLen]; omega) (by omega) (by have hz_ := HQ.out.2.1.size; rw [World.size_alloc]; omega) ((wq).heap.size + 1) (by simp) ?_; intro g8 cap8 w8 hown8 hg8 hat8 hlt8)
              have hal := (Below.refl wq.heap.size wq).alloc (Nat.le_refl _) (.cells #[.int .i64 (i : Int), .int .i64 1] 123)
              have hgW := grown_trans' hal hg8
              have HF : Hidden (BlkB w8 gb T ∧ Below gb w w8 ∧ w8.ownsRow (gb + 1) 123 2 (.slice (some ⟨g8, 0, none⟩) (0 + 1) cap8) H'.length (H'.flatMap tcells)) := ⟨HQ.out.1.block (hgW.block gb (by omega) (fun e => by have := (HQ.out.2.2.lt gb e.symm).1; omega)), HQ.out.2.1.grown hgW (by omega) (fun q hq => by have := (HQ.out.2.2.lt q hq).1; omega), by rw [HNX.out]; simpa [tcells] using hown8⟩
              clear hal hgW hown8 hg8 hat8 hlt8 hown9 HQ hgq
              go_roundg (n - (i + 1))
              case measure => omega
              case rel => exact ⟨i + 1, by omega, rfl, by go_num, by rw [HHE.out]; exact HF⟩
            · rw [List.concat_eq_append] at hR
              subst hR
              have hx := hins x (by simp)
              have hkx : R'.length < (R' ++ [x]).length := by simp
              obtain ⟨ga, oa, hAv, hcx⟩ := own_rdX3 (f := tcells) tcells_len rfl HST.out.2.2 R'.length hkx
              subst hAv
              obtain ⟨ga', ca', hv', hga⟩ := own_mem HST.out.2.2 (by simp)
              injection hv' with q1 q2 q3
              injection q1 with q1
              injection q1 with q1 q4 q5
              subst q1 q3 q4
              clear q2 q5
              have hgx : (R' ++ [x])[R'.length] = x := by simp
              rw [hgx] at hcx
              have v0 := hcx 0 _ rfl
              have v1 := hcx 1 _ rfl
              rw [Nat.add_zero] at v0
              have HLL : Hidden ((R' ++ [x]).length = R'.length + 1) := ⟨by simp⟩
              have k0 : decide (0 < ((R'.length + 1 : Nat) : Int)) = true := decide_eq_true (by omega)
              have s4 : IntKind.i64.wrap (((R'.length + 1 : Nat) : Int) - 1) = (R'.length : Int) := (IntWalk.i64_in _ (by omega)).trans (by omega)
              have k1 : (0 : Int) ≤ R'.length := by omega
              have k2 : (R'.length : Int) < ((R'.length + 1 : Nat) : Int) := by omega
              have HADD : Hidden (H' = if x.1 + x.2 = (i : Int) then R' ++ [(x.1, x.2 + 1)] else (R' ++ [x]) ++ [((i : Int), 1)]) := ⟨by
                rw [HNX.out]; unfold addR
                rw [List.getLast?_concat]
                simp only [List.dropLast_concat]⟩
              obtain ⟨x1, x2⟩ := x
              dsimp only at hx HADD v0 v1
              have s5 : IntKind.i64.wrap (x1 + x2) = x1 + x2 := IntWalk.i64_in _ (by omega)
              have s6 : IntKind.i64.wrap (x2 + 1) = x2 + 1 := IntWalk.i64_in _ (by omega)
              have hR6 : R'.length + 1 ≤ 6400 := by have := HLL.out; have := HN.out; omega
              rw [Nat.zero_add] at v0 v1
              rw [HLL.out]
              clear hcx hgx hkx HNX hins
              by_cases hadj : x1 + x2 = (i : Int)
              · have HNX : Hidden (H' = R' ++ [(x1, x2 + 1)]) := ⟨by rw [HADD.out, if_pos hadj]⟩
                have e0 : (x1 + x2 == (i : Int)) = true := by simpa using hadj
                clear HADD hadj hlen
                go_upto_region 15 with (fail)
                go_quiet (fail)
                have HQ : Hidden (BlkB (wr.drewN nq) gb T ∧ Below gb w (wr.drewN nq) ∧ (wr.drewN nq).ownsRow (gb + 1) 123 2 (.slice (some ⟨ga, 0, none⟩) (R' ++ [(x1, x2)]).length cv) (R' ++ [(x1, x2)]).length ((R' ++ [(x1, x2)]).flatMap tcells)) := ⟨HST.out.1, below_drewN HST.out.2.1 _, HST.out.2.2⟩
                have v1' : (wr.drewN nq).cell? ⟨ga, R'.length * 2 + 1, none⟩ = some (.int .i64 x2) := v1
                clear y0 hgl HST v0 v1
                generalize wr.drewN nq = wq at *
                have hset := own_set HQ.out.2.2 (k := R'.length * 2 + 1) (by rw [tcells_flat]; simp; omega) (.int .i64 (x2 + 1))
                have HSET : Hidden (BlkB (wq.setCell ⟨ga, R'.length * 2 + 1, none⟩ (.int .i64 (x2 + 1))) gb T ∧ Below gb w (wq.setCell ⟨ga, R'.length * 2 + 1, none⟩ (.int .i64 (x2 + 1))) ∧ (wq.setCell ⟨ga, R'.length * 2 + 1, none⟩ (.int .i64 (x2 + 1))).ownsRow (gb + 1) 123 2 (.slice (some ⟨ga, 0, none⟩) (R'.length + 1) cv) H'.length (H'.flatMap tcells)) := ⟨HQ.out.1.block (Below.heap_setCell _ _ _ _ (by dsimp only; omega)), HQ.out.2.1.setCell (p := ⟨ga, R'.length * 2 + 1, none⟩) (by dsimp only; omega) _, by
                  have h1 := hset.1
                  rw [HLL.out] at h1
                  rw [HNX.out]
                  have e1 : ((R' ++ [(x1, x2)]).flatMap tcells).set (R'.length * 2 + 1) (.int .i64 (x2 + 1)) = (R' ++ [(x1, x2 + 1)]).flatMap tcells := by
                    rw [List.flatMap_append, List.flatMap_append]
                    have hl := tcells_flat R'
                    rw [List.set_append_right _ _ (by omega), hl, show R'.length * 2 + 1 - R'.length * 2 = 1 by omega]
                    rfl
                  rw [e1] at h1
                  simpa using h1⟩
                have f1 := hset.2
                clear hset HQ
                go_wp2_with fail
                go_roundg (n - (i + 1))
                case measure => omega
                case rel => exact ⟨i + 1, by omega, rfl, by go_num, by rw [HHE.out]; exact HSET⟩
              · have HNX : Hidden (H' = (R' ++ [(x1, x2)]) ++ [((i : Int), 1)]) := ⟨by rw [HADD.out, if_neg hadj]⟩
                have e0 : (x1 + x2 == (i : Int)) = false := by simpa using hadj
                rw [HLL.out] at HST
                clear HADD hadj hlen
                go_upto_region 15 with (fail)
                go_quiet (fail)
                clear v0 v1
                go_upto_region 17 with (fail)
                have HQ : Hidden (BlkB (wr.drewN nq) gb T ∧ Below gb w (wr.drewN nq) ∧ (wr.drewN nq).ownsRow (gb + 1) 123 2 (.slice (some ⟨ga, 0, none⟩) (R'.length + 1) cv) (R'.length + 1) ((R' ++ [(x1, x2)]).flatMap tcells)) := ⟨HST.out.1, below_drewN HST.out.2.1 _, HST.out.2.2⟩
                have hgq : gb + 1 ≤ (wr.drewN nq).heap.size := hgl
                clear y0 hgl HST
                generalize wr.drewN nq = wq at *
                obtain ⟨hi1, hz0, hz1, hz2⟩ := HI.out
                have hown9 := HQ.out.2.2
                go_wp2_with (at_builtin; refine wpList_append_lies _ rfl (.tmp 75) (.tmp 78) _ rfl (gb + 1) 123 hi0 _ 2 16 Tryd.underlying69 hi1 hz0 hz1 hz2 rfl (by decide) (.slice (some ⟨ga, 0, none⟩) (R'.length + 1) cv) (R'.length + 1) ((R' ++ [(x1, x2)]).flatMap tcells) rfl (own_below hown9 ((Below.refl _ _).alloc (Nat.le_refl _) _)) ⟨(wq).heap.size, 0, none⟩ 1 1 [.int .i64 (i : Int), .int .i64 1] rfl rfl (World.news_of_block (cs := #[.int .i64 (i : Int), .int .i64 1]) (t := 123) (fr := (0, 0)) (heap_alloc_new (wq) _)) (by simp [Value.oneCell']) (by omega) (by simp only [maxLen]; omega) (by omega) (by have hz_ := HQ.out.2.1.size; rw [World.size_alloc]; omega) ((wq).heap.size + 1) (by simp) ?_; intro g8 cap8 w8 hown8 hg8 hat8 hlt8)
                have hal := (Below.refl wq.heap.size wq).alloc (Nat.le_refl _) (.cells #[.int .i64 (i : Int), .int .i64 1] 123)
                have hgW := grown_trans' hal hg8
                have HF : Hidden (BlkB w8 gb T ∧ Below gb w w8 ∧ w8.ownsRow (gb + 1) 123 2 (.slice (some ⟨g8, 0, none⟩) ((R'.length + 1) + 1) cap8) H'.length (H'.flatMap tcells)) := ⟨HQ.out.1.block (hgW.block gb (by omega) (fun e => by have := (HQ.out.2.2.lt gb e.symm).1; omega)), HQ.out.2.1.grown hgW (by omega) (fun q hq => by have := (HQ.out.2.2.lt q hq).1; omega), by rw [HNX.out]; simpa [tcells] using hown8⟩
                clear hal hgW hown8 hg8 hat8 hlt8 hown9 HQ hgq
                go_roundg (n - (i + 1))
                case measure => omega
                case rel => exact ⟨i + 1, by omega, rfl, by go_num, by rw [HHE.out]; exact HF⟩
        · obtain rfl : i = n := by omega
          have d0 : decide ((i : Int) < i) = false := by simp
          have HF : Hidden (Below w.heap.size w wr ∧ wr.ownsRow w.heap.size 123 2 u8 H.length (H.flatMap tcells)) := ⟨by rw [HGB.out]; exact hs.out.2.1, by
            have := hs.out.2.2
            rw [HG.out] at this
            rw [HGB.out]
            exact own_base this (by omega)⟩
          rw [HGB.out] at HF
          have HGB2 := HGB.out
          clear hs HS
          go_wp2_with fail
          go_ret
          rw [HGB2]
          exact ⟨_, rfl, HF.out.2, HF.out.1⟩
end Go.Proofs.YtnceheienlekaaaDoor
/- The reference's extents: Fit, Stat; extents that are the same. -/
namespace Go.Proofs.YtnceheienlekaaaDoor
open Go.RowKit

section
variable (n : Nat) (A : Option Addr) (m c : Nat) (l : List Ext) (w : World) (hl : l.length = m) (hr : RdX tcells 2 w A l) (hc : chkX (n : Int) l = 0)
include hl hr hc
set_option maxRecDepth 100000 in
theorem rfit_any (size : Int) :
    Calls Tryd.prog 35 #[.int .i64 (n : Int), .slice A m c, .int .i64 size] w fun e w' => e = .returned (.int .i64 (refF size (holesX (n : Int) l)).1) ∧ Below w.heap.size w w' := by
  obtain ⟨o0, o1, o2, o3, -⟩ := chkX_ok hc
  have HC := Hidden.mk (rholes_any n A m c l w hl hr hc)
  have HLE : Hidden ((holesX (n : Int) l).length ≤ 201) := ⟨by have := holesX_len (n : Int) l; omega⟩
  generalize holesX (n : Int) l = H at *
  clear hl hr hc o0 o1 o2 o3
  go_enter Tryd.func35, Tryd.ntmps35
  go_wp2_with fail
  refine HC.out.mono ?_
  rintro e w1 ⟨v, rfl, hown, hb1⟩
  obtain ⟨A1, c1, rfl, -, -⟩ := own_split hown
  have HR := Hidden.mk (own_rdX3 (f := tcells) tcells_len rfl hown)
  have HB := Hidden.mk hb1
  generalize hm : H.length = hn at *
  have HM := Hidden.mk hm
  have hle := HLE.out
  clear hown hb1 HC hm
  go_wp2_with fail
  go_loopg [8, 9, 10] hn (fun q av bv iv wr => ∃ k : Nat, k ≤ hn ∧ q = hn - k ∧ iv = .int .i64 (k : Int) ∧ av = .int .i64 (refF size (H.take k)).1 ∧ bv = .int .i64 (refF size (H.take k)).2 ∧ w1 = wr)
  case atStart => exact ⟨0, by omega, rfl, rfl, rfl, rfl, rfl⟩
  case round =>
    obtain ⟨k, hk, rfl, rfl, rfl, rfl, rfl⟩ := hrel
    by_cases hlt : k < hn
    · have hkl : k < H.length := by rw [HM.out]; exact hlt
      obtain ⟨pp, oo, rfl, hcx⟩ := HR.out k hkl
      have x0 := hcx 0 _ rfl
      have x1 := hcx 1 _ rfl
      rw [Nat.add_zero] at x0
      have HS := Hidden.mk (refF_succ size H k hkl)
      generalize H[k] = e at *
      obtain ⟨e1, e2⟩ := e
      obtain ⟨r, hr⟩ : ∃ r, refF size (H.take k) = r := ⟨_, rfl⟩
      rw [hr] at HS
      rw [hr]
      obtain ⟨ra, rb⟩ := r
      dsimp only at x0 x1 HS
      have i0 : (0 : Int) ≤ k := by omega
      have i1 : (k : Int) < hn := by omega
      have s1 : IntKind.i64.wrap ((k : Int) + 1) = (k : Int) + 1 := IntWalk.i64_in _ (by omega)
      clear hcx hr
      by_cases h1 : size ≤ e2
      · have d1 : decide (size ≤ e2) = true := by simpa using h1
        by_cases h2 : ra < 0
        · have d2 : decide (ra < 0) = true := by simpa using h2
          have HN := Hidden.mk (HS.out.trans (if_pos ⟨h1, .inl h2⟩))
          clear h1 h2 HS
          go_wp2_with fail
          go_roundg (hn - (k + 1))
          case measure => omega
          case rel => exact ⟨k + 1, by omega, rfl, by go_num, by rw [HN.out], by rw [HN.out], rfl⟩
        have d2 : decide (ra < 0) = false := by simpa using h2
        by_cases h3 : e2 < rb
        · have d3 : decide (e2 < rb) = true := by simpa using h3
          have HN := Hidden.mk (HS.out.trans (if_pos ⟨h1, .inr h3⟩))
          clear h1 h2 h3 HS
          go_wp2_with fail
          go_roundg (hn - (k + 1))
          case measure => omega
          case rel => exact ⟨k + 1, by omega, rfl, by go_num, by rw [HN.out], by rw [HN.out], rfl⟩
        have d3 : decide (e2 < rb) = false := by simpa using h3
        have HN := Hidden.mk (HS.out.trans (if_neg (fun h => by rcases h.2 with h | h; exact h2 h; exact h3 h)))
        clear h1 h2 h3 HS
        go_wp2_with fail
        go_roundg (hn - (k + 1))
        case measure => omega
        case rel => exact ⟨k + 1, by omega, rfl, by go_num, by rw [HN.out], by rw [HN.out], rfl⟩
      · have d1 : decide (size ≤ e2) = false := by simpa using h1
        have HN := Hidden.mk (HS.out.trans (if_neg (fun h => h1 h.1)))
        clear h1 HS
        go_wp2_with fail
        go_roundg (hn - (k + 1))
        case measure => omega
        case rel => exact ⟨k + 1, by omega, rfl, by go_num, by rw [HN.out], by rw [HN.out], rfl⟩
    · obtain rfl : k = hn := by omega
      have t4 : decide ((k : Int) < k) = false := by simp
      have HT : Hidden (H.take k = H) := ⟨List.take_of_length_le (by rw [HM.out]; exact Nat.le_refl _)⟩
      rw [HT.out]
      go_wp2_with fail
      go_ret
      exact ⟨rfl, HB.out⟩
end
set_option maxRecDepth 100000 in
theorem sameExts_eq (A B : Option Addr) (ca cb : Nat) (L : List Ext) (w : World) (hl : L.length ≤ 1000) (hA : RdX tcells 2 w A L) (hB : RdX tcells 2 w B L) :
    Calls Tryd.prog 39 #[.slice A L.length ca, .slice B L.length cb] w fun e w' => e = .returned (.bool true) ∧ Below w.heap.size w w' := by
  have HA := Hidden.mk hA
  have HB := Hidden.mk hB
  clear hA hB
  go_enter Tryd.func39, Tryd.ntmps39
  go_wp2_with fail
  go_loopg [5] L.length (fun m i wr => ∃ j : Nat, j ≤ L.length ∧ m = L.length - j ∧ i = .int .i64 (j : Int) ∧ Below w.heap.size w wr)
  case atStart => exact ⟨0, by omega, rfl, rfl, Below.refl _ _⟩
  case round =>
    obtain ⟨j, hj, rfl, rfl, hbel⟩ := hrel
    by_cases hlt : j < L.length
    · have hp' := (HA.out.below hbel) j hlt
      obtain ⟨p, off, rfl, hp'⟩ := hp'
      have hq' := (HB.out.below hbel) j hlt
      obtain ⟨q, oq, rfl, hq'⟩ := hq'
      have x0 := hp' 0 _ rfl
      have x1 := hp' 1 _ rfl
      have y0 := hq' 0 _ rfl
      have y1 := hq' 1 _ rfl
      rw [Nat.add_zero] at x0 y0
      generalize L[j].1 = b0 at *
      generalize L[j].2 = b1 at *
      have k0 : (0 : Int) ≤ j := by omega
      have k1 : (j : Int) < L.length := by omega
      have HBL := Hidden.mk hbel
      clear hp' hq' hbel
      go_wp2_with fail
      go_quiet (fail)
      clear x0 x1 y0 y1
      have hbn := below_drewN HBL.out nq
      go_wp2_with fail
      go_roundg (L.length - (j + 1))
      case measure => omega
      case rel => exact ⟨j + 1, by omega, rfl, by go_num, hbn⟩
    · obtain rfl : j = L.length := by omega
      go_wp2_with fail
      go_ret
      exact ⟨rfl, hbel⟩
end Go.Proofs.YtnceheienlekaaaDoor
/- The reference's extents: Stat. -/
namespace Go.Proofs.YtnceheienlekaaaDoor
open Go.RowKit

theorem fiveCells {w : World} {b : Nat} {a0 a1 a2 a3 a4 : Int} {t : TypeId} (h : w.heap[b]? = some (.cells #[.int .i64 a0, .int .i64 a1, .int .i64 a2, .int .i64 a3, .int .i64 a4] t (0, 0))) : w.cell? ⟨b, 0, none⟩ = some (.int .i64 a0) ∧ w.cell? ⟨b, 1, none⟩ = some (.int .i64 a1) ∧ w.cell? ⟨b, 2, none⟩ = some (.int .i64 a2) ∧ w.cell? ⟨b, 3, none⟩ = some (.int .i64 a3) ∧ w.cell? ⟨b, 4, none⟩ = some (.int .i64 a4) ∧ ∀ q, w.frozen? ⟨b, q, none⟩ = false := by
  refine ⟨?_, ?_, ?_, ?_, ?_, fun q => frozen_of_row _ _ q _ _ h⟩ <;> simp [World.cell?, h]
theorem results_one {fn : Func} {p : Tmp} {ty : TypeId} (h : fn.results = #[.cell p ty]) (tmps : Array Value) (P : Program) (w : World) :
    (results fn tmps).run P w = ((asAddr (tmps.getD p undef)).run P w).andThen fun a w₁ => (loadVar ty a).run P w₁ := by
  simp only [results, h]
  simp [Sem.run_bind, Result.andThen]
set_option maxRecDepth 100000 in
theorem rstat_any (n : Nat) (A : Option Addr) (m c : Nat) (l : List Ext) (w : World) (hl : l.length = m) (hr : RdX tcells 2 w A l) (hc : chkX (n : Int) l = 0) :
    Calls Tryd.prog 34 #[.int .i64 (n : Int), .slice A m c] w fun e w' => e = .returned (statX (n : Int) l) ∧ Below w.heap.size w w' := by
  obtain ⟨o0, o1, o2, o3, -⟩ := chkX_ok hc
  have HB0 := Hidden.mk ((Below.refl w.heap.size w).alloc (Nat.le_refl _) (.cells #[.int .i64 0, .int .i64 0, .int .i64 0, .int .i64 0, .int .i64 0] 73))
  have HBK0 := Hidden.mk (heap_alloc_new w (.cells #[.int .i64 0, .int .i64 0, .int .i64 0, .int .i64 0, .int .i64 0] 73))
  have HC : Hidden (∀ W, Below w.heap.size w W → Calls Tryd.prog 33 #[.int .i64 (n : Int), .slice A m c] W fun e w' => ∃ v, e = .returned v ∧ w'.ownsRow W.heap.size 123 2 v (holesX (n : Int) l).length ((holesX (n : Int) l).flatMap tcells) ∧ Below W.heap.size W w') := ⟨fun W hW => rholes_any n A m c l W hl (hr.below hW) hc⟩
  have HLE : Hidden ((holesX (n : Int) l).length ≤ 201) := ⟨by have := holesX_len (n : Int) l; omega⟩
  have HSX : Hidden (statX (n : Int) l = statV m (sumX l) ((n : Int) - sumX l) (mostX (holesX (n : Int) l)) (holesX (n : Int) l).length) := ⟨by unfold statX; rw [if_pos hc, hl]⟩
  have HSU := Hidden.mk (stat_used hc)
  have HOK : Hidden (OkX (holesX (n : Int) l)) := ⟨fun x hx => by have := holes_mem hc x hx; omega⟩
  have HN : Hidden (n ≤ 6400) := ⟨by omega⟩
  rw [HSX.out]
  unfold statV
  generalize holesX (n : Int) l = H at *
  generalize sumX l = su at *
  clear hl hr hc o0 o1 o2 o3 HSX
  go_enter Tryd.func34, Tryd.ntmps34
  go_wp2_with fail
  generalize w.alloc (.cells #[.int .i64 0, .int .i64 0, .int .i64 0, .int .i64 0, .int .i64 0] 73) = w0 at *
  refine (HC.out _ HB0.out).mono ?_
  rintro e w1 ⟨v, rfl, hown, hb1⟩
  obtain ⟨A1, c1, rfl, -, -⟩ := own_split hown
  have HR := Hidden.mk (own_rdX3 (f := tcells) tcells_len rfl hown)
  have hlt : w.heap.size < w0.heap.size := (Array.getElem?_eq_some_iff.1 HBK0.out).1
  have hlt1 : w.heap.size < w1.heap.size := Nat.lt_of_lt_of_le hlt hb1.size
  have HBK1 := Hidden.mk ((hb1.block _ hlt).trans HBK0.out)
  have HB1 := Hidden.mk (HB0.out.trans (hb1.mono HB0.out.size))
  generalize hm : H.length = hn at *
  have HM := Hidden.mk hm
  have hle := HLE.out
  have hal := (Below.refl w1.heap.size w1).alloc (Nat.le_refl _) (.cells #[.int .i64 m, .int .i64 0, .int .i64 0, .int .i64 0, .int .i64 hn] 73)
  have HST : Hidden (Below w1.heap.size w1 (w1.alloc (.cells #[.int .i64 m, .int .i64 0, .int .i64 0, .int .i64 0, .int .i64 hn] 73)) ∧ (w1.alloc (.cells #[.int .i64 m, .int .i64 0, .int .i64 0, .int .i64 0, .int .i64 hn] 73)).heap[w1.heap.size]? = some (.cells #[.int .i64 m, .int .i64 0, .int .i64 0, .int .i64 0, .int .i64 hn] 73 (0, 0))) := ⟨hal, heap_alloc_new w1 _⟩
  clear hown hb1 HC hm hal hlt HB0 HBK0
  go_wp2_with fail
  generalize w1.alloc (.cells #[.int .i64 m, .int .i64 0, .int .i64 0, .int .i64 0, .int .i64 hn] 73) = w2 at *
  generalize hsb : w1.heap.size = sb at *
  have HSB := Hidden.mk hsb
  clear hsb
  go_loopg [7] hn (fun q iv wr => ∃ (k : Nat) (fr mo : Int), k ≤ hn ∧ q = hn - k ∧ iv = .int .i64 (k : Int) ∧ 0 ≤ fr ∧ fr ≤ 6400 * k ∧ 0 ≤ mo ∧ Hidden (sumX (H.take k) = fr ∧ mostX (H.take k) = mo ∧ Below sb w1 wr ∧ wr.heap[sb]? = some (.cells #[.int .i64 m, .int .i64 0, .int .i64 fr, .int .i64 mo, .int .i64 hn] 73 (0, 0))))
  case atStart => exact ⟨0, 0, 0, by omega, rfl, rfl, by omega, by omega, by omega, ⟨rfl, rfl, HST.out.1, HST.out.2⟩⟩
  case round =>
    obtain ⟨k, fr, mo, hk, rfl, rfl, hf0, hf1, hm0, hst⟩ := hrel
    by_cases hlt : k < hn
    · have hkl : k < H.length := by rw [HM.out]; exact hlt
      obtain ⟨pp, oo, rfl, hcx⟩ := HR.out k hkl
      have x1 := hcx 1 _ rfl
      have HS1 := Hidden.mk (sumX_succ H k hkl)
      have HS2 := Hidden.mk (mostX_succ H k hkl)
      have hok := HOK.out H[k] (List.getElem_mem hkl)
      generalize H[k] = e at *
      obtain ⟨e1, e2⟩ := e
      dsimp only at x1 HS1 HS2 hok
      have hn64 := HN.out
      have i0 : (0 : Int) ≤ k := by omega
      have i1 : (k : Int) < hn := by omega
      have s1 : IntKind.i64.wrap ((k : Int) + 1) = (k : Int) + 1 := IntWalk.i64_in _ (by omega)
      have s2 : IntKind.i64.wrap (fr + e2) = fr + e2 := IntWalk.i64_in _ (by omega)
      have hx1 : ∀ W, Below sb w1 W → W.cell? ⟨pp, oo + k * 2 + 1, none⟩ = some (.int .i64 e2) := fun W hW => (by
        rw [← HSB.out] at hW
        exact (hW.cell (p := ⟨pp, oo + k * 2 + 1, none⟩) (block_lt_of_cell x1)).trans x1)
      have HX1 := Hidden.mk hx1
      have y1 := hx1 wr hst.out.2.2.1
      obtain ⟨z0, z1, z2, z3, z4, zf⟩ := fiveCells hst.out.2.2.2
      have zf2 := zf 2
      have HBB := Hidden.mk (And.intro hst.out.2.2.1 hst.out.2.2.2)
      have HSF : Hidden (sumX (H.take (k + 1)) = fr + e2) := ⟨by rw [HS1.out, hst.out.1]⟩
      have HSM : Hidden (mostX (H.take (k + 1)) = max mo e2) := ⟨by rw [HS2.out, hst.out.2.1]⟩
      clear hcx x1 hx1 zf hst HST HS1 HS2
      go_upto_region 6 with (fail)
      go_still_tail 9, (by kernel_rfl)
      change wpList _ _ _ _ _ wr.drew
      have HBB' : Hidden (Below sb w1 wr.drew ∧ wr.drew.heap[sb]? = some (.cells #[.int .i64 m, .int .i64 0, .int .i64 fr, .int .i64 mo, .int .i64 hn] 73 (0, 0))) := ⟨HBB.out.1.drew, HBB.out.2⟩
      clear z0 z1 z2 z3 z4 zf2 y1 HBB
      generalize wr.drew = wd at *
      have zf2 := (fiveCells HBB'.out.2).2.2.2.2.2 2
      have z2 := (fiveCells HBB'.out.2).2.2.1
      have HBD : Hidden (Below sb w1 (wd.setCell ⟨sb, 2, none⟩ (.int .i64 (fr + e2))) ∧ (wd.setCell ⟨sb, 2, none⟩ (.int .i64 (fr + e2))).heap[sb]? = some (.cells #[.int .i64 m, .int .i64 0, .int .i64 (fr + e2), .int .i64 mo, .int .i64 hn] 73 (0, 0))) := ⟨HBB'.out.1.setCell (p := ⟨sb, 2, none⟩) (Nat.le_refl _) _, heap_setK (k := 2) HBB'.out.2 _⟩
      go_upto_region 7 with (fail)
      clear z2 zf2 HBB'
      generalize wd.setCell ⟨sb, 2, none⟩ (.int .i64 (fr + e2)) = w5 at *
      have y2 := HX1.out w5 HBD.out.1
      obtain ⟨z0, z1, z2, z3, z4, zf⟩ := fiveCells HBD.out.2
      by_cases hgt : mo < e2
      · have d1 : decide (mo < e2) = true := by simpa using hgt
        have HMX : Hidden (mostX (H.take (k + 1)) = e2) := ⟨by rw [HSM.out, Int.max_eq_right (by omega)]⟩
        clear hgt HSM
        go_quiet (fail)
        have HQ : Hidden (Below sb w1 (w5.drewN nq) ∧ (w5.drewN nq).heap[sb]? = some (.cells #[.int .i64 m, .int .i64 0, .int .i64 (fr + e2), .int .i64 mo, .int .i64 hn] 73 (0, 0))) := ⟨below_drewN HBD.out.1 _, HBD.out.2⟩
        have y3 : (w5.drewN nq).cell? ⟨pp, oo + k * 2 + 1, none⟩ = some (.int .i64 e2) := y2
        clear y2 z0 z1 z2 z3 z4 zf HBD
        generalize w5.drewN nq = w6 at *
        have zf3 := (fiveCells HQ.out.2).2.2.2.2.2 3
        have z3 := (fiveCells HQ.out.2).2.2.2.1
        have HE : Hidden (Below sb w1 (w6.setCell ⟨sb, 3, none⟩ (.int .i64 e2)) ∧ (w6.setCell ⟨sb, 3, none⟩ (.int .i64 e2)).heap[sb]? = some (.cells #[.int .i64 m, .int .i64 0, .int .i64 (fr + e2), .int .i64 e2, .int .i64 hn] 73 (0, 0))) := ⟨HQ.out.1.setCell (p := ⟨sb, 3, none⟩) (Nat.le_refl _) _, heap_setK (k := 3) HQ.out.2 _⟩
        clear HQ
        go_wp2_with fail
        go_roundg (hn - (k + 1))
        case measure => omega
        case rel => exact ⟨k + 1, fr + e2, e2, by omega, rfl, by go_num, by omega, by omega, by omega, ⟨HSF.out, HMX.out, HE.out⟩⟩
      · have d1 : decide (mo < e2) = false := by simpa using hgt
        have HMX : Hidden (mostX (H.take (k + 1)) = mo) := ⟨by rw [HSM.out, Int.max_eq_left (by omega)]⟩
        clear hgt HSM
        go_quiet (fail)
        have HQ : Hidden (Below sb w1 (w5.drewN nq) ∧ (w5.drewN nq).heap[sb]? = some (.cells #[.int .i64 m, .int .i64 0, .int .i64 (fr + e2), .int .i64 mo, .int .i64 hn] 73 (0, 0))) := ⟨below_drewN HBD.out.1 _, HBD.out.2⟩
        clear y2 z0 z1 z2 z3 z4 zf HBD
        generalize w5.drewN nq = w6 at *
        go_wp2_with fail
        go_roundg (hn - (k + 1))
        case measure => omega
        case rel => exact ⟨k + 1, fr + e2, mo, by omega, rfl, by go_num, by omega, by omega, by omega, ⟨HSF.out, HMX.out, HQ.out⟩⟩
    · obtain rfl : k = hn := by omega
      have t4 : decide ((k : Int) < k) = false := by simp
      have hT : H.take k = H := List.take_of_length_le (by rw [HM.out]; exact Nat.le_refl _)
      have h1 := hst.out.1
      have h2 := hst.out.2.1
      rw [hT] at h1 h2
      have hb := hst.out.2.2.1
      have hrk := (hb.block w.heap.size hlt1).trans HBK1.out
      have s1 : IntKind.i64.wrap ((n : Int) - fr) = (n : Int) - fr := IntWalk.i64_in _ (by have := HN.out; omega)
      have hset := heap_setK (k := 1) hst.out.2.2.2 (.int .i64 ((n : Int) - fr))
      have hrs := (Below.heap_setCell wr ⟨sb, 1, none⟩ (.int .i64 ((n : Int) - fr)) w.heap.size (by dsimp only; omega)).trans hrk
      obtain ⟨y0, y1, y2, y3, y4, yf⟩ := fiveCells hst.out.2.2.2
      have yf1 := yf 1
      have hbw := HB1.out.trans (hb.mono (Nat.le_of_lt hlt1))
      have HB2 : Hidden (Below w.heap.size w (wr.setCell ⟨sb, 1, none⟩ (.int .i64 ((n : Int) - fr)))) := ⟨hbw.setCell (p := ⟨sb, 1, none⟩) (by dsimp only; omega) _⟩
      have HF : Hidden (((n : Int) - fr) = su ∧ fr = (n : Int) - su ∧ mostX H = mo ∧ (H.length : Int) = k) := ⟨by rw [← h1]; exact HSU.out.1, by rw [← h1]; exact HSU.out.2.symm, h2, by rw [HM.out]⟩
      have HST2 := Hidden.mk (And.intro hset hrs)
      clear hset hrs hbw hb hrk h1 h2 hT HST hst
      go_upto_region 10 with (fail)
      clear y0 y1 y2 y3 y4 yf yf1
      generalize wr.setCell ⟨sb, 1, none⟩ (.int .i64 ((n : Int) - fr)) = w7 at *
      obtain ⟨z0, z1, z2, z3, z4, -⟩ := fiveCells (show w7.heap[sb]? = some (.cells #[.int .i64 m, .int .i64 ((n : Int) - fr), .int .i64 fr, .int .i64 mo, .int .i64 k] 73 (0, 0)) from HST2.out.1)
      obtain ⟨r0, r1, r2, r3, r4, y0⟩ := fiveCells HST2.out.2
      clear HST2
      go_wp2_with fail
      refine bodyPost_ret (v := .agg #[.int .i64 m, .int .i64 ((n : Int) - fr), .int .i64 fr, .int .i64 mo, .int .i64 k]) ?_ rfl ?_
      · rw [results_one rfl]
        go_simp
      · exact ⟨by rw [HF.out.1, ← HF.out.2.1, HF.out.2.2.1, HF.out.2.2.2], ((((HB2.out.setCell (p := ⟨w.heap.size, 0, none⟩) (Nat.le_refl _) _).setCell (p := ⟨w.heap.size, 1, none⟩) (Nat.le_refl _) _).setCell (p := ⟨w.heap.size, 2, none⟩) (Nat.le_refl _) _).setCell (p := ⟨w.heap.size, 3, none⟩) (Nat.le_refl _) _).setCell (p := ⟨w.heap.size, 4, none⟩) (Nat.le_refl _) _⟩
end Go.Proofs.YtnceheienlekaaaDoor
/- The contracts of errors.As at a target that points to an api.Errno, of plain.Told and of vaultsame.Error. After the guide's worked example on errors.As at a concrete target. -/
namespace Go.Proofs.YtnceheienlekaaaDoor
open Go.RowKit Go.Extern.Stop Go.Stop Go.Extern

/-- errors.As(nil, target) -/
theorem as_nil (t : Value) (w : World) :
    Calls Tryd.prog 71 #[.nilIface, t] w fun e w' => e = .returned (.bool false) ∧ w' = w := by
  go_enter Tryd.func71, Tryd.ntmps71
  go_wp2
  go_ret
  exact ⟨rfl, rfl⟩

theorem rl_valueOfP (t : Addr) (w : World) : (ReflectliteValue.unpack (.iface 130 (.pointer (some t)))).run Tryd.prog w
    = .ok (.agg #[.pointer (some ⟨1, 130, none⟩), .pointer (some ⟨w.heap.size, 0, none⟩), .int .u64 150]) (w.alloc (.cells #[.pointer (some t)] 130)) := by kernel_rfl
theorem rl_typeP (a : Addr) (w : World) : (ReflectliteValue.methodAny (ReflectliteValue.valueError "reflectlite.Value.Type" 0) (fun t _ _ _ => ReflectliteType.toType t) #[.agg #[.pointer (some ⟨1, 130, none⟩), .pointer (some a), .int .u64 150]]).run Tryd.prog w
    = .ok (.iface 157 (.agg #[.pointer (some ⟨1, 130, none⟩)])) w := by kernel_rfl
theorem rl_kindP (w : World) : ((ReflectliteType.abiMethod fun t => (fun a : Nat => Value.int IntKind.u8 (a : Int)) <$> Rtype.kind t) #[.pointer (some ⟨1, 130, none⟩)]).run Tryd.prog w = .ok (.int .u8 22) w := by kernel_rfl
theorem rl_kindE (w : World) : ((ReflectliteType.abiMethod fun t => (fun a : Nat => Value.int IntKind.u8 (a : Int)) <$> Rtype.kind t) #[.pointer (some ⟨1, 85, none⟩)]).run Tryd.prog w = .ok (.int .u8 2) w := by kernel_rfl
theorem rl_m (z : Sem Value) (f : TypeId → Addr → Nat → Nat → Sem Value) (v : Value) :
    ReflectliteValue.method z f #[v] = (do match ← ReflectliteValue.parts v with | none => z | some (t, a, fl) => f t a fl (fl % 32)) := rfl
theorem rl_partsP (a : Addr) (w : World) : (ReflectliteValue.parts (.agg #[.pointer (some ⟨1, 130, none⟩), .pointer (some a), .int .u64 150])).run Tryd.prog w = .ok (some (130, a, 150)) w := by kernel_rfl
theorem rl_isNilP (a p : Addr) (W : World) (ha : W.cell? a = some (.pointer (some p))) :
    (ReflectliteValue.method (ReflectliteValue.valueError "reflectlite.Value.IsNil" 0) ReflectliteValue.isNil #[.agg #[.pointer (some ⟨1, 130, none⟩), .pointer (some a), .int .u64 150]]).run Tryd.prog W = .ok (.bool false) W := by
  rw [rl_m]
  simp only [Sem.run_bind, rl_partsP, Result.andThen]
  simp [ReflectliteValue.isNil, loadVar, isAgg, underlying, Tryd.underlying130, ha, Result.andThen]
theorem rl_elemP (w : World) : (ReflectliteType.method ReflectliteType.elem #[.agg #[.pointer (some ⟨1, 130, none⟩)]]).run Tryd.prog w = .ok (.iface 157 (.agg #[.pointer (some ⟨1, 85, none⟩)])) w := by kernel_rfl
theorem rl_implE (w : World) : (ReflectliteType.relation "Implements" ReflectliteType.implements_ #[.agg #[.pointer (some ⟨1, 85, none⟩)], .iface 157 (.agg #[.pointer (some ⟨1, 27, none⟩)])]).run Tryd.prog w = .ok (.bool true) w := by kernel_rfl
theorem rl_typeOfE (v : Value) (w : World) : (ReflectliteType.typeOf #[.iface 85 v]).run Tryd.prog w = .ok (.iface 157 (.agg #[.pointer (some ⟨1, 85, none⟩)])) w := by kernel_rfl
theorem rl_assignE (w : World) : (ReflectliteType.relation "AssignableTo" ReflectliteType.assignableTo #[.agg #[.pointer (some ⟨1, 85, none⟩)], .iface 157 (.agg #[.pointer (some ⟨1, 85, none⟩)])]).run Tryd.prog w = .ok (.bool true) w := by kernel_rfl
theorem rl_valueOfE (k : Int) (w : World) : (ReflectliteValue.unpack (.iface 85 (.int .i64 k))).run Tryd.prog w
    = .ok (.agg #[.pointer (some ⟨1, 85, none⟩), .pointer (some ⟨w.heap.size, 0, none⟩), .int .u64 130]) (w.alloc (.cells #[.int .i64 k] 85)) := by kernel_rfl
theorem rl_elemOfP (w : World) : (Rtype.elem? 130).run Tryd.prog w = .ok (some 85) w := by kernel_rfl
theorem rl_mkE (p : Addr) (w : World) : (ReflectliteValue.mk 85 p ReflectliteValue.flagAddr).run Tryd.prog w = .ok (.agg #[.pointer (some ⟨1, 85, none⟩), .pointer (some p), .int .u64 386]) w := by kernel_rfl
theorem rl_elemVP (a p : Addr) (W : World) (ha : W.cell? a = some (.pointer (some p))) :
    (ReflectliteValue.method (ReflectliteValue.valueError "reflectlite.Value.Elem" 0) ReflectliteValue.elem #[.agg #[.pointer (some ⟨1, 130, none⟩), .pointer (some a), .int .u64 150]]).run Tryd.prog W
      = .ok (.agg #[.pointer (some ⟨1, 85, none⟩), .pointer (some p), .int .u64 386]) W := by
  rw [rl_m]
  simp only [Sem.run_bind, rl_partsP, Result.andThen]
  simp [ReflectliteValue.elem, loadVar, isAgg, underlying, Tryd.underlying130, ha, Result.andThen, rl_elemOfP, rl_mkE]
theorem rl_s (v x : Value) : ReflectliteValue.set #[v, x] = (do
    let (some (dst, a, fl), some (src, b, _)) := (← ReflectliteValue.parts v, ← ReflectliteValue.parts x)
      | unsupported (.noEntry "extern/(internal/reflectlite.Value).Set.zeroValue")
    if fl / ReflectliteValue.flagAddr % 2 == 0 then unsupported (.noEntry "extern/(internal/reflectlite.Value).Set.unaddressable")
    let val ← loadVar src b
    if ← Rtype.directlyAssignable dst src then storeVar dst a val
    else if ← Rtype.implements dst src then
      if (← Rtype.kind src) == 20 then
        match val with
        | .nilIface => unsupported (.noEntry "extern/reflectlite: a nil value of one interface type handed on as a value of another")
        | _ => storeVar dst a val
      else storeVar dst a (.iface src val)
    else panicString ("reflectlite.Set: value of type " ++ (← Rtype.spelt src) ++ " is not assignable to type " ++ (← Rtype.spelt dst))
    pure (.tuple #[])) := rfl
theorem rl_partsEa (a : Addr) (w : World) : (ReflectliteValue.parts (.agg #[.pointer (some ⟨1, 85, none⟩), .pointer (some a), .int .u64 386])).run Tryd.prog w = .ok (some (85, a, 386)) w := by kernel_rfl
theorem rl_partsE (a : Addr) (w : World) : (ReflectliteValue.parts (.agg #[.pointer (some ⟨1, 85, none⟩), .pointer (some a), .int .u64 130])).run Tryd.prog w = .ok (some (85, a, 130)) w := by kernel_rfl
theorem rl_directE (w : World) : (Rtype.directlyAssignable 85 85).run Tryd.prog w = .ok true w := by kernel_rfl
theorem rl_setE (ta b : Addr) (k : Int) (old : Value) (W : World) (hb : W.cell? b = some (.int .i64 k)) (ht : W.cell? ta = some old) (hf : W.frozen? ta = false) :
    (ReflectliteValue.set #[.agg #[.pointer (some ⟨1, 85, none⟩), .pointer (some ta), .int .u64 386], .agg #[.pointer (some ⟨1, 85, none⟩), .pointer (some b), .int .u64 130]]).run Tryd.prog W
      = .ok (.tuple #[]) (W.setCell ta (.int .i64 k)) := by
  rw [rl_s]
  simp only [Sem.run_bind, rl_partsEa, rl_partsE, Result.andThen]
  simp [ReflectliteValue.flagAddr, loadVar, isAgg, underlying, Tryd.underlying85, hb, Result.andThen, rl_directE, storeVar, Value.cells, storeCells, Addr.add]
  rw [run_store Tryd.prog W ta _ _ (by rfl)]
  simp [ht, hf]

/-- what the row's condition gives: the variable errors.errorType -/
def HasType (w : World) : Prop := w.cell? ⟨0, 0, none⟩ = some (.iface 157 (.agg #[.pointer (some ⟨1, 27, none⟩)]))
theorem HasType.below {B : Nat} {w w' : World} (h : HasType w) (hB : 0 < B) (hb : Below B w w') : HasType w' := (hb.cell (p := ⟨0, 0, none⟩) hB).trans h
theorem HasType.lt {w : World} (h : HasType w) : 0 < w.heap.size := block_lt_of_cell h
end Go.Proofs.YtnceheienlekaaaDoor
/- The contracts of errors.As at a target that points to an api.Errno, of plain.Told and of vaultsame.Error. -/
namespace Go.Proofs.YtnceheienlekaaaDoor
open Go.RowKit Go.Extern.Stop Go.Stop Go.Extern

theorem rl_methKind (n : Nat) (h : Value) (w : World) : (Go.method (n + 1) 157 (.agg #[h]) "Kind").run Tryd.prog w = .ok (138, h) w := by kernel_rfl
theorem rl_methElem (n : Nat) (h : Value) (w : World) : (Go.method (n + 1) 157 (.agg #[h]) "Elem").run Tryd.prog w = .ok (148, .agg #[h]) w := by kernel_rfl
theorem rl_methImpl (n : Nat) (h : Value) (w : World) : (Go.method (n + 1) 157 (.agg #[h]) "Implements").run Tryd.prog w = .ok (149, .agg #[h]) w := by kernel_rfl
theorem rl_methAssign (n : Nat) (h : Value) (w : World) : (Go.method (n + 1) 157 (.agg #[h]) "AssignableTo").run Tryd.prog w = .ok (146, .agg #[h]) w := by kernel_rfl

set_option maxRecDepth 100000 in
set_option maxHeartbeats 4000000 in
theorem as_errno (k : Int) (t : Addr) (old : Value) (w : World) (hg : HasType w) (ht0 : w.cell? t = some old) (hf0 : w.frozen? t = false) :
    Calls Tryd.prog 71 #[.iface 85 (.int .i64 k), .iface 130 (.pointer (some t))] w fun ev w' => ev = .returned (.bool true) ∧ w' = ((((w.alloc (.cells #[.pointer (some t)] 130)).alloc (.cells #[.pointer (some ⟨1, 130, none⟩), .pointer (some ⟨w.heap.size, 0, none⟩), .int .u64 150] 142)).alloc (.cells #[.pointer (some ⟨1, 130, none⟩), .pointer (some ⟨w.heap.size, 0, none⟩), .int .u64 150] 142)).alloc (.cells #[.int .i64 k] 85)).setCell t (.int .i64 k) := by
  have h6 := @run_callFunc_extern Tryd.prog 82 _ (fun args => ReflectliteValue.unpack (args.getD 0 (.tuple #[]))) Tryd.func82 (by kernel_rfl) (by kernel_rfl) (by kernel_rfl) (by kernel_rfl)
  have h7 := @run_callFunc_extern Tryd.prog 83 _ (ReflectliteValue.methodAny (ReflectliteValue.valueError "reflectlite.Value.Type" 0) (fun t _ _ _ => ReflectliteType.toType t)) Tryd.func83 (by kernel_rfl) (by kernel_rfl) (by kernel_rfl) (by kernel_rfl)
  have h8 := @run_callFunc_extern Tryd.prog 84 _ (ReflectliteValue.method (ReflectliteValue.valueError "reflectlite.Value.IsNil" 0) ReflectliteValue.isNil) Tryd.func84 (by kernel_rfl) (by kernel_rfl) (by kernel_rfl) (by kernel_rfl)
  have h27 := @run_callFunc_extern Tryd.prog 138 _ (ReflectliteType.abiMethod fun t => do pure (.int .u8 (← Rtype.kind t))) Tryd.func138 (by kernel_rfl) (by kernel_rfl) (by kernel_rfl) (by kernel_rfl)
  have h37 := @run_callFunc_extern Tryd.prog 148 _ (ReflectliteType.method ReflectliteType.elem) Tryd.func148 (by kernel_rfl) (by kernel_rfl) (by kernel_rfl) (by kernel_rfl)
  have h38 := @run_callFunc_extern Tryd.prog 149 _ (ReflectliteType.relation "Implements" ReflectliteType.implements_) Tryd.func149 (by kernel_rfl) (by kernel_rfl) (by kernel_rfl) (by kernel_rfl)
  have h10 := @run_callFunc_extern Tryd.prog 92 _ ReflectliteType.typeOf Tryd.func92 (by kernel_rfl) (by kernel_rfl) (by kernel_rfl) (by kernel_rfl)
  have h35 := @run_callFunc_extern Tryd.prog 146 _ (ReflectliteType.relation "AssignableTo" ReflectliteType.assignableTo) Tryd.func146 (by kernel_rfl) (by kernel_rfl) (by kernel_rfl) (by kernel_rfl)
  have h11 := @run_callFunc_extern Tryd.prog 93 _ (ReflectliteValue.method (ReflectliteValue.valueError "reflectlite.Value.Elem" 0) ReflectliteValue.elem) Tryd.func93 (by kernel_rfl) (by kernel_rfl) (by kernel_rfl) (by kernel_rfl)
  have h12 := @run_callFunc_extern Tryd.prog 94 _ ReflectliteValue.set Tryd.func94 (by kernel_rfl) (by kernel_rfl) (by kernel_rfl) (by kernel_rfl)
  have tO := rl_typeOfE
  have aE := rl_assignE
  have vE := rl_valueOfE
  have f6 := rl_valueOfP
  have f7 := rl_typeP
  have mK := rl_methKind
  have mE := rl_methElem
  have mI := rl_methImpl
  have mA := rl_methAssign
  have kP := rl_kindP
  have kE := rl_kindE
  have eP := rl_elemP
  have iE := rl_implE
  have n8 := rl_isNilP ⟨w.heap.size, 0, none⟩ t ((w.alloc (.cells #[.pointer (some t)] 130)).alloc (.cells #[.pointer (some ⟨1, 130, none⟩), .pointer (some ⟨w.heap.size, 0, none⟩), .int .u64 150] 142)) (by simp)
  have hlt : 0 < w.heap.size := hg.lt
  unfold HasType at hg
  have hg2 : ((w.alloc (.cells #[.pointer (some t)] 130)).alloc (.cells #[.pointer (some ⟨1, 130, none⟩), .pointer (some ⟨w.heap.size, 0, none⟩), .int .u64 150] 142)).cell? ⟨0, 0, none⟩ = some (.iface 157 (.agg #[.pointer (some ⟨1, 27, none⟩)])) := by
    rw [World.cell?_alloc_lt _ _ ⟨0, 0, none⟩ (by simp), World.cell?_alloc_lt _ _ ⟨0, 0, none⟩ hlt]; exact hg
  have htl : t.block < w.heap.size := by
    rcases Nat.lt_or_ge t.block w.heap.size with h | h
    · exact h
    · simp [World.cell?, Array.getElem?_eq_none h] at ht0
  have el := rl_elemVP ⟨w.heap.size, 0, none⟩ t (((w.alloc (.cells #[.pointer (some t)] 130)).alloc (.cells #[.pointer (some ⟨1, 130, none⟩), .pointer (some ⟨w.heap.size, 0, none⟩), .int .u64 150] 142)).alloc (.cells #[.pointer (some ⟨1, 130, none⟩), .pointer (some ⟨w.heap.size, 0, none⟩), .int .u64 150] 142)) (by rw [World.cell?_alloc_lt _ _ ⟨w.heap.size, 0, none⟩ (by simp; omega)]; simp)
  have st := rl_setE t ⟨w.heap.size + 1 + 1 + 1, 0, none⟩ k old ((((w.alloc (.cells #[.pointer (some t)] 130)).alloc (.cells #[.pointer (some ⟨1, 130, none⟩), .pointer (some ⟨w.heap.size, 0, none⟩), .int .u64 150] 142)).alloc (.cells #[.pointer (some ⟨1, 130, none⟩), .pointer (some ⟨w.heap.size, 0, none⟩), .int .u64 150] 142)).alloc (.cells #[.int .i64 k] 85))
    (by rw [World.cell?_alloc_at _ _ _ _ (by simp)]; rfl)
    (by rw [World.cell?_alloc_lt _ _ t (by simp; omega), World.cell?_alloc_lt _ _ t (by simp; omega), World.cell?_alloc_lt _ _ t (by simp; omega), World.cell?_alloc_lt _ _ t htl]; exact ht0)
    (by rw [World.frozen?_alloc_old _ _ t (by simp; omega), World.frozen?_alloc_old _ _ t (by simp; omega), World.frozen?_alloc_old _ _ t (by simp; omega), World.frozen?_alloc_old _ _ t (Nat.ne_of_lt htl)]; exact hf0)
  go_enter Tryd.func71, Tryd.ntmps71
  go_wp2
  refine wp_loop_rounds 1 ?_
  rw [rounds_succ]
  go_wp2
  go_ret
  exact ⟨rfl, rfl⟩
end Go.Proofs.YtnceheienlekaaaDoor
/- The contracts of plain.Told and of vaultsame.Error. -/
namespace Go.Proofs.YtnceheienlekaaaDoor
open Go.RowKit

theorem told_nil (w : World) : Calls Tryd.prog 48 #[.nilIface] w fun e w' => e = .returned (.int .i64 0) ∧ w = w' := by
  go_enter Tryd.func48, Tryd.ntmps48
  go_wp2_with fail
  go_ret
  exact ⟨rfl, rfl⟩
theorem told_errno (k : Int) (w : World) (hg : HasType w) : Calls Tryd.prog 48 #[.iface 85 (.int .i64 k)] w fun e w' => e = .returned (.int .i64 k) ∧ Below w.heap.size w w' := by
  have hW : Below w.heap.size w (w.alloc (.cells #[.int .i64 0] 85)) := (Below.refl _ _).alloc (Nat.le_refl _) _
  have hg1 := hg.below hg.lt hW
  have HC := Hidden.mk (as_errno k ⟨w.heap.size, 0, none⟩ (.int .i64 0) _ hg1 (by simp) (by simp))
  clear hg1
  go_enter Tryd.func48, Tryd.ntmps48
  go_wp2_with fail
  refine HC.out.mono ?_
  rintro e w' ⟨rfl, hw'⟩
  have hB : Below w.heap.size w w' := by
    rw [hw']
    exact ((((hW.alloc hW.size _).alloc (by simp; omega) _).alloc (by simp; omega) _).alloc (by simp; omega) _).setCell (p := ⟨w.heap.size, 0, none⟩) (Nat.le_refl _) _
  have hc : w'.cell? ⟨w.heap.size, 0, none⟩ = some (.int .i64 k) := by
    rw [hw']
    refine World.cell?_setCell_same' _ _ _ ?_
    rw [(((((Below.refl _ (w.alloc (.cells #[.int .i64 0] 85))).alloc (Nat.le_refl _) _).alloc (by simp) _).alloc (by simp) _).alloc (by simp) _).cell (p := ⟨w.heap.size, 0, none⟩) (by simp)]
    simp
  clear hw' HC hW
  go_wp2_with fail
  go_ret
  exact ⟨rfl, hB⟩
theorem err_nil (x : Int) (w : World) : Calls Tryd.prog 10 #[.nilIface, .int .i64 x] w fun e w' => e = .returned (.bool ((0 : Int) == x)) ∧ Below w.heap.size w w' := by
  go_enter Tryd.func10, Tryd.ntmps10
  go_wp2_with fail
  refine (told_nil _).mono ?_
  rintro e w' ⟨rfl, rfl⟩
  go_wp2_with fail
  go_ret
  exact ⟨rfl, Below.refl _ _⟩
theorem err_some (k x : Int) (w : World) (hg : HasType w) : Calls Tryd.prog 10 #[.iface 85 (.int .i64 k), .int .i64 x] w fun e w' => e = .returned (.bool (k == x)) ∧ Below w.heap.size w w' := by
  go_enter Tryd.func10, Tryd.ntmps10
  go_wp2_with fail
  refine (told_errno k _ hg).mono ?_
  rintro e w' ⟨rfl, hb⟩
  go_wp2_with fail
  go_ret
  exact ⟨rfl, hb⟩
/-- .. of an error that is nil or a number -/
theorem err_any (n : Nat) (x : Int) (w : World) (hg : HasType w) : Calls Tryd.prog 10 #[errV n, .int .i64 x] w fun e w' => e = .returned (.bool ((n : Int) == x)) ∧ Below w.heap.size w w' := by
  unfold errV
  by_cases h : n = 0
  · rw [if_pos h, h]; exact err_nil x w
  · rw [if_neg h]; exact err_some n x w hg
end Go.Proofs.YtnceheienlekaaaDoor
/- What comes in: slices of extents. -/
namespace Go.Proofs.YtnceheienlekaaaDoor
open Go.RowKit Go.ChangeShapes Go.WideShapes Go.ChangeAt

section
variable {H : Type} {enc : TypeId × Value → H} {w : World} {v : Value} {d : DataW H} {ps : List MemPlace} {base : Nat} {r : Reach}
set_option maxRecDepth 20000 in
theorem open_extents (hv : Value.okWide Tryd.prog w r base 69 v) (h : DataW.Trod enc Tryd.prog w 0 (fun _ => true) true 69 v d ps) (hz : (d.weights Tryd.prog 69).all (· ≤ reachBytes) = true) :
    ∃ (A : Option Addr) (c : Nat) (L : List Ext), v = .slice A L.length c ∧ L.length ≤ c ∧ c ≤ 140737488351232 ∧ (∀ x ∈ L, True) ∧ RdX tcells 2 w A L := by
  have hb : decide (1 ≤ Tryd.prog.bytesOf 123) = true := by kernel_rfl
  have hC : Tryd.prog.cellsOf 123 = 2 := by kernel_rfl
  refine open_seq (P := Tryd.prog) tcells 2 (fun _ _ => True) Tryd.underlying69 hC (by omega) (of_decide_eq_true hb) (fun n cs x hl ht hz => ?_) hv h hz
  obtain ⟨v0, v1, y0, y1, m, rfl, t0, t1, z0, z1⟩ := open_two Tryd.underlying123 ⟨rfl, by kernel_rfl⟩ ⟨rfl, by kernel_rfl⟩ hl ht hz
  obtain ⟨a, ha, -, wa⟩ := DataW.trod_int Tryd.underlying3 t0
  obtain ⟨b, hb', -, wb⟩ := DataW.trod_int Tryd.underlying3 t1
  simp only [List.cons.injEq, and_true] at ha hb'
  subst ha hb'
  exact ⟨(a, b), rfl, trivial⟩
end
end Go.Proofs.YtnceheienlekaaaDoor
/- ExtentTells: the walk. -/
namespace Go.Proofs.YtnceheienlekaaaDoor
open Go.RowKit

/-- the five numbers of a Stat -/
theorem statX_five (n : Int) (l : List Ext) : ∃ a0 a1 a2 a3 a4, statX n l = .agg #[.int .i64 a0, .int .i64 a1, .int .i64 a2, .int .i64 a3, .int .i64 a4] ∧ (chkX n l ≠ 0 → a0 = 0 ∧ a1 = 0 ∧ a2 = 0 ∧ a3 = 0 ∧ a4 = 0) := by
  unfold statX statV
  by_cases h : chkX n l = 0
  · rw [if_pos h]; exact ⟨_, _, _, _, _, rfl, fun h' => absurd h h'⟩
  · rw [if_neg h]; exact ⟨_, _, _, _, _, rfl, fun _ => ⟨rfl, rfl, rfl, rfl, rfl⟩⟩
def StB (w : World) (b : Nat) (a0 a1 a2 a3 a4 : Int) : Prop := w.heap[b]? = some (.cells #[.int .i64 a0, .int .i64 a1, .int .i64 a2, .int .i64 a3, .int .i64 a4] 73 (0, 0))
theorem StB.below {w w' : World} {b : Nat} {a0 a1 a2 a3 a4 : Int} (h : StB w b a0 a1 a2 a3 a4) (hb : Below w.heap.size w w') : StB w' b a0 a1 a2 a3 a4 := (hb.block _ (Array.getElem?_eq_some_iff.1 h).1).trans h
set_option maxRecDepth 100000 in
set_option maxHeartbeats 2000000 in
theorem extentTells_walk (n : Int) (A : Option Addr) (m c : Nat) (l : List Ext) (size : Int) (w : World) (hg : HasType w) (hl : l.length = m) (hmc : m ≤ c) (hr : RdX tcells 2 w A l) :
    Calls Tryd.prog 5 #[.int .i64 n, .slice A m c, .int .i64 size] w fun e w' => e = .returned (.bool true) ∧ Below w.heap.size w w' := by
  have HG := Hidden.mk hg
  have HL := Hidden.mk hl
  have HMC := Hidden.mk hmc
  have HR := Hidden.mk hr
  have HE1 := Hidden.mk (rext_any n A m c l w hl hmc hr)
  obtain ⟨a0, a1, a2, a3, a4, hst, hz⟩ := statX_five n l
  have HST := Hidden.mk hst
  have HZ := Hidden.mk hz
  have HERR : Hidden (∀ (k : Nat) (W : World), Below w.heap.size w W → Calls Tryd.prog 10 #[errV k, .int .i64 (k : Int)] W fun e w' => e = .returned (.bool true) ∧ Below W.heap.size W w') := ⟨fun k W hW => by
    have := err_any k (k : Int) W (HG.out.below HG.out.lt hW)
    rw [beq_self_eq_true] at this
    exact this⟩
  clear hg hl hmc hr hst hz
  go_enter Tryd.func5, Tryd.ntmps5
  go_wp2_with fail
  refine HE1.out.mono ?_
  rintro e w1 ⟨rfl, hb1⟩
  have HB := Hidden.mk hb1
  have HC := Hidden.mk (xcheck_any n A m c l w1 HL.out HMC.out (HR.out.below hb1))
  clear hb1 HE1
  go_wp2_with fail
  refine HC.out.mono ?_
  rintro e w2 ⟨rfl, hb2⟩
  have HB := Hidden.mk (HB.out.trans (hb2.mono HB.out.size))
  clear hb2 HC
  go_wp2_with fail
  refine (HERR.out (chkX n l) w2 HB.out).mono ?_
  rintro e w3 ⟨rfl, hb3⟩
  have HB := Hidden.mk (HB.out.trans (hb3.mono HB.out.size))
  have hal := (Below.refl w3.heap.size w3).alloc (Nat.le_refl _) (.cells #[.int .i64 0, .int .i64 0, .int .i64 0, .int .i64 0, .int .i64 0] 73)
  have HS4 : Hidden (StB (w3.alloc (.cells #[.int .i64 0, .int .i64 0, .int .i64 0, .int .i64 0, .int .i64 0] 73)) w3.heap.size 0 0 0 0 0) := ⟨heap_alloc_new w3 _⟩
  have HB4 := Hidden.mk (HB.out.trans (hal.mono HB.out.size))
  have HSB : Hidden (w.heap.size ≤ w3.heap.size) := ⟨HB.out.size⟩
  clear hb3 hal HB
  go_upto_if 31 with (fail)
  generalize w3.alloc (.cells #[.int .i64 0, .int .i64 0, .int .i64 0, .int .i64 0, .int .i64 0] 73) = w4 at *
  generalize w3.heap.size = sb at *
  go_cut [9, 11, 12] (fun hv av fv wx => ∃ (A' : Option Addr) (c' : Nat), hv = .slice A' (freesL n l).length c' ∧ av = .int .i64 (fitA n l size) ∧ fv = .int .i64 (fitE n l size : Int) ∧ Hidden (RdX tcells 2 wx A' (freesL n l) ∧ StB wx sb a0 a1 a2 a3 a4 ∧ Below w.heap.size w wx))
  case first =>
    by_cases h0 : chkX n l = 0
    · have hok := chkX_ok h0
      obtain ⟨nn, rfl⟩ := Int.eq_ofNat_of_zero_le hok.1
      have HFL : Hidden (freesL (nn : Int) l = holesX (nn : Int) l) := ⟨by unfold freesL; rw [if_pos h0]⟩
      have HH := Hidden.mk (rholes_any nn A m c l w4 HL.out (HR.out.below HB4.out) h0)
      have HT : Hidden (∀ W, Below w.heap.size w W → Calls Tryd.prog 34 #[.int .i64 (nn : Int), .slice A m c] W fun e w' => e = .returned (.agg #[.int .i64 a0, .int .i64 a1, .int .i64 a2, .int .i64 a3, .int .i64 a4]) ∧ Below W.heap.size W w') := ⟨fun W hW => by rw [← HST.out]; exact rstat_any nn A m c l W HL.out (HR.out.below hW) h0⟩
      have HF : Hidden (∀ W, Below w.heap.size w W → Calls Tryd.prog 35 #[.int .i64 (nn : Int), .slice A m c, .int .i64 size] W fun e w' => e = .returned (.int .i64 (refF size (holesX (nn : Int) l)).1) ∧ Below W.heap.size W w') := ⟨fun W hW => rfit_any nn A m c l W HL.out (HR.out.below hW) h0 size⟩
      have HFE : Hidden (fitE (nn : Int) l size = if size < 1 ∨ 6400 < size then 1 else if (bestX size (holesX (nn : Int) l)).2 = 0 then 4 else 0) := ⟨by unfold fitE; rw [if_pos h0]⟩
      have HFA : Hidden (fitA (nn : Int) l size = if fitE (nn : Int) l size = 0 then (bestX size (holesX (nn : Int) l)).1 else 0) := ⟨rfl⟩
      have HRF : Hidden (¬ (size < 1 ∨ 6400 < size) → ((refF size (holesX (nn : Int) l)).1 < 0 ∧ fitE (nn : Int) l size = 4 ∧ fitA (nn : Int) l size = 0) ∨ (0 ≤ (refF size (holesX (nn : Int) l)).1 ∧ fitE (nn : Int) l size = 0 ∧ fitA (nn : Int) l size = (refF size (holesX (nn : Int) l)).1)) := ⟨fun h => refF_fit h0 size h⟩
      have e0 : (chkX (nn : Int) l == 0) = true := by simpa using h0
      have e0' : ((chkX (nn : Int) l : Int) == 0) = true := by simp [h0]
      have HC0 := Hidden.mk h0
      generalize (refF size (holesX (nn : Int) l)).1 = rf at *
      generalize (bestX size (holesX (nn : Int) l)).2 = b2 at *
      generalize (bestX size (holesX (nn : Int) l)).1 = b1 at *
      generalize fitA (nn : Int) l size = fa at *
      generalize fitE (nn : Int) l size = fe at *
      generalize holesX (nn : Int) l = H at *
      have hltb : sb < w4.heap.size := (Array.getElem?_eq_some_iff.1 HS4.out).1
      clear h0 hok
      go_wp2_with fail
      refine HH.out.mono ?_
      rintro e w5 ⟨v5, rfl, hown5, hb5⟩
      obtain ⟨A5, c5, rfl, -, -⟩ := own_split hown5
      have HO5 := Hidden.mk hown5
      have HS5 := Hidden.mk (HS4.out.below hb5)
      have HB5 := Hidden.mk (HB4.out.trans (hb5.mono HB4.out.size))
      clear hown5 hb5 HH HS4 HB4
      go_wp2_with fail
      refine (HT.out _ HB5.out).mono ?_
      rintro e w6 ⟨rfl, hb6⟩
      have hown6 := own_below HO5.out hb6
      have HB6 := HB5.out.trans (hb6.mono HB5.out.size)
      have HS6 := HS5.out.below hb6
      obtain ⟨z0, z1, z2, z3, z4, zf⟩ := fiveCells HS6
      have HS7 : Hidden (StB (((((w6.setCell ⟨sb, 0, none⟩ (.int .i64 a0)).setCell ⟨sb, 1, none⟩ (.int .i64 a1)).setCell ⟨sb, 2, none⟩ (.int .i64 a2)).setCell ⟨sb, 3, none⟩ (.int .i64 a3)).setCell ⟨sb, 4, none⟩ (.int .i64 a4)) sb a0 a1 a2 a3 a4 ∧ Below w.heap.size w (((((w6.setCell ⟨sb, 0, none⟩ (.int .i64 a0)).setCell ⟨sb, 1, none⟩ (.int .i64 a1)).setCell ⟨sb, 2, none⟩ (.int .i64 a2)).setCell ⟨sb, 3, none⟩ (.int .i64 a3)).setCell ⟨sb, 4, none⟩ (.int .i64 a4)) ∧ RdX tcells 2 (((((w6.setCell ⟨sb, 0, none⟩ (.int .i64 a0)).setCell ⟨sb, 1, none⟩ (.int .i64 a1)).setCell ⟨sb, 2, none⟩ (.int .i64 a2)).setCell ⟨sb, 3, none⟩ (.int .i64 a3)).setCell ⟨sb, 4, none⟩ (.int .i64 a4)) A5 H) := ⟨heap_setK (k := 4) (heap_setK (k := 3) (heap_setK (k := 2) (heap_setK (k := 1) (heap_setK (k := 0) HS6 (.int .i64 a0)) (.int .i64 a1)) (.int .i64 a2)) (.int .i64 a3)) (.int .i64 a4),
        ((((HB6.setCell (p := ⟨sb, 0, none⟩) HSB.out _).setCell (p := ⟨sb, 1, none⟩) HSB.out _).setCell (p := ⟨sb, 2, none⟩) HSB.out _).setCell (p := ⟨sb, 3, none⟩) HSB.out _).setCell (p := ⟨sb, 4, none⟩) HSB.out _,
        own_rdX3 (f := tcells) tcells_len rfl (ownsRow_setCell_below (ownsRow_setCell_below (ownsRow_setCell_below (ownsRow_setCell_below (ownsRow_setCell_below hown6 (a := ⟨sb, 0, none⟩) hltb _) (a := ⟨sb, 1, none⟩) hltb _) (a := ⟨sb, 2, none⟩) hltb _) (a := ⟨sb, 3, none⟩) hltb _) (a := ⟨sb, 4, none⟩) hltb _)⟩
      clear hown6 HB6 HS6 hb6 HO5 HS5 HB5 HT
      go_upto_region 10 with (fail)
      generalize (((((w6.setCell ⟨sb, 0, none⟩ (.int .i64 a0)).setCell ⟨sb, 1, none⟩ (.int .i64 a1)).setCell ⟨sb, 2, none⟩ (.int .i64 a2)).setCell ⟨sb, 3, none⟩ (.int .i64 a3)).setCell ⟨sb, 4, none⟩ (.int .i64 a4)) = w7 at *
      clear z0 z1 z2 z3 z4 zf
      by_cases q1 : size < 1
      · have d1 : decide (size < 1) = true := by simpa using q1
        have hfe : fe = 1 := by rw [HFE.out, if_pos (.inl q1)]
        have hfa : fa = 0 := by rw [HFA.out, hfe]; rfl
        subst hfe hfa
        clear q1 HFE HFA HRF
        go_wp2_with fail
        go_meet
        exact ⟨A5, c5, by rw [HFL.out], rfl, rfl, ⟨by rw [HFL.out]; exact HS7.out.2.2, HS7.out.1, HS7.out.2.1⟩⟩
      have d1 : decide (size < 1) = false := by simpa using q1
      by_cases q2 : 6400 < size
      · have d2 : decide (6400 < size) = true := by simpa using q2
        have hfe : fe = 1 := by rw [HFE.out, if_pos (.inr q2)]
        have hfa : fa = 0 := by rw [HFA.out, hfe]; rfl
        subst hfe hfa
        clear q1 q2 HFE HFA HRF
        go_wp2_with fail
        go_meet
        exact ⟨A5, c5, by rw [HFL.out], rfl, rfl, ⟨by rw [HFL.out]; exact HS7.out.2.2, HS7.out.1, HS7.out.2.1⟩⟩
      have d2 : decide (6400 < size) = false := by simpa using q2
      have HRF := Hidden.mk (HRF.out (by omega))
      have HF := Hidden.mk (HF.out w7 HS7.out.2.1)
      clear q1 q2 HFE HFA
      go_wp2_with fail
      refine HF.out.mono ?_
      rintro e w8 ⟨rfl, hb8⟩
      have HS8 : Hidden (RdX tcells 2 w8 A5 H ∧ StB w8 sb a0 a1 a2 a3 a4 ∧ Below w.heap.size w w8) := ⟨HS7.out.2.2.below hb8, HS7.out.1.below hb8, HS7.out.2.1.trans (hb8.mono HS7.out.2.1.size)⟩
      clear hb8 HF HS7
      rcases HRF.out with ⟨q3, q4, q5⟩ | ⟨q3, q4, q5⟩
      · have d3 : decide (rf < 0) = true := by simpa using q3
        subst q4 q5
        clear q3 HRF
        go_wp2_with fail
        go_meet
        exact ⟨A5, c5, by rw [HFL.out], rfl, rfl, by rw [HFL.out]; exact HS8⟩
      · have d3 : decide (rf < 0) = false := by simp; omega
        subst q4 q5
        clear q3 HRF
        go_wp2_with fail
        go_meet
        exact ⟨A5, c5, by rw [HFL.out], rfl, by rw [HC0.out], by rw [HFL.out]; exact HS8⟩
    · have HNO : Hidden (freesL n l = [] ∧ fitE n l size = chkX n l ∧ fitA n l size = 0) := ⟨by unfold freesL; rw [if_neg h0], by unfold fitE; rw [if_neg h0], by unfold fitA fitE; rw [if_neg h0, if_neg h0]⟩
      obtain ⟨rfl, rfl, rfl, rfl, rfl⟩ := HZ.out h0
      have e0 : (chkX n l == 0) = false := by simpa using h0
      have e0' : ((chkX n l : Int) == 0) = false := by simp; omega
      clear h0
      go_wp2_with fail
      go_meet
      exact ⟨none, 0, by rw [HNO.out.1]; rfl, by rw [HNO.out.2.2], by rw [HNO.out.2.1], ⟨by rw [HNO.out.1]; exact fun i hi => absurd hi (by simp), HS4.out, HB4.out⟩⟩
  case rest =>
  obtain ⟨A5, c5, rfl, rfl, rfl, h5⟩ := hcut
  have H5 := Hidden.mk h5.out
  clear h5 HS4 HB4 HZ
  have HFR := Hidden.mk (fun (W : World) (hW : Below w.heap.size w W) => xfrees_any n A m c l W HL.out HMC.out (HR.out.below hW))
  have HFT := Hidden.mk (fun (W : World) (hW : Below w.heap.size w W) => xfit_any n A m c l size W HL.out HMC.out (HR.out.below hW))
  have HTT := Hidden.mk (fun (W : World) (hW : Below w.heap.size w W) => xstat_any n A m c l W HL.out HMC.out (HR.out.below hW))
  rw [HST.out] at HTT
  have HFL : Hidden ((freesL n l).length ≤ 1000) := ⟨by
    unfold freesL
    by_cases h : chkX n l = 0
    · rw [if_pos h]; have := holesX_len n l; have := (chkX_ok h).2.2.1; omega
    · rw [if_neg h]; simp⟩
  generalize freesL n l = H at *
  generalize fitA n l size = fa at *
  generalize fitE n l size = fe at *
  generalize chkX n l = ck at *
  go_wp2_with fail
  refine (HFR.out wc H5.out.2.2).mono ?_
  rintro e w6 ⟨v6, rfl, hown6, hb6⟩
  obtain ⟨A6, c6, rfl, -, -⟩ := own_split hown6
  have HX6 := Hidden.mk (own_rdX3 (f := tcells) tcells_len rfl hown6)
  have H6 : Hidden (RdX tcells 2 w6 A5 H ∧ StB w6 sb a0 a1 a2 a3 a4 ∧ Below w.heap.size w w6) := ⟨H5.out.1.below hb6, H5.out.2.1.below hb6, H5.out.2.2.trans (hb6.mono H5.out.2.2.size)⟩
  clear hown6 hb6 HFR H5
  go_wp2_with fail
  refine (HERR.out ck w6 H6.out.2.2).mono ?_
  rintro e w7 ⟨rfl, hb7⟩
  have HX7 := Hidden.mk (HX6.out.below hb7)
  have H7 : Hidden (RdX tcells 2 w7 A5 H ∧ StB w7 sb a0 a1 a2 a3 a4 ∧ Below w.heap.size w w7) := ⟨H6.out.1.below hb7, H6.out.2.1.below hb7, H6.out.2.2.trans (hb7.mono H6.out.2.2.size)⟩
  clear hb7 HX6 H6
  go_wp2_with fail
  refine (HFT.out w7 H7.out.2.2).mono ?_
  rintro e w8 ⟨rfl, hb8⟩
  have HX8 := Hidden.mk (HX7.out.below hb8)
  have H8 : Hidden (RdX tcells 2 w8 A5 H ∧ StB w8 sb a0 a1 a2 a3 a4 ∧ Below w.heap.size w w8) := ⟨H7.out.1.below hb8, H7.out.2.1.below hb8, H7.out.2.2.trans (hb8.mono H7.out.2.2.size)⟩
  clear hb8 HX7 H7 HFT
  go_wp2_with fail
  refine (HERR.out fe w8 H8.out.2.2).mono ?_
  rintro e w9 ⟨rfl, hb9⟩
  have HX9 := Hidden.mk (HX8.out.below hb9)
  have H9 : Hidden (RdX tcells 2 w9 A5 H ∧ StB w9 sb a0 a1 a2 a3 a4 ∧ Below w.heap.size w w9) := ⟨H8.out.1.below hb9, H8.out.2.1.below hb9, H8.out.2.2.trans (hb9.mono H8.out.2.2.size)⟩
  clear hb9 HX8 H8
  go_wp2_with fail
  refine (HTT.out w9 H9.out.2.2).mono ?_
  rintro e w10 ⟨rfl, hb10⟩
  have hal := (Below.refl w10.heap.size w10).alloc (Nat.le_refl _) (.cells #[.int .i64 a0, .int .i64 a1, .int .i64 a2, .int .i64 a3, .int .i64 a4] 73)
  have HX10 := Hidden.mk ((HX9.out.below hb10).below hal)
  have H10 : Hidden (RdX tcells 2 (w10.alloc (.cells #[.int .i64 a0, .int .i64 a1, .int .i64 a2, .int .i64 a3, .int .i64 a4] 73)) A5 H ∧ StB (w10.alloc (.cells #[.int .i64 a0, .int .i64 a1, .int .i64 a2, .int .i64 a3, .int .i64 a4] 73)) sb a0 a1 a2 a3 a4 ∧ Below w.heap.size w (w10.alloc (.cells #[.int .i64 a0, .int .i64 a1, .int .i64 a2, .int .i64 a3, .int .i64 a4] 73))) := ⟨(H9.out.1.below hb10).below hal, (H9.out.2.1.below hb10).below hal, (H9.out.2.2.trans (hb10.mono H9.out.2.2.size)).trans (hal.mono (H9.out.2.2.trans (hb10.mono H9.out.2.2.size)).size)⟩
  have HZ10 : Hidden (StB (w10.alloc (.cells #[.int .i64 a0, .int .i64 a1, .int .i64 a2, .int .i64 a3, .int .i64 a4] 73)) w10.heap.size a0 a1 a2 a3 a4) := ⟨heap_alloc_new w10 _⟩
  clear hb10 hal HX9 H9 HTT
  go_wp2_with fail
  generalize w10.alloc (.cells #[.int .i64 a0, .int .i64 a1, .int .i64 a2, .int .i64 a3, .int .i64 a4] 73) = w11 at *
  generalize w10.heap.size = sx at *
  refine (HERR.out ck w11 H10.out.2.2).mono ?_
  rintro e w12 ⟨rfl, hb12⟩
  have H12 : Hidden (StB w12 sb a0 a1 a2 a3 a4 ∧ StB w12 sx a0 a1 a2 a3 a4 ∧ Below w.heap.size w w12) := ⟨H10.out.2.1.below hb12, HZ10.out.below hb12, H10.out.2.2.trans (hb12.mono H10.out.2.2.size)⟩
  have HSM := Hidden.mk (sameExts_eq A6 A5 c6 c5 H w12 HFL.out (HX10.out.below hb12) (H10.out.1.below hb12))
  clear hb12 HX10 H10 HZ10
  go_wp2_with fail
  refine HSM.out.mono ?_
  rintro e w13 ⟨rfl, hb13⟩
  obtain ⟨x0, x1, x2, x3, x4, -⟩ := fiveCells (H12.out.1.below hb13)
  obtain ⟨y0, y1, y2, y3, y4, -⟩ := fiveCells (H12.out.2.1.below hb13)
  have HF := Hidden.mk (H12.out.2.2.trans (hb13.mono H12.out.2.2.size))
  clear hb13 HSM H12
  go_wp2_with fail
  go_ret
  exact ⟨rfl, HF.out⟩
end Go.Proofs.YtnceheienlekaaaDoor
