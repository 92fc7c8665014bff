/- Contracts and plain laws, put together: Ext4, ExtP, Heap6, HeapP, HeapFull1. -/
import Derived.Test.YthlflklamgdkfaaDoorHeapFullFrameM2
import Derived.Test.YthlflklamgdkfaaDoorHeapFullFrameM3
/- The contract of extent.Stat. -/
namespace Go.Proofs.YthlflklamgdkfaaDoor
open Go.RowKit

def statV (o u f m r : Int) : Value := .agg #[.int .i64 o, .int .i64 u, .int .i64 f, .int .i64 m, .int .i64 r]
def sumX (l : List Ext) : Int := l.foldl (fun s e => s + e.2) 0
def mostX (H : List Ext) : Int := H.foldl (fun s e => max s e.2) 0
theorem sumX_succ (l : List Ext) (k : Nat) (hk : k < l.length) : sumX (l.take (k + 1)) = sumX (l.take k) + l[k].2 := by
  unfold sumX; rw [List.take_succ_eq_append_getElem hk, List.foldl_append]; rfl
theorem mostX_succ (l : List Ext) (k : Nat) (hk : k < l.length) : mostX (l.take (k + 1)) = max (mostX (l.take k)) l[k].2 := by
  unfold mostX; rw [List.take_succ_eq_append_getElem hk, List.foldl_append]; rfl
theorem sumX_bd (l : List Ext) (h : OkX l) : ∀ k, k ≤ l.length → 0 ≤ sumX (l.take k) ∧ sumX (l.take k) ≤ 6400 * k
  | 0, _ => by simp [sumX]
  | k + 1, hk => by
    have ih := sumX_bd l h k (by omega)
    have := h l[k] (List.getElem_mem (by omega))
    rw [sumX_succ l k (by omega)]
    omega
/-- what Stat says -/
def statX (n : Int) (l : List Ext) : Value := if chkX n l = 0 then statV l.length (sumX l) (n - sumX l) (mostX (holesX n l)) (holesX n l).length else statV 0 0 0 0 0
set_option maxRecDepth 100000 in
theorem xstat_any (n : Int) (A : Option Addr) (m c : Nat) (l : List Ext) (w : World) (hl : l.length = m) (hmc : m ≤ c) (hr : RdX tcells 2 w A l) :
    Calls Tryd.prog 30 #[.int .i64 n, .slice A m c] w fun e w' => e = .returned (.tuple #[statX n l, errV (chkX n l)]) ∧ Below w.heap.size w w' := by
  have HC : Hidden (∀ W, Below w.heap.size w W → Calls Tryd.prog 24 #[.int .i64 n, .slice A m c] W fun e w' => e = .returned (errV (chkX n l)) ∧ Below W.heap.size W w') := ⟨fun W hW => xcheck_any n A m c l W hl hmc (hr.below hW)⟩
  have HB0 : Hidden (Below w.heap.size w (w.alloc (.cells #[.int .i64 0, .int .i64 0, .int .i64 0, .int .i64 0, .int .i64 0] 43))) := ⟨(Below.refl _ _).alloc (Nat.le_refl _) _⟩
  have HBK0 : Hidden ((w.alloc (.cells #[.int .i64 0, .int .i64 0, .int .i64 0, .int .i64 0, .int .i64 0] 43)).heap[w.heap.size]? = some (.cells #[.int .i64 0, .int .i64 0, .int .i64 0, .int .i64 0, .int .i64 0] 43 (0, 0))) := ⟨heap_alloc_new w _⟩
  have HSX : Hidden (statX n l = if chkX n l = 0 then statV l.length (sumX l) (n - sumX l) (mostX (holesX n l)) (holesX n l).length else statV 0 0 0 0 0) := ⟨rfl⟩
  by_cases h0 : chkX n l = 0
  · obtain ⟨o0, o1, o2, o3, -⟩ := chkX_ok h0
    have HH : Hidden (∀ W, Below w.heap.size w W → Calls Tryd.prog 97 #[.int .i64 n, .slice A m c] W fun e w' => ∃ v, e = .returned v ∧ w'.ownsRow W.heap.size 135 2 v (holesX n l).length ((holesX n l).flatMap tcells) ∧ Below W.heap.size W w') := ⟨fun W hW => xholes_any n A m c l W o0 o1 hl (by omega) (hr.below hW) o3⟩
    have hHl := holesX_len n l
    rw [h0] at HC
    rw [show errV 0 = Value.nilIface from rfl] at HC
    have hsx := HSX.out
    rw [if_pos h0] at hsx
    rw [hsx, h0, show errV 0 = Value.nilIface from rfl]
    have HR := Hidden.mk hr
    have HO := Hidden.mk o3
    have HL := Hidden.mk hl
    have hm200 : m ≤ 200 := by omega
    generalize holesX n l = H at *
    clear HSX hsx h0 hr o3 hl
    unfold statV
    go_enter Tryd.func30, Tryd.ntmps30
    go_wp2_with fail
    generalize w.alloc (.cells #[.int .i64 0, .int .i64 0, .int .i64 0, .int .i64 0, .int .i64 0] 43) = w0 at *
    refine (HC.out _ HB0.out).mono ?_
    rintro e w1 ⟨rfl, hb1⟩
    have hlt : w.heap.size < w0.heap.size := (Array.getElem?_eq_some_iff.1 HBK0.out).1
    have hal : Below w1.heap.size w1 (w1.alloc (.cells #[.int .i64 m, .int .i64 0, .int .i64 0, .int .i64 0, .int .i64 0] 43)) := (Below.refl _ _).alloc (Nat.le_refl _) _
    have hB1 := HB0.out.trans (hb1.mono HB0.out.size)
    have hlt1 : w.heap.size < w1.heap.size := Nat.lt_of_lt_of_le hlt hb1.size
    have HST : Hidden (Below w.heap.size w (w1.alloc (.cells #[.int .i64 m, .int .i64 0, .int .i64 0, .int .i64 0, .int .i64 0] 43)) ∧ (w1.alloc (.cells #[.int .i64 m, .int .i64 0, .int .i64 0, .int .i64 0, .int .i64 0] 43)).heap[w.heap.size]? = some (.cells #[.int .i64 0, .int .i64 0, .int .i64 0, .int .i64 0, .int .i64 0] 43 (0, 0)) ∧ (w1.alloc (.cells #[.int .i64 m, .int .i64 0, .int .i64 0, .int .i64 0, .int .i64 0] 43)).heap[w1.heap.size]? = some (.cells #[.int .i64 m, .int .i64 0, .int .i64 0, .int .i64 0, .int .i64 0] 43 (0, 0))) :=
      ⟨hB1.trans (hal.mono hB1.size), (hal.block _ hlt1).trans ((hb1.block _ hlt).trans HBK0.out), heap_alloc_new w1 _⟩
    clear hb1 hal hB1 hlt
    go_wp2_with fail
    generalize w1.alloc (.cells #[.int .i64 m, .int .i64 0, .int .i64 0, .int .i64 0, .int .i64 0] 43) = w2 at *
    generalize w1.heap.size = sb at *
    go_loopg [24] m (fun q i wr => ∃ (k : Nat) (u : Int), k ≤ m ∧ q = m - k ∧ i = .int .i64 (k : Int) ∧ 0 ≤ u ∧ u ≤ 6400 * k ∧ Hidden (sumX (l.take k) = u ∧ Below w.heap.size w wr ∧ wr.heap[w.heap.size]? = some (.cells #[.int .i64 0, .int .i64 0, .int .i64 0, .int .i64 0, .int .i64 0] 43 (0, 0)) ∧ wr.heap[sb]? = some (.cells #[.int .i64 m, .int .i64 u, .int .i64 0, .int .i64 0, .int .i64 0] 43 (0, 0))))
    case atStart => exact ⟨0, 0, by omega, rfl, rfl, by omega, by omega, ⟨rfl, HST.out⟩⟩
    case round =>
      obtain ⟨k, u, hk, rfl, rfl, hu0, hu1, hst⟩ := hrel
      by_cases hlt : k < m
      · have hkl : k < l.length := by have := HL.out; omega
        obtain ⟨p, off, rfl, hcx⟩ := (HR.out.below hst.out.2.1) k hkl
        have c0 := hcx 0 _ rfl
        have c1 := hcx 1 _ rfl
        rw [Nat.add_zero] at c0
        have HS := Hidden.mk (sumX_succ l k hkl)
        rw [hst.out.1] at HS
        have hb := HO.out l[k] (List.getElem_mem hkl)
        generalize l[k] = e at *
        obtain ⟨e1, e2⟩ := e
        dsimp only at c0 c1 HS hb
        obtain ⟨b0, b1, b2⟩ := hb
        have hal : Below wr.heap.size wr (wr.alloc (.cells #[.int .i64 e1, .int .i64 e2] 135)) := (Below.refl _ _).alloc (Nat.le_refl _) _
        have HN : Hidden (Below w.heap.size w (wr.alloc (.cells #[.int .i64 e1, .int .i64 e2] 135)) ∧ (wr.alloc (.cells #[.int .i64 e1, .int .i64 e2] 135)).heap[w.heap.size]? = some (.cells #[.int .i64 0, .int .i64 0, .int .i64 0, .int .i64 0, .int .i64 0] 43 (0, 0)) ∧ (wr.alloc (.cells #[.int .i64 e1, .int .i64 e2] 135)).heap[sb]? = some (.cells #[.int .i64 m, .int .i64 u, .int .i64 0, .int .i64 0, .int .i64 0] 43 (0, 0))) :=
          ⟨hst.out.2.1.trans (hal.mono hst.out.2.1.size), (hal.block _ (Array.getElem?_eq_some_iff.1 hst.out.2.2.1).1).trans hst.out.2.2.1, (hal.block _ (Array.getElem?_eq_some_iff.1 hst.out.2.2.2).1).trans hst.out.2.2.2⟩
        have hbk := HN.out.2.2
        have z1 : (wr.alloc (.cells #[.int .i64 e1, .int .i64 e2] 135)).cell? ⟨sb, 1, none⟩ = some (.int .i64 u) := by simp [World.cell?, hbk]
        have hfz : ∀ q, (wr.alloc (.cells #[.int .i64 e1, .int .i64 e2] 135)).frozen? ⟨sb, q, none⟩ = false := fun q => frozen_of_row _ sb q _ _ hbk
        have HNE : Hidden (w.heap.size ≠ sb) := ⟨by omega⟩
        have HN2 : Hidden (Below w.heap.size w ((wr.alloc (.cells #[.int .i64 e1, .int .i64 e2] 135)).setCell ⟨sb, 1, none⟩ (.int .i64 (u + e2))) ∧ ((wr.alloc (.cells #[.int .i64 e1, .int .i64 e2] 135)).setCell ⟨sb, 1, none⟩ (.int .i64 (u + e2))).heap[w.heap.size]? = some (.cells #[.int .i64 0, .int .i64 0, .int .i64 0, .int .i64 0, .int .i64 0] 43 (0, 0)) ∧ ((wr.alloc (.cells #[.int .i64 e1, .int .i64 e2] 135)).setCell ⟨sb, 1, none⟩ (.int .i64 (u + e2))).heap[sb]? = some (.cells #[.int .i64 m, .int .i64 (u + e2), .int .i64 0, .int .i64 0, .int .i64 0] 43 (0, 0))) :=
          ⟨HN.out.1.setCell (p := ⟨sb, 1, none⟩) (by simp; omega) _, (Below.heap_setCell _ _ _ _ HNE.out).trans HN.out.2.1, heap_setK HN.out.2.2 _⟩
        have s1 : IntKind.i64.wrap (u + e2) = u + e2 := IntWalk.i64_in _ (by omega)
        have s3 : IntKind.i64.wrap ((k : Int) + 1) = (k : Int) + 1 := IntWalk.i64_in _ (by omega)
        have hne : wr.heap.size ≠ sb := by have := (Array.getElem?_eq_some_iff.1 hst.out.2.2.2).1; omega
        have k0 : (0 : Int) ≤ k := by omega
        have k1 : (k : Int) < m := by omega
        clear hcx hal hbk HN hst
        go_wp2_with fail
        go_roundg (m - (k + 1))
        case measure => omega
        case rel => exact ⟨k + 1, u + e2, by omega, rfl, by go_num, by omega, by omega, ⟨HS.out, HN2.out⟩⟩
      · obtain rfl : k = m := by omega
        have hsu := hst.out.1
        rw [List.take_of_length_le (by have := HL.out; omega)] at hsu
        have HSU := Hidden.mk hsu
        have hbk := hst.out.2.2.2
        have z1 : wr.cell? ⟨sb, 1, none⟩ = some (.int .i64 u) := by simp [World.cell?, hbk]
        have z2 : wr.cell? ⟨sb, 2, none⟩ = some (.int .i64 0) := by simp [World.cell?, hbk]
        have hfz : ∀ q, wr.frozen? ⟨sb, q, none⟩ = false := fun q => frozen_of_row _ sb q _ _ hbk
        have s1 : IntKind.i64.wrap (n - u) = n - u := IntWalk.i64_in _ (by omega)
        have HNE : Hidden (w.heap.size ≠ sb) := ⟨by omega⟩
        have H2 : Hidden (Below w.heap.size w (wr.setCell ⟨sb, 2, none⟩ (.int .i64 (n - u))) ∧ (wr.setCell ⟨sb, 2, none⟩ (.int .i64 (n - u))).heap[w.heap.size]? = some (.cells #[.int .i64 0, .int .i64 0, .int .i64 0, .int .i64 0, .int .i64 0] 43 (0, 0)) ∧ (wr.setCell ⟨sb, 2, none⟩ (.int .i64 (n - u))).heap[sb]? = some (.cells #[.int .i64 k, .int .i64 u, .int .i64 (n - u), .int .i64 0, .int .i64 0] 43 (0, 0))) :=
          ⟨hst.out.2.1.setCell (p := ⟨sb, 2, none⟩) (by simp; omega) _, (Below.heap_setCell _ _ _ _ HNE.out).trans hst.out.2.2.1, heap_setK hbk _⟩
        clear hsu hbk hst HST
        go_wp2_with fail
        generalize wr.setCell ⟨sb, 2, none⟩ (.int .i64 (n - u)) = w5 at *
        refine (HH.out _ H2.out.1).mono ?_
        rintro e w6 ⟨v, rfl, hown, hb6⟩
        have H6 : Hidden (Below w.heap.size w w6 ∧ w6.heap[w.heap.size]? = some (.cells #[.int .i64 0, .int .i64 0, .int .i64 0, .int .i64 0, .int .i64 0] 43 (0, 0)) ∧ w6.heap[sb]? = some (.cells #[.int .i64 k, .int .i64 u, .int .i64 (n - u), .int .i64 0, .int .i64 0] 43 (0, 0)) ∧ w6.ownsRow w5.heap.size 135 2 v H.length (H.flatMap tcells) ∧ sb < w5.heap.size ∧ w.heap.size < w5.heap.size) :=
          ⟨H2.out.1.trans (hb6.mono H2.out.1.size), (hb6.block _ (Array.getElem?_eq_some_iff.1 H2.out.2.1).1).trans H2.out.2.1, (hb6.block _ (Array.getElem?_eq_some_iff.1 H2.out.2.2).1).trans H2.out.2.2, hown, (Array.getElem?_eq_some_iff.1 H2.out.2.2).1, (Array.getElem?_eq_some_iff.1 H2.out.2.1).1⟩
        obtain ⟨A3, c3, rfl, hc3, -⟩ := own_split hown
        clear hown hb6 H2 HH HC z1 z2 hfz HR
        generalize hhl : H.length = hl at *
        have HHL := Hidden.mk hhl
        clear hhl
        go_wp2_with fail
        go_loopg [44] hl (fun q i wr => ∃ (j : Nat) (x : Int), j ≤ hl ∧ q = hl - j ∧ i = .int .i64 (j : Int) ∧ Hidden (mostX (H.take j) = x ∧ Below w.heap.size w wr ∧ wr.heap[w.heap.size]? = some (.cells #[.int .i64 0, .int .i64 0, .int .i64 0, .int .i64 0, .int .i64 0] 43 (0, 0)) ∧ wr.heap[sb]? = some (.cells #[.int .i64 k, .int .i64 u, .int .i64 (n - u), .int .i64 x, .int .i64 j] 43 (0, 0)) ∧ wr.ownsRow w5.heap.size 135 2 (.slice A3 hl c3) hl (H.flatMap tcells)))
        case atStart => exact ⟨0, 0, by omega, rfl, rfl, ⟨rfl, H6.out.1, H6.out.2.1, H6.out.2.2.1, H6.out.2.2.2.1⟩⟩
        case round =>
          obtain ⟨j, x, hj, rfl, rfl, hst⟩ := hrel
          by_cases hlt2 : j < hl
          · have hjH : j < H.length := by have := HHL.out; omega
            obtain ⟨g, off, rfl, hgb, hgl, hcx⟩ := own_at tcells_len hst.out.2.2.2.2 j hjH (by omega)
            have c0 := hcx 0 _ rfl
            have c1 := hcx 1 _ rfl
            simp only [Nat.add_zero] at c0
            have HS := Hidden.mk (mostX_succ H j hjH)
            rw [hst.out.1] at HS
            generalize H[j] = e at *
            obtain ⟨e1, e2⟩ := e
            dsimp only at c0 c1 HS
            have hal : Below wr.heap.size wr (wr.alloc (.cells #[.int .i64 e1, .int .i64 e2] 135)) := (Below.refl _ _).alloc (Nat.le_refl _) _
            have hsbl := (Array.getElem?_eq_some_iff.1 hst.out.2.2.2.1).1
            have hbk := (hal.block _ hsbl).trans hst.out.2.2.2.1
            have HWE : Hidden ((wr.alloc (.cells #[.int .i64 e1, .int .i64 e2] 135)).heap[w.heap.size]? = some (.cells #[.int .i64 0, .int .i64 0, .int .i64 0, .int .i64 0, .int .i64 0] 43 (0, 0)) ∧ Below w.heap.size w (wr.alloc (.cells #[.int .i64 e1, .int .i64 e2] 135)) ∧ (wr.alloc (.cells #[.int .i64 e1, .int .i64 e2] 135)).ownsRow w5.heap.size 135 2 (.slice (some ⟨g, off, none⟩) hl c3) hl (H.flatMap tcells)) := ⟨(hal.block _ (Array.getElem?_eq_some_iff.1 hst.out.2.2.1).1).trans hst.out.2.2.1, hst.out.2.1.trans (hal.mono hst.out.2.1.size), own_below hst.out.2.2.2.2 hal⟩
            have z3 : (wr.alloc (.cells #[.int .i64 e1, .int .i64 e2] 135)).cell? ⟨sb, 3, none⟩ = some (.int .i64 x) := by simp [World.cell?, hbk]
            have z4 : (wr.alloc (.cells #[.int .i64 e1, .int .i64 e2] 135)).cell? ⟨sb, 4, none⟩ = some (.int .i64 (j : Int)) := by simp [World.cell?, hbk]
            have hfz : ∀ q, (wr.alloc (.cells #[.int .i64 e1, .int .i64 e2] 135)).frozen? ⟨sb, q, none⟩ = false := fun q => frozen_of_row _ sb q _ _ hbk
            have s3 : IntKind.i64.wrap ((j : Int) + 1) = (j : Int) + 1 := IntWalk.i64_in _ (by omega)
            have HBK := Hidden.mk hbk
            have hne : wr.heap.size ≠ sb := by omega
            have k0 : (0 : Int) ≤ j := by omega
            have k1 : (j : Int) < hl := by omega
            have HSB : Hidden (w.heap.size ≤ sb ∧ sb < w5.heap.size) := ⟨by omega, H6.out.2.2.2.2.1⟩
            clear hcx hal hbk hst H6 hsbl
            have HN3 : Hidden ((((wr.alloc (.cells #[.int .i64 e1, .int .i64 e2] 135)).setCell ⟨sb, 3, none⟩ (.int .i64 (max x e2))).heap[sb]? = some (.cells #[.int .i64 k, .int .i64 u, .int .i64 (n - u), .int .i64 (max x e2), .int .i64 j] 43 (0, 0)))) := ⟨heap_setK HBK.out _⟩
            have z4' : ((wr.alloc (.cells #[.int .i64 e1, .int .i64 e2] 135)).setCell ⟨sb, 3, none⟩ (.int .i64 (max x e2))).cell? ⟨sb, 4, none⟩ = some (.int .i64 (j : Int)) := by simp only [World.cell?, HN3.out]; rfl
            have HN4 : Hidden (Below w.heap.size w (((wr.alloc (.cells #[.int .i64 e1, .int .i64 e2] 135)).setCell ⟨sb, 3, none⟩ (.int .i64 (max x e2))).setCell ⟨sb, 4, none⟩ (.int .i64 ((j : Int) + 1))) ∧ (((wr.alloc (.cells #[.int .i64 e1, .int .i64 e2] 135)).setCell ⟨sb, 3, none⟩ (.int .i64 (max x e2))).setCell ⟨sb, 4, none⟩ (.int .i64 ((j : Int) + 1))).heap[w.heap.size]? = some (.cells #[.int .i64 0, .int .i64 0, .int .i64 0, .int .i64 0, .int .i64 0] 43 (0, 0)) ∧ (((wr.alloc (.cells #[.int .i64 e1, .int .i64 e2] 135)).setCell ⟨sb, 3, none⟩ (.int .i64 (max x e2))).setCell ⟨sb, 4, none⟩ (.int .i64 ((j : Int) + 1))).heap[sb]? = some (.cells #[.int .i64 k, .int .i64 u, .int .i64 (n - u), .int .i64 (max x e2), .int .i64 ((j : Int) + 1)] 43 (0, 0)) ∧ (((wr.alloc (.cells #[.int .i64 e1, .int .i64 e2] 135)).setCell ⟨sb, 3, none⟩ (.int .i64 (max x e2))).setCell ⟨sb, 4, none⟩ (.int .i64 ((j : Int) + 1))).ownsRow w5.heap.size 135 2 (.slice (some ⟨g, off, none⟩) hl c3) hl (H.flatMap tcells)) :=
              ⟨(HWE.out.2.1.setCell (p := ⟨sb, 3, none⟩) HSB.out.1 _).setCell (p := ⟨sb, 4, none⟩) HSB.out.1 _, (Below.heap_setCell _ _ _ _ HNE.out).trans ((Below.heap_setCell _ _ _ _ HNE.out).trans HWE.out.1), heap_setK HN3.out _,
                ownsRow_block HWE.out.2.2 fun q hq => (Below.heap_setCell _ _ _ _ (fun e => by have := (HWE.out.2.2.lt q hq).1; have := HSB.out.2; simp at e; omega)).trans (Below.heap_setCell _ _ _ _ (fun e => by have := (HWE.out.2.2.lt q hq).1; have := HSB.out.2; simp at e; omega))⟩
            clear HN3 HWE HBK
            go_wp2_with fail
            go_roundg (hl - (j + 1))
            case measure => omega
            case rel => exact ⟨j + 1, max x e2, by omega, rfl, by go_num, ⟨HS.out, HN4.out.1, HN4.out.2.1, HN4.out.2.2.1, HN4.out.2.2.2⟩⟩
          · obtain rfl : j = hl := by omega
            have hmx := hst.out.1
            rw [List.take_of_length_le (by have := HHL.out; omega)] at hmx
            have HMX := Hidden.mk hmx
            have hbk := hst.out.2.2.2.1
            have hrk := hst.out.2.2.1
            have y0 : ∀ q, wr.frozen? ⟨w.heap.size, q, none⟩ = false := fun q => frozen_of_row _ _ q _ _ hrk
            have z0 : wr.cell? ⟨sb, 0, none⟩ = some (.int .i64 k) := by simp [World.cell?, hbk]
            have z1 : wr.cell? ⟨sb, 1, none⟩ = some (.int .i64 u) := by simp [World.cell?, hbk]
            have z2 : wr.cell? ⟨sb, 2, none⟩ = some (.int .i64 (n - u)) := by simp [World.cell?, hbk]
            have z3 : wr.cell? ⟨sb, 3, none⟩ = some (.int .i64 x) := by simp [World.cell?, hbk]
            have z4 : wr.cell? ⟨sb, 4, none⟩ = some (.int .i64 (j : Int)) := by simp [World.cell?, hbk]
            have r0 : wr.cell? ⟨w.heap.size, 0, none⟩ = some (.int .i64 0) := by simp [World.cell?, hrk]
            have r1 : wr.cell? ⟨w.heap.size, 1, none⟩ = some (.int .i64 0) := by simp [World.cell?, hrk]
            have r2 : wr.cell? ⟨w.heap.size, 2, none⟩ = some (.int .i64 0) := by simp [World.cell?, hrk]
            have r3 : wr.cell? ⟨w.heap.size, 3, none⟩ = some (.int .i64 0) := by simp [World.cell?, hrk]
            have r4 : wr.cell? ⟨w.heap.size, 4, none⟩ = some (.int .i64 0) := by simp [World.cell?, hrk]
            have HB := Hidden.mk hst.out.2.1
            have HF : Hidden ((l.length : Int) = k ∧ sumX l = u ∧ mostX H = x ∧ (H.length : Int) = j) := ⟨by rw [HL.out], HSU.out, HMX.out, by rw [HHL.out]⟩
            clear hmx hbk hrk hst H6
            go_wp2_with fail
            refine bodyPost_ret (v := .tuple #[.agg #[.int .i64 k, .int .i64 u, .int .i64 (n - u), .int .i64 x, .int .i64 (j : Int)], .nilIface]) ?_ rfl ?_
            · rw [results_cell_tmp rfl]
              go_simp
            · refine ⟨by rw [HF.out.1, HF.out.2.1, HF.out.2.2.1, HF.out.2.2.2], ((((HB.out.setCell (p := ⟨w.heap.size, 0, none⟩) (Nat.le_refl _) _).setCell (p := ⟨w.heap.size, 1, none⟩) (Nat.le_refl _) _).setCell (p := ⟨w.heap.size, 2, none⟩) (Nat.le_refl _) _).setCell (p := ⟨w.heap.size, 3, none⟩) (Nat.le_refl _) _).setCell (p := ⟨w.heap.size, 4, none⟩) (Nat.le_refl _) _⟩
  · have hsx := HSX.out
    rw [if_neg h0] at hsx
    rw [hsx]
    have hev : errV (chkX n l) = .iface 149 (.int .i64 (chkX n l)) := by unfold errV; rw [if_neg h0]
    rw [hev] at HC ⊢
    unfold statV
    generalize chkX n l = q at *
    clear h0 hev HSX hsx hr hl
    go_enter Tryd.func30, Tryd.ntmps30
    go_wp2_with fail
    generalize w.alloc (.cells #[.int .i64 0, .int .i64 0, .int .i64 0, .int .i64 0, .int .i64 0] 43) = w0 at *
    refine (HC.out _ HB0.out).mono ?_
    rintro e w1 ⟨rfl, hb1⟩
    have hlt : w.heap.size < w0.heap.size := (Array.getElem?_eq_some_iff.1 HBK0.out).1
    have hbk := (hb1.block _ hlt).trans HBK0.out
    have HB1 := Hidden.mk (HB0.out.trans (hb1.mono HB0.out.size))
    have y0 : ∀ q, w1.frozen? ⟨w.heap.size, q, none⟩ = false := fun q => frozen_of_row _ _ q _ _ hbk
    have z0 : w1.cell? ⟨w.heap.size, 0, none⟩ = some (.int .i64 0) := by simp [World.cell?, hbk]
    have z1 : w1.cell? ⟨w.heap.size, 1, none⟩ = some (.int .i64 0) := by simp [World.cell?, hbk]
    have z2 : w1.cell? ⟨w.heap.size, 2, none⟩ = some (.int .i64 0) := by simp [World.cell?, hbk]
    have z3 : w1.cell? ⟨w.heap.size, 3, none⟩ = some (.int .i64 0) := by simp [World.cell?, hbk]
    have z4 : w1.cell? ⟨w.heap.size, 4, none⟩ = some (.int .i64 0) := by simp [World.cell?, hbk]
    clear hb1 hlt hbk
    go_wp2_with fail
    refine bodyPost_ret (v := .tuple #[.agg #[.int .i64 0, .int .i64 0, .int .i64 0, .int .i64 0, .int .i64 0], .iface 149 (.int .i64 q)]) ?_ rfl ?_
    · rw [results_cell_tmp rfl]
      go_simp
    · exact ⟨rfl, ((((HB1.out.setCell (p := ⟨w.heap.size, 0, none⟩) (Nat.le_refl _) _).setCell (p := ⟨w.heap.size, 1, none⟩) (Nat.le_refl _) _).setCell (p := ⟨w.heap.size, 2, none⟩) (Nat.le_refl _) _).setCell (p := ⟨w.heap.size, 3, none⟩) (Nat.le_refl _) _).setCell (p := ⟨w.heap.size, 4, none⟩) (Nat.le_refl _) _⟩
end Go.Proofs.YthlflklamgdkfaaDoor
/- Extents, the plain law: what is free between extents that are right. No walk here. -/
namespace Go.Proofs.YthlflklamgdkfaaDoor
open Go.RowKit

/-- behind each other, from a to n -/
def Tidy : Int → List Ext → Int → Prop
  | a, [], n => a ≤ n
  | a, e :: r, n => a ≤ e.1 ∧ 1 ≤ e.2 ∧ Tidy (e.1 + e.2) r n
theorem hitX_symm (e o : Ext) : hitX e o = hitX o e := by unfold hitX; rw [Bool.and_comm]
theorem chkX_pair {n : Int} {l : List Ext} (h : chkX n l = 0) : l.Pairwise (fun a b => hitX a b = false) := by
  obtain ⟨_, _, _, _, h5⟩ := chkX_ok h
  rw [List.pairwise_iff_getElem]
  intro i j hi hj hij
  have h2 := (h5 j hj).2
  rw [List.any_eq_false] at h2
  have hm : l[i] ∈ l.take j := by
    rw [List.mem_take_iff_getElem]
    exact ⟨i, by omega, rfl⟩
  have := h2 _ hm
  rw [hitX_symm]
  simpa using this
theorem loopX_of (n : Int) (l : List Ext) : ∀ k, k ≤ l.length → (∀ j (hj : j < l.length), j < k → badX n l[j] = false ∧ (l.take j).any (hitX l[j]) = false) → loopX n l k = 0
  | 0, _, _ => rfl
  | k + 1, hk, h => by
    have h0 := loopX_of n l k (by omega) (fun j hj hjk => h j hj (by omega))
    obtain ⟨h1, h2⟩ := h k (by omega) (by omega)
    rw [loopX, if_pos h0]
    have hg : l.getD k (0, 0) = l[k] := by simp [show k < l.length by omega]
    rw [hg]
    unfold faultX
    rw [h1, h2]; rfl
theorem chkX_of {n : Int} {l : List Ext} (h0 : 0 ≤ n) (h1 : n ≤ 6400) (h2 : l.length ≤ 200) (hb : ∀ e ∈ l, badX n e = false) (hp : l.Pairwise (fun a b => hitX a b = false)) : chkX n l = 0 := by
  unfold chkX
  rw [if_neg (by omega), if_neg (by omega)]
  refine loopX_of n l _ (Nat.le_refl _) fun j hj _ => ⟨hb _ (List.getElem_mem hj), ?_⟩
  rw [List.any_eq_false]
  intro x hx
  rw [List.mem_take_iff_getElem] at hx
  obtain ⟨i, hi, rfl⟩ := hx
  rw [List.pairwise_iff_getElem] at hp
  have := hp i j (by omega) hj (by omega)
  rw [hitX_symm]
  simpa using this
theorem badX_of {n : Int} {e : Ext} (h : 1 ≤ e.2 ∧ 0 ≤ e.1 ∧ e.1 + e.2 ≤ n) : badX n e = false := by
  unfold badX
  simp only [Bool.or_eq_false_iff, decide_eq_false_iff_not]
  omega
theorem hitX_false {e o : Ext} : hitX e o = false ↔ (o.1 + o.2 ≤ e.1 ∨ e.1 + e.2 ≤ o.1) := by
  unfold hitX
  simp only [Bool.and_eq_false_iff, decide_eq_false_iff_not]
  omega
theorem tidy_mk (n : Int) : ∀ (S : List Ext) (a : Int), (∀ e ∈ S, a ≤ e.1 ∧ 1 ≤ e.2 ∧ e.1 + e.2 ≤ n) → S.Pairwise (fun x y => x.1 + x.2 ≤ y.1) → a ≤ n → Tidy a S n
  | [], _, _, _, h => h
  | e :: r, a, hb, hp, _ => by
    obtain ⟨h1, h2, h3⟩ := hb e (List.mem_cons_self ..)
    rw [List.pairwise_cons] at hp
    exact ⟨h1, h2, tidy_mk n r _ (fun x hx => by have := hb x (List.mem_cons_of_mem _ hx); have := hp.1 x hx; omega) hp.2 (by omega)⟩
theorem tidy_of {n : Int} {l : List Ext} (h : chkX n l = 0) : Tidy 0 (sortE l) n := by
  obtain ⟨h0, h1, h2, _, h5⟩ := chkX_ok h
  have hbad : ∀ e ∈ sortE l, badX n e = false := fun e he => by
    obtain ⟨j, hj, rfl⟩ := List.getElem_of_mem ((sortE_perm l).mem_iff.1 he)
    exact (h5 j hj).1
  refine tidy_mk n _ 0 (fun e he => by have := badX_false (hbad e he); omega) ?_ h0
  have hp : (sortE l).Pairwise (fun a b => hitX a b = false) := ((sortE_perm l).pairwise_iff (fun {x y} h => by rw [hitX_symm]; exact h)).2 (chkX_pair h)
  rw [List.pairwise_iff_getElem] at hp ⊢
  have hs := sortE_sorted l
  rw [List.pairwise_iff_getElem] at hs
  intro i j hi hj hij
  have a1 := hitX_false.1 (hp i j hi hj hij)
  have a2 := hs i j hi hj hij
  have a3 := badX_false (hbad _ (List.getElem_mem hi))
  have a4 := badX_false (hbad _ (List.getElem_mem hj))
  omega
theorem tidy_le : ∀ {S : List Ext} {a n : Int}, Tidy a S n → a ≤ n
  | [], _, _, h => h
  | e :: r, a, n, ⟨h1, h2, h3⟩ => by have := tidy_le h3; omega
theorem tidy_mem : ∀ {S : List Ext} {a n : Int}, Tidy a S n → ∀ e ∈ S, a ≤ e.1 ∧ 1 ≤ e.2 ∧ e.1 + e.2 ≤ n
  | e :: r, a, n, ⟨h1, h2, h3⟩, x, hx => by
    rcases List.mem_cons.1 hx with rfl | hx
    · exact ⟨h1, h2, tidy_le h3⟩
    · have := tidy_mem h3 x hx; omega
theorem tidy_strict : ∀ {S : List Ext} {a n : Int}, Tidy a S n → S.Pairwise (fun x y => x.1 < y.1)
  | [], _, _, _ => List.Pairwise.nil
  | e :: r, a, n, ⟨h1, h2, h3⟩ => List.Pairwise.cons (fun x hx => by have := tidy_mem h3 x hx; omega) (tidy_strict h3)
/-- holes of a tidy list, with its end -/
def runsX (a : Int) (S : List Ext) (n : Int) : List Ext := holesGo a (S ++ [(n, 0)])
theorem runsX_nil (a n : Int) : runsX a [] n = if a < n then [(a, n - a)] else [] := by
  unfold runsX
  simp [holesGo]
theorem runsX_cons (a : Int) (e : Ext) (r : List Ext) (n : Int) : runsX a (e :: r) n = (if a < e.1 then [(a, e.1 - a)] else []) ++ runsX (e.1 + e.2) r n := rfl
theorem runs_mem : ∀ {S : List Ext} {a n : Int}, Tidy a S n → ∀ h ∈ runsX a S n, a ≤ h.1 ∧ 1 ≤ h.2 ∧ h.1 + h.2 ≤ n ∧ ∀ e ∈ S, h.1 + h.2 ≤ e.1 ∨ e.1 + e.2 ≤ h.1
  | [], a, n, ht, h, hh => by
    rw [runsX_nil] at hh
    split at hh
    · rw [List.mem_singleton.1 hh]
      dsimp only
      exact ⟨by omega, by omega, by omega, fun e he => by cases he⟩
    · cases hh
  | e :: r, a, n, ⟨h1, h2, h3⟩, h, hh => by
    rw [runsX_cons] at hh
    rcases List.mem_append.1 hh with hh | hh
    · split at hh
      · rw [List.mem_singleton.1 hh]
        have := tidy_le h3
        dsimp only
        refine ⟨by omega, by omega, by omega, fun x hx => .inl ?_⟩
        rcases List.mem_cons.1 hx with rfl | hx
        · omega
        · have := tidy_mem h3 x hx; omega
      · cases hh
    · obtain ⟨i1, i2, i3, i4⟩ := runs_mem h3 h hh
      refine ⟨by omega, i2, i3, fun x hx => ?_⟩
      rcases List.mem_cons.1 hx with rfl | hx
      · right; omega
      · exact i4 x hx
theorem runs_pair : ∀ {S : List Ext} {a n : Int}, Tidy a S n → (runsX a S n).Pairwise (fun x y => x.1 + x.2 ≤ y.1)
  | [], a, n, _ => by
    rw [runsX_nil]; split <;> simp
  | e :: r, a, n, ⟨h1, h2, h3⟩ => by
    rw [runsX_cons]
    have ih := runs_pair h3
    split
    · refine List.Pairwise.cons (fun x hx => ?_) ih
      have := runs_mem h3 x hx
      dsimp only
      omega
    · exact ih
theorem foldl_sum (l : List Ext) : ∀ s : Int, l.foldl (fun s e => s + e.2) s = s + l.foldl (fun s e => s + e.2) 0 := by
  induction l with
  | nil => intro s; simp
  | cons x l ih => intro s; rw [List.foldl_cons, ih, List.foldl_cons, ih (0 + x.2)]; omega
theorem sumX_cons (e : Ext) (l : List Ext) : sumX (e :: l) = e.2 + sumX l := by
  unfold sumX; rw [List.foldl_cons, foldl_sum]; omega
theorem sumX_append (l m : List Ext) : sumX (l ++ m) = sumX l + sumX m := by
  induction l with
  | nil => simp [sumX]
  | cons x l ih => rw [List.cons_append, sumX_cons, sumX_cons, ih]; omega
theorem sumX_perm {l m : List Ext} (h : l.Perm m) : sumX l = sumX m := by
  induction h with
  | nil => rfl
  | cons x _ ih => rw [sumX_cons, sumX_cons, ih]
  | swap x y l => rw [sumX_cons, sumX_cons, sumX_cons, sumX_cons]; omega
  | trans _ _ h1 h2 => rw [h1, h2]
theorem runs_sum : ∀ {S : List Ext} {a n : Int}, Tidy a S n → sumX S + sumX (runsX a S n) = n - a
  | [], a, n, h => by
    have : a ≤ n := h
    rw [runsX_nil]; split
    · rw [sumX_cons]; simp [sumX]
    · simp [sumX]; omega
  | e :: r, a, n, ⟨h1, h2, h3⟩ => by
    rw [runsX_cons, sumX_cons, sumX_append]
    have ih := runs_sum h3
    split
    · rw [sumX_cons]
      have : sumX [] = 0 := rfl
      dsimp only
      omega
    · have : sumX [] = 0 := rfl
      omega
/-- one more, where it fits -/
theorem runs_insert : ∀ {S : List Ext} {a n at_ L size : Int}, Tidy a S n → (at_, L) ∈ runsX a S n → 1 ≤ size → size ≤ L →
    ∃ S', S'.Perm ((at_, size) :: S) ∧ Tidy a S' n ∧ (runsX a S' n).length ≤ (runsX a S n).length ∧ ∀ h ∈ runsX a S' n, ∃ h' ∈ runsX a S n, h.2 ≤ h'.2
  | [], a, n, at_, L, size, ht, hm, h1, h2 => by
    rw [runsX_nil] at hm
    split at hm
    · rename_i hlt
      have he := List.mem_singleton.1 hm
      injection he with e1 e2
      subst e1 e2
      refine ⟨[(at_, size)], List.Perm.refl _, ⟨Int.le_refl _, h1, (by omega : at_ + size ≤ n)⟩, ?_, ?_⟩
      · rw [runsX_cons, runsX_nil, runsX_nil, if_neg (by dsimp only; omega), if_pos hlt]
        dsimp only
        split <;> simp
      · intro h hh
        rw [runsX_cons, runsX_nil, if_neg (by dsimp only; omega)] at hh
        dsimp only at hh
        split at hh
        · have hm' : h = (at_ + size, n - (at_ + size)) := by simpa using hh
          rw [hm', runsX_nil, if_pos hlt]
          exact ⟨_, List.mem_singleton.2 rfl, by dsimp only; omega⟩
        · simp at hh
    · cases hm
  | e :: r, a, n, at_, L, size, ⟨t1, t2, t3⟩, hm, h1, h2 => by
    rw [runsX_cons] at hm
    rcases List.mem_append.1 hm with hm | hm
    · split at hm
      · rename_i hlt
        have he := List.mem_singleton.1 hm
        injection he with e1 e2
        subst e1 e2
        refine ⟨(at_, size) :: e :: r, List.Perm.refl _, ⟨Int.le_refl _, h1, (by dsimp only; omega), t2, t3⟩, ?_, ?_⟩
        · rw [runsX_cons, runsX_cons, runsX_cons, if_neg (by dsimp only; omega), if_pos hlt]
          dsimp only
          split <;> simp
        · intro h hh
          rw [runsX_cons, runsX_cons, if_neg (by dsimp only; omega)] at hh
          dsimp only at hh
          rw [runsX_cons, if_pos hlt]
          rw [List.nil_append] at hh
          rcases List.mem_append.1 hh with hh | hh
          · split at hh
            · rw [List.mem_singleton.1 hh]
              exact ⟨_, List.mem_cons_self .., by dsimp only; omega⟩
            · cases hh
          · exact ⟨h, List.mem_cons_of_mem _ hh, Int.le_refl _⟩
      · cases hm
    · obtain ⟨S', p1, p2, p3, p4⟩ := runs_insert t3 hm h1 h2
      refine ⟨e :: S', (List.Perm.cons e p1).trans (List.Perm.swap _ _ _), ⟨t1, t2, p2⟩, ?_, ?_⟩
      · rw [runsX_cons, runsX_cons, List.length_append, List.length_append]; omega
      · intro h hh
        rw [runsX_cons] at hh ⊢
        rcases List.mem_append.1 hh with hh | hh
        · exact ⟨h, List.mem_append_left _ hh, Int.le_refl _⟩
        · obtain ⟨h', m1, m2⟩ := p4 h hh
          exact ⟨h', List.mem_append_right _ m1, m2⟩
theorem sortE_unique {l S : List Ext} {a n : Int} (hp : S.Perm l) (ht : Tidy a S n) : sortE l = S := by
  have h1 : (sortE l).Perm S := (sortE_perm l).trans hp.symm
  have hs := tidy_strict ht
  refine List.Perm.eq_of_pairwise (le := fun x y : Ext => x.1 ≤ y.1) (fun x y hx hy h h' => ?_) (sortE_sorted l) (hs.imp fun h => Int.le_of_lt h) h1
  have hx' : x ∈ S := h1.mem_iff.1 hx
  obtain ⟨i, hi, rfl⟩ := List.getElem_of_mem hx'
  obtain ⟨j, hj, rfl⟩ := List.getElem_of_mem hy
  rw [List.pairwise_iff_getElem] at hs
  rcases Nat.lt_trichotomy i j with hij | rfl | hij
  · have := hs i j hi hj hij; omega
  · rfl
  · have := hs j i hj hi hij; omega
theorem bestX_snoc (size : Int) (H : List Ext) (x : Ext) : bestX size (H ++ [x]) = if size ≤ x.2 ∧ ((bestX size H).2 = 0 ∨ x.2 < (bestX size H).2) then x else bestX size H := by
  unfold bestX; rw [List.foldl_append]; rfl
theorem snocE {p : List Ext → Prop} (h0 : p []) (h1 : ∀ L x, p L → p (L ++ [x])) (L : List Ext) : p L := by
  rw [← List.reverse_reverse L]
  induction L.reverse with
  | nil => exact h0
  | cons x L ih => rw [List.reverse_cons]; exact h1 _ _ ih
theorem best_inv (size : Int) (h1 : 1 ≤ size) (H : List Ext) : (bestX size H = (0, 0) ∧ ∀ h ∈ H, h.2 < size) ∨ (bestX size H ∈ H ∧ size ≤ (bestX size H).2 ∧ ∀ h ∈ H, size ≤ h.2 → (bestX size H).2 ≤ h.2) := by
  induction H using snocE with
  | h0 => exact .inl ⟨rfl, fun h hh => by cases hh⟩
  | h1 L x ih =>
    rw [bestX_snoc]
    rcases ih with ⟨e, hall⟩ | ⟨hm, hs, hall⟩
    · rw [e]
      by_cases hx : size ≤ x.2
      · rw [if_pos ⟨hx, .inl rfl⟩]
        refine .inr ⟨by simp, hx, fun h hh hsz => ?_⟩
        rcases List.mem_append.1 hh with hh | hh
        · have := hall h hh; omega
        · rw [List.mem_singleton.1 hh]; exact Int.le_refl _
      · rw [if_neg (fun h => hx h.1)]
        refine .inl ⟨rfl, fun h hh => ?_⟩
        rcases List.mem_append.1 hh with hh | hh
        · exact hall h hh
        · rw [List.mem_singleton.1 hh]; omega
    · by_cases hx : size ≤ x.2 ∧ ((bestX size L).2 = 0 ∨ x.2 < (bestX size L).2)
      · rw [if_pos hx]
        refine .inr ⟨by simp, hx.1, fun h hh hsz => ?_⟩
        rcases List.mem_append.1 hh with hh | hh
        · have := hall h hh hsz; omega
        · rw [List.mem_singleton.1 hh]; exact Int.le_refl _
      · rw [if_neg hx]
        refine .inr ⟨List.mem_append_left _ hm, hs, fun h hh hsz => ?_⟩
        rcases List.mem_append.1 hh with hh | hh
        · exact hall h hh hsz
        · rw [List.mem_singleton.1 hh] at hsz ⊢; omega
section
variable {n : Int} {l : List Ext}
theorem holes_runs (n : Int) (l : List Ext) : holesX n l = runsX 0 (sortE l) n := rfl
theorem holes_mem (h : chkX n l = 0) : ∀ x ∈ holesX n l, 0 ≤ x.1 ∧ 1 ≤ x.2 ∧ x.1 + x.2 ≤ n ∧ ∀ e ∈ l, x.1 + x.2 ≤ e.1 ∨ e.1 + e.2 ≤ x.1 := fun x hx => by
  obtain ⟨i1, i2, i3, i4⟩ := runs_mem (tidy_of h) x hx
  exact ⟨i1, i2, i3, fun e he => i4 e ((sortE_perm l).mem_iff.2 he)⟩
theorem holds_sum (h : chkX n l = 0) : sumX l + sumX (holesX n l) = n := by
  have h1 := runs_sum (tidy_of h)
  rw [sumX_perm (sortE_perm l)] at h1
  rw [holes_runs]; omega
theorem holds_bad (h : chkX n l = 0) : ∀ e ∈ l, badX n e = false := fun e he => by
  obtain ⟨_, _, _, _, h5⟩ := chkX_ok h
  obtain ⟨j, hj, rfl⟩ := List.getElem_of_mem he
  exact (h5 j hj).1
theorem holds_chk (h : chkX n l = 0) (hl : (l ++ holesX n l).length ≤ 200) : chkX n (l ++ holesX n l) = 0 := by
  obtain ⟨h0, h1, _, _, _⟩ := chkX_ok h
  have hm := holes_mem h
  refine chkX_of h0 h1 hl (fun e he => ?_) ?_
  · rcases List.mem_append.1 he with he | he
    · exact holds_bad h e he
    · have := hm e he; exact badX_of (by omega)
  · rw [List.pairwise_append]
    refine ⟨chkX_pair h, (runs_pair (tidy_of h)).imp fun hxy => hitX_false.2 (.inr hxy), fun e he x hx => ?_⟩
    have := (hm x hx).2.2.2 e he
    exact hitX_false.2 (by omega)
theorem more_chk (h : chkX n l = 0) {at_ L size : Int} (hm : (at_, L) ∈ holesX n l) (h1 : 1 ≤ size) (h2 : size ≤ L) (hl : l.length + 1 ≤ 200) : chkX n (l ++ [(at_, size)]) = 0 ∧ chkX n ((at_, size) :: l) = 0 := by
  obtain ⟨o0, o1, _, _, _⟩ := chkX_ok h
  obtain ⟨m1, m2, m3, m4⟩ := holes_mem h _ hm
  dsimp only at m1 m2 m3 m4
  have hb : ∀ e ∈ (at_, size) :: l, badX n e = false := fun e he => by
    rcases List.mem_cons.1 he with rfl | he
    · exact badX_of (by dsimp only; omega)
    · exact holds_bad h e he
  have hx : ∀ e ∈ l, hitX (at_, size) e = false := fun e he => hitX_false.2 (by have := m4 e he; dsimp only; omega)
  constructor
  · refine chkX_of o0 o1 (by simp; omega) (fun e he => hb e (by simp at he ⊢; rcases he with h | h; exact .inr h; exact .inl h)) ?_
    rw [List.pairwise_append]
    refine ⟨chkX_pair h, by simp, fun e he x hx' => ?_⟩
    rw [List.mem_singleton.1 hx', hitX_symm]
    exact hx e he
  · refine chkX_of o0 o1 (by simp; omega) hb ?_
    exact List.Pairwise.cons hx (chkX_pair h)
theorem fit_none (h : chkX n l = 0) {size : Int} (hf : fitE n l size ≠ 0) : ∀ x ∈ holesX n l, 1 ≤ size → x.2 < size := fun x hx hs => by
  obtain ⟨o0, o1, _, _, _⟩ := chkX_ok h
  have hm := holes_mem h x hx
  unfold fitE at hf
  rw [if_pos h] at hf
  by_cases h1 : size < 1 ∨ 6400 < size
  · omega
  · rw [if_neg h1] at hf
    rcases best_inv size hs (holesX n l) with ⟨e, hall⟩ | ⟨_, h2, _⟩
    · exact hall x hx
    · rw [if_neg (by omega)] at hf; exact absurd rfl hf
theorem fit_some (h : chkX n l = 0) {size : Int} (hf : fitE n l size = 0) : ∃ L, (fitA n l size, L) ∈ holesX n l ∧ 1 ≤ size ∧ size ≤ L ∧ (∀ x ∈ holesX n l, size ≤ x.2 → L ≤ x.2) ∧ (∀ x ∈ holesX n l, x.1 = fitA n l size → x.2 = L) := by
  have hA : fitA n l size = (bestX size (holesX n l)).1 := by unfold fitA; rw [if_pos hf]
  unfold fitE at hf
  rw [if_pos h] at hf
  by_cases h1 : size < 1 ∨ 6400 < size
  · rw [if_pos h1] at hf; cases hf
  · rw [if_neg h1] at hf
    have hs : 1 ≤ size := by omega
    rcases best_inv size hs (holesX n l) with ⟨e, _⟩ | ⟨hm, h2, h3⟩
    · rw [e] at hf; cases hf
    · refine ⟨(bestX size (holesX n l)).2, by rw [hA]; exact hm, hs, h2, h3, fun x hx hxa => ?_⟩
      rw [hA] at hxa
      have hp := runs_pair (tidy_of h)
      rw [← holes_runs, List.pairwise_iff_getElem] at hp
      obtain ⟨i, hi, rfl⟩ := List.getElem_of_mem hx
      obtain ⟨j, hj, hjb⟩ := List.getElem_of_mem hm
      rw [← hjb] at hxa ⊢
      have pi := holes_mem h _ (List.getElem_mem hi)
      have pj := holes_mem h _ (List.getElem_mem hj)
      rcases Nat.lt_trichotomy i j with hij | rfl | hij
      · have := hp i j hi hj hij; omega
      · rfl
      · have := hp j i hj hi hij; omega
theorem mostX_snoc (H : List Ext) (x : Ext) : mostX (H ++ [x]) = max (mostX H) x.2 := by
  unfold mostX; rw [List.foldl_append]; rfl
theorem mostX_mem (H : List Ext) : 0 ≤ mostX H ∧ (∀ x ∈ H, x.2 ≤ mostX H) ∧ ∀ M, 0 ≤ M → (∀ x ∈ H, x.2 ≤ M) → mostX H ≤ M := by
  induction H using snocE with
  | h0 => exact ⟨Int.le_refl _, fun x hx => (by cases hx), fun M hM _ => hM⟩
  | h1 L x ih =>
    obtain ⟨i0, i1, i2⟩ := ih
    rw [mostX_snoc]
    refine ⟨by omega, fun y hy => ?_, fun M hM hall => ?_⟩
    · rcases List.mem_append.1 hy with hy | hy
      · have := i1 y hy; omega
      · rw [List.mem_singleton.1 hy]; omega
    · have := i2 M hM (fun y hy => hall y (List.mem_append_left _ hy))
      have := hall x (by simp)
      omega
theorem sum_mem {H : List Ext} (hp : ∀ x ∈ H, 0 ≤ x.2) : 0 ≤ sumX H ∧ ∀ x ∈ H, x.2 ≤ sumX H := by
  induction H with
  | nil => exact ⟨Int.le_refl _, fun x hx => by cases hx⟩
  | cons y r ih =>
    obtain ⟨i0, i1⟩ := ih (fun x hx => hp x (List.mem_cons_of_mem _ hx))
    have := hp y (List.mem_cons_self ..)
    rw [sumX_cons]
    refine ⟨by omega, fun x hx => ?_⟩
    rcases List.mem_cons.1 hx with rfl | hx
    · omega
    · have := i1 x hx; omega
/-- what is most is free -/
theorem most_free (h : chkX n l = 0) : mostX (holesX n l) ≤ n - sumX l := by
  have hs := holds_sum h
  have hm := sum_mem (H := holesX n l) (fun x hx => by have := holes_mem h x hx; omega)
  exact (mostX_mem _).2.2 _ (by omega) (fun x hx => by have := hm.2 x hx; omega)
theorem fit_most (h : chkX n l = 0) {size : Int} (hf : fitE n l size ≠ 0) : size < 1 ∨ mostX (holesX n l) < size := by
  by_cases h1 : size < 1
  · exact .inl h1
  · right
    have := (mostX_mem (holesX n l)).2.2 (size - 1) (by omega) (fun x hx => by have := fit_none h hf x hx (by omega); omega)
    omega
theorem more_stat (h : chkX n l = 0) {at_ L size : Int} (hm : (at_, L) ∈ holesX n l) (h1 : 1 ≤ size) (h2 : size ≤ L) :
    mostX (holesX n ((at_, size) :: l)) ≤ mostX (holesX n l) ∧ (holesX n ((at_, size) :: l)).length ≤ (holesX n l).length ∧ sumX ((at_, size) :: l) = size + sumX l := by
  obtain ⟨S', p1, p2, p3, p4⟩ := runs_insert (tidy_of h) hm h1 h2
  have hu : sortE ((at_, size) :: l) = S' := sortE_unique (p1.trans (List.Perm.cons _ (sortE_perm l))) p2
  rw [holes_runs n (_ :: l), hu]
  refine ⟨(mostX_mem _).2.2 _ (mostX_mem _).1 (fun x hx => ?_), p3, sumX_cons _ _⟩
  obtain ⟨x', m1, m2⟩ := p4 x hx
  have := (mostX_mem (holesX n l)).2.1 x' m1
  omega
end
end Go.Proofs.YthlflklamgdkfaaDoor
/- The heap: Alloc. -/
namespace Go.Proofs.YthlflklamgdkfaaDoor
open Go.RowKit

section
variable {w0 w : World} {F : Nat → Prop} {h : Nat} {l : Bytes}
/-- a heap's image, for a walk that writes into it -/
theorem Hp.rowW (hp : Hp w0 w F h l) : ∃ g cap cur, w.cell? ⟨h, 0, none⟩ = some (.slice (some ⟨g, 0, none⟩) l.length cap) ∧ w.heap[g]? = some (.cells cur 5 (0, 0)) ∧ cur.size = cap ∧ l.length ≤ cap ∧ cap ≤ maxLen ∧ Row w 5 g cap l ∧ F g ∧
    ∀ o (bs : Bytes), o + bs.length ≤ l.length → Hp w0 (w.setRow g (setB cur o (bs.map bv))) F h (splice l o bs) ∧ Keep F w (w.setRow g (setB cur o (bs.map bv))) := by
  obtain ⟨g, cap, h1, h2, h3⟩ := hp.hd
  have h2' := h2
  obtain ⟨cur, e1, e2, e3, e4, e5⟩ := h2'
  have hne : h ≠ g := ne_row h1 h2 (by decide)
  refine ⟨g, cap, cur, by simp [World.cell?, h1], e1, e4, e2, e3, h2, h3, fun o bs hb => ?_⟩
  have hl := splice_len l bs o hb
  have hsz : (w.setRow g (setB cur o (bs.map bv))).heap.size = w.heap.size := by simp [World.setRow]
  have hk : Keep F w (w.setRow g (setB cur o (bs.map bv))) := ⟨rfl, rfl, rfl, Nat.le_of_eq hsz.symm, fun k _ hn => setRow_other w g _ _ (fun e => hn (e ▸ h3))⟩
  refine ⟨⟨⟨g, cap, by rw [hl]; exact (setRow_other w g _ _ hne).trans h1, h2.set_ o bs hb cur e1, h3⟩, hp.fh, by rw [hl]; exact hp.len, hp.new, fun k hk' => by rw [hsz]; exact hp.flt k hk', hkeep_below hp.bel hk hp.new⟩, hk⟩
end
/-- the first handle that is free (0: none), of the last j -/
def fH (l : Bytes) : Nat → Nat
  | 0 => 0
  | j + 1 => if hasE (rawE l (39 - j)) = true then fH l j else 40 - j
theorem fH_le (l : Bytes) : ∀ j, j ≤ 40 → fH l j ≤ 40
  | 0, _ => by simp [fH]
  | j + 1, hj => by
    unfold fH; split
    · exact fH_le l j (by omega)
    · omega
theorem fH_spec (l : Bytes) : ∀ j, j ≤ 40 → (fH l j = 0 ∧ ∀ k, 40 - j ≤ k → k < 40 → hasE (rawE l k) = true) ∨ (∃ k, 40 - j ≤ k ∧ k < 40 ∧ fH l j = k + 1 ∧ hasE (rawE l k) = false ∧ ∀ i, 40 - j ≤ i → i < k → hasE (rawE l i) = true)
  | 0, _ => .inl ⟨rfl, fun k h1 h2 => by omega⟩
  | j + 1, hj => by
    cases hh : hasE (rawE l (39 - j)) with
    | true =>
      have e : fH l (j + 1) = fH l j := by simp [fH, hh]
      rw [e]
      rcases fH_spec l j (by omega) with ⟨h0, hall⟩ | ⟨k, k1, k2, k3, k4, k5⟩
      · refine .inl ⟨h0, fun k h1 h2 => ?_⟩
        by_cases hk : k = 39 - j
        · rw [hk]; exact hh
        · exact hall k (by omega) h2
      · refine .inr ⟨k, by omega, k2, k3, k4, fun i h1 h2 => ?_⟩
        by_cases hi : i = 39 - j
        · rw [hi]; exact hh
        · exact k5 i (by omega) h2
    | false =>
      have e : fH l (j + 1) = 40 - j := by simp [fH, hh]
      exact .inr ⟨39 - j, by omega, by omega, by omega, hh, fun i h1 h2 => by omega⟩
/-- the fault of Alloc; where; the handle; the image behind it -/
def allocE (l : Bytes) (n t : Int) : Nat := if lenB n = false ∨ tagB t = false then 1 else if fH l 40 = 0 ∨ fitE ((l.length : Int) - 288) (takenL l) n ≠ 0 then 4 else 0
def allocA (l : Bytes) (n : Int) : Int := fitA ((l.length : Int) - 288) (takenL l) n + 288
def allocH (l : Bytes) (n t : Int) : Int := if allocE l n t = 0 then fH l 40 else 0
def allocL (l : Bytes) (n t : Int) : Bytes := if allocE l n t = 0 then splice (putEnt l (fH l 40) (allocA l n) n t) (allocA l n).toNat (List.replicate n.toNat 0) else l
theorem alloc_in {l : Bytes} {n : Int} (h : fitE ((l.length : Int) - 288) (takenL l) n = 0) : 288 ≤ allocA l n ∧ allocA l n + n ≤ l.length := by
  have hc : chkX ((l.length : Int) - 288) (takenL l) = 0 := by
    unfold fitE at h
    by_cases hc : chkX ((l.length : Int) - 288) (takenL l) = 0
    · exact hc
    · rw [if_neg hc] at h; exact absurd h hc
  obtain ⟨L, m1, m2, m3, _, _⟩ := fit_some hc h
  have := holes_mem hc _ m1
  unfold allocA
  dsimp only at this
  omega
section
variable {w0 w : World} {F : Nat → Prop} {h : Nat} {l : Bytes}
theorem halloc_e1 (n t : Int) (_hp : Hp w0 w F h l) (hbad : lenB n = false ∨ tagB t = false) :
    Calls Tryd.prog 33 #[.pointer (some ⟨h, 0, none⟩), .int .i64 n, .int .i64 t] w fun e w' => e = .returned (.tuple #[.int .i64 0, .iface 149 (.int .i64 1)]) ∧ w = w' := by
  cases h1 : lenB n with
  | false =>
    clear hbad
    go_enter Tryd.func33, Tryd.ntmps33
    go_wp2_with fail
    refine (len_any _ _).mono ?_
    rintro e w' ⟨rfl, rfl⟩
    rw [h1]
    go_wp2_with fail
    go_ret2
    exact ⟨rfl, rfl⟩
  | true =>
    have h2 : tagB t = false := by simpa [h1] using hbad
    clear hbad
    go_enter Tryd.func33, Tryd.ntmps33
    go_wp2_with fail
    refine (len_any _ _).mono ?_
    rintro e w' ⟨rfl, rfl⟩
    rw [h1]
    go_wp2_with fail
    refine (tag_any _ _).mono ?_
    rintro e w' ⟨rfl, rfl⟩
    rw [h2]
    go_wp2_with fail
    go_ret2
    exact ⟨rfl, rfl⟩
set_option maxRecDepth 100000 in
theorem halloc_go (n t : Int) (hp : Hp w0 w F h l) (h1 : lenB n = true) (h2 : tagB t = true) :
    Calls Tryd.prog 33 #[.pointer (some ⟨h, 0, none⟩), .int .i64 n, .int .i64 t] w fun e w' => e = .returned (.tuple #[.int .i64 (allocH l n t), errV (allocE l n t)]) ∧ ∃ F', HpM w0 w w' F F' h (allocL l n t) := by
  have hb := rightB_true.1 hp.len
  have hnb := lenB_true.1 h1
  have HP := Hidden.mk hp
  have HG : Hidden (∀ (j : Nat), j < 40 → ∀ W, Hp w0 W F h l → ∃ g cap, W.cell? ⟨h, 0, none⟩ = some (.slice (some ⟨g, 0, none⟩) l.length cap) ∧ Calls Tryd.prog 101 #[.slice (some ⟨g, 0, none⟩) l.length cap, .int .i64 ((39 - j : Nat) + 1 : Int)] W fun e w' => ∃ a b c d : Int, e = .returned (.tuple #[.agg #[.int .i64 a, .int .i64 b, .int .i64 c, .int .i64 d], errV (if hasE (rawE l (39 - j)) = true then 0 else 5)]) ∧ Below W.heap.size W w') := ⟨fun j hj W hW => by
    obtain ⟨g, cap, c0, hcap, hrow, _⟩ := hW.open_
    refine ⟨g, cap, c0, (iget_ans (some ⟨g, 0, none⟩) l.length cap l _ W rfl hW.len hcap hrow.rd).mono ?_⟩
    rintro e w' ⟨rfl, hb'⟩
    have e : hE l ((39 - j : Nat) + 1 : Int) = if hasE (rawE l (39 - j)) = true then 0 else 5 := by
      cases hh : hasE (rawE l (39 - j)) with
      | true => rw [(hE_has (by omega) hh).1]; rfl
      | false => rw [hE_hasnt (by omega) hh]; rfl
    rw [e]
    exact ⟨_, _, _, _, rfl, hb'⟩⟩
  have HE : Hidden (allocE l n t = if fH l 40 = 0 ∨ fitE ((l.length : Int) - 288) (takenL l) n ≠ 0 then 4 else 0) := ⟨by unfold allocE; rw [if_neg (by simp [h1, h2])]⟩
  have HH : Hidden (allocH l n t = if allocE l n t = 0 then (fH l 40 : Int) else 0) := ⟨rfl⟩
  have HL : Hidden (allocL l n t = if allocE l n t = 0 then splice (putEnt l (fH l 40) (allocA l n) n t) (allocA l n).toNat (List.replicate n.toNat 0) else l) := ⟨rfl⟩
  clear hp
  go_enter Tryd.func33, Tryd.ntmps33
  go_wp2_with fail
  refine (len_any _ _).mono ?_
  rintro e w' ⟨rfl, rfl⟩
  rw [h1]
  go_wp2_with fail
  refine (tag_any _ _).mono ?_
  rintro e w' ⟨rfl, rfl⟩
  rw [h2]
  go_wp2_with fail
  go_loopg [8, 9] 40 (fun q v i wr => ∃ j : Nat, j ≤ 40 ∧ q = 40 - j ∧ i = .int .i64 (40 - (j : Int)) ∧ v = .int .i64 (fH l j : Int) ∧ Hidden (Below w.heap.size w wr))
  case atStart => exact ⟨0, by omega, rfl, rfl, rfl, ⟨Below.refl _ _⟩⟩
  case round =>
    obtain ⟨j, hj, rfl, rfl, rfl, hst⟩ := hrel
    by_cases hlt : j < 40
    · obtain ⟨g, cap, y0, hget⟩ := HG.out j hlt wr (HP.out.below hst.out)
      have e1 : ((39 - j : Nat) + 1 : Int) = 40 - (j : Int) := by omega
      rw [e1] at hget
      have HGT := Hidden.mk hget
      have HS : Hidden (fH l (j + 1) = if hasE (rawE l (39 - j)) = true then fH l j else 40 - j) := ⟨rfl⟩
      have t0 : decide (1 ≤ 40 - (j : Int)) = true := by simp; omega
      have s1 : IntKind.i64.wrap (40 - (j : Int) - 1) = 40 - ((j + 1 : Nat) : Int) := by rw [IntWalk.i64_in _ (by omega)]; omega
      generalize fH l j = fj at *
      clear hget e1
      go_wp2_with fail
      refine HGT.out.mono ?_
      rintro e w1 ⟨a, b, c, d, rfl, hb1⟩
      have hB1 := hst.out.trans (hb1.mono hst.out.size)
      have HB := Hidden.mk (hB1.alloc hB1.size (.cells #[.int .i64 a, .int .i64 b, .int .i64 c, .int .i64 d] 137))
      clear hb1 hB1 hst HGT
      cases hh : hasE (rawE l (39 - j)) with
      | true =>
        rw [if_pos rfl]
        have HS2 : Hidden (fH l (j + 1) = fj) := ⟨by rw [HS.out, if_pos hh]⟩
        rw [show errV 0 = Value.nilIface from rfl]
        clear hh HS
        go_wp2_with fail
        go_roundg (40 - (j + 1))
        case measure => omega
        case rel => exact ⟨j + 1, by omega, rfl, rfl, by rw [HS2.out], HB⟩
      | false =>
        rw [if_neg (by decide)]
        have HS2 : Hidden (fH l (j + 1) = 40 - j) := ⟨by rw [HS.out, if_neg (by rw [hh]; decide)]⟩
        rw [show errV 5 = .iface 149 (.int .i64 5) from rfl]
        clear hh HS
        go_wp2_with fail
        go_roundg (40 - (j + 1))
        case measure => omega
        case rel => exact ⟨j + 1, by omega, rfl, rfl, by rw [HS2.out]; congr 1; omega, HB⟩
    · obtain rfl : j = 40 := by omega
      have HP2 := Hidden.mk (HP.out.below hst.out)
      have HT := Hidden.mk (htaken_any HP2.out)
      have t0 : decide (1 ≤ 40 - ((40 : Nat) : Int)) = false := by decide
      have hfl := fH_le l 40 (Nat.le_refl _)
      have HW1 := Hidden.mk hst.out
      clear hst HG
      go_wp2_with fail
      refine HT.out.mono ?_
      rintro e w1 ⟨A, m, c, rfl, hm, hmc, hrx, hb1⟩
      have HW2 := Hidden.mk (HW1.out.trans (hb1.mono HW1.out.size))
      have HF := Hidden.mk (xfit_any ((l.length : Int) - 288) A m c (takenL l) n w1 hm hmc hrx)
      clear hb1 hrx HT HW1 HP2 t0
      have HIN : Hidden (fitE ((l.length : Int) - 288) (takenL l) n = 0 → 288 ≤ allocA l n ∧ allocA l n + n ≤ l.length) := ⟨alloc_in⟩
      have HAD : Hidden (allocA l n = fitA ((l.length : Int) - 288) (takenL l) n + 288) := ⟨rfl⟩
      generalize fitE ((l.length : Int) - 288) (takenL l) n = fe at *
      generalize fitA ((l.length : Int) - 288) (takenL l) n = fa at *
      generalize allocA l n = aa at *
      generalize fH l 40 = fh at *
      go_wp2_with fail
      refine HF.out.mono ?_
      rintro e w2 ⟨rfl, hb2⟩
      have HW3 := Hidden.mk (HW2.out.trans (hb2.mono HW2.out.size))
      clear hb2 HF HW2
      by_cases hz : fh = 0
      · have hae : allocE l n t = 4 := by rw [HE.out, if_pos (.inl hz)]
        have HAH : Hidden (allocE l n t = 4 ∧ allocH l n t = 0 ∧ allocL l n t = l) := ⟨hae, by rw [HH.out, hae]; rfl, by rw [HL.out, hae]; rfl⟩
        clear hae
        subst hz
        have HFIN := Hidden.mk (HP.out.same HW3.out)
        generalize errV fe = ev at *
        clear HE HH HL
        go_wp2_with fail
        go_ret2
        exact ⟨by rw [HAH.out.1, HAH.out.2.1]; rfl, _, by rw [HAH.out.2.2]; exact HFIN.out⟩
      · by_cases hfe : fe = 0
        · have hae : allocE l n t = 0 := by rw [HE.out, if_neg (by omega)]
          have hah : allocH l n t = fh := by rw [HH.out, hae]; rfl
          have hin := HIN.out hfe
          rw [hfe, show errV 0 = Value.nilIface from rfl]
          have t1 : (fh == 0) = false := by simpa using hz
          have t2 : ((fh : Int) == 0) = false := by simpa using hz
          have s1 : IntKind.i64.wrap (fa + 288) = aa := by rw [HAD.out, IntWalk.i64_in _ (by have := HAD.out; omega)]
          have HLL : Hidden (allocL l n t = splice (putEnt l fh aa n t) aa.toNat (List.replicate n.toNat 0)) := ⟨by rw [HL.out, hae]; rfl⟩
          have HAH := Hidden.mk (And.intro hae hah)
          clear hae hah
          obtain ⟨a, rfl⟩ := Int.eq_ofNat_of_zero_le (show 0 ≤ aa by omega)
          obtain ⟨nn, rfl⟩ := Int.eq_ofNat_of_zero_le (show 0 ≤ n by omega)
          have hal : allocL l nn t = splice (putEnt l fh a nn t) a (List.replicate nn 0) := HLL.out
          have hwb : withinB l.length (a : Int) (nn : Int) = true := withinB_true.2 (by omega)
          have hal1 : Below w2.heap.size w2 (w2.alloc (.cells #[.int .i64 fh, .int .i64 a, .int .i64 nn, .int .i64 t] 137)) := (Below.refl _ _).alloc (Nat.le_refl _) _
          have hp3 := HP.out.below (HW3.out.trans (hal1.mono HW3.out.size))
          have HPUT := Hidden.mk (fun (W : World) (hW : Hp w0 W F h l) => hput_ok (fh : Int) (a : Int) (nn : Int) t hW (handleB_true.2 (by omega)) h2 h1 hwb)
          have hpl : (putEnt l fh a nn t).length = l.length := putEnt_len l fh a nn t (by omega) (by omega) (by omega)
          have HPL := Hidden.mk hpl
          have HALL := Hidden.mk hal
          have hf := fourAt_one w2 fh a nn t 137
          have HW4 := Hidden.mk (HW3.out.trans (hal1.mono HW3.out.size))
          have HP4 := Hidden.mk hp3
          generalize putEnt l fh a nn t = l1 at *
          clear hal hal1 hp3 hwb hpl HE HH HL HIN HAD hfe hz HLL
          go_wp2_with fail
          generalize w2.alloc (.cells #[.int .i64 fh, .int .i64 a, .int .i64 nn, .int .i64 t] 137) = w3 at *
          refine (HPUT.out _ HP4.out).mono ?_
          rintro e w4 ⟨rfl, F4, hm4⟩
          obtain ⟨f0, f1, f2, f3⟩ := hf
          have hfl4 : w2.heap.size < w3.heap.size := block_lt_of_cell f0
          have hno : ¬ F w2.heap.size := fun hk => by have := HP.out.flt _ hk; have := HW3.out.size; omega
          have hk4 := hm4.kp.block _ hfl4 hno
          have g0 := (World.cell?_of_block (w := w3) (a := ⟨w2.heap.size, 0, none⟩) hk4).trans f0
          have g1 := (World.cell?_of_block (w := w3) (a := ⟨w2.heap.size, 1, none⟩) hk4).trans f1
          have g2 := (World.cell?_of_block (w := w3) (a := ⟨w2.heap.size, 2, none⟩) hk4).trans f2
          have g3 := (World.cell?_of_block (w := w3) (a := ⟨w2.heap.size, 3, none⟩) hk4).trans f3
          obtain ⟨gi, ci, cur4, y0, -, -, hci, -, -, -, -⟩ := hm4.hp.rowW
          rw [HPL.out] at y0 hci
          have HOF := Hidden.mk (hof_any (h := h) gi ci a nn fh t w4 ⟨_, y0⟩ (by omega) (by omega) (by omega))
          have HM := Hidden.mk (((HP.out.same HW4.out).trans hm4))
          have HY0 := Hidden.mk y0
          clear f0 f1 f2 f3 hfl4 hno hk4 hm4 HPUT
          go_wp2_with fail
          refine HOF.out.mono ?_
          rintro e w5 ⟨rfl, hb5⟩
          have hm5 := HM.out.trans (HM.out.hp.same hb5)
          obtain ⟨g5, c5, cur5, z0, z1, z2, z3, -, -, -, z4⟩ := hm5.hp.rowW
          have hyz := ((hb5.cell (p := ⟨h, 0, none⟩) (block_lt_of_cell HY0.out)).trans HY0.out).symm.trans z0
          have hyz := Option.some.inj hyz
          injection hyz with q1 q2 q3
          injection q1 with q1
          injection q1 with q1
          subst q1 q3
          rw [HPL.out] at z3
          have hclear := fun ty => run_clear_row w5 gi a nn (ci - a) cur5 _ z1 (by omega) (by omega) ty
          have hz4 := z4 a (List.replicate nn 0) (by rw [HPL.out]; simp; omega)
          have HFIN := Hidden.mk (hm5.trans (HpM.mk hz4.1 hz4.2 (fun k hk => .inl hk)))
          clear z0 z2 z3 z4 hz4 hm5 hb5 HOF HM HY0 y0 q2
          go_wp2_with (simp only [hclear])
          go_ret2
          exact ⟨by rw [HAH.out.1, HAH.out.2]; rfl, _, by rw [HALL.out]; have hF := HFIN.out; rw [List.map_replicate] at hF; exact hF⟩
        · have hae : allocE l n t = 4 := by rw [HE.out, if_pos (.inr hfe)]
          have HAH : Hidden (allocE l n t = 4 ∧ allocH l n t = 0 ∧ allocL l n t = l) := ⟨hae, by rw [HH.out, hae]; rfl, by rw [HL.out, hae]; rfl⟩
          clear hae
          have hev : errV fe = .iface 149 (.int .i64 fe) := by unfold errV; rw [if_neg hfe]
          rw [hev]
          have t1 : (fh == 0) = false := by simpa using hz
          have t2 : ((fh : Int) == 0) = false := by simpa using hz
          have HFIN := Hidden.mk (HP.out.same HW3.out)
          clear HE HH HL hfe hz hev
          go_wp2_with fail
          go_ret2
          exact ⟨by rw [HAH.out.1, HAH.out.2.1]; rfl, _, by rw [HAH.out.2.2]; exact HFIN.out⟩
theorem halloc_any (n t : Int) (hp : Hp w0 w F h l) :
    Calls Tryd.prog 33 #[.pointer (some ⟨h, 0, none⟩), .int .i64 n, .int .i64 t] w fun e w' => e = .returned (.tuple #[.int .i64 (allocH l n t), errV (allocE l n t)]) ∧ ∃ F', HpM w0 w w' F F' h (allocL l n t) := by
  by_cases hbad : lenB n = false ∨ tagB t = false
  · have h1 : allocE l n t = 1 := by unfold allocE; rw [if_pos hbad]
    have h2 : allocH l n t = 0 := by unfold allocH; rw [h1]; rfl
    have h3 : allocL l n t = l := by unfold allocL; rw [h1]; rfl
    rw [h1, h2, h3]
    refine (halloc_e1 n t hp hbad).mono ?_
    rintro e w' ⟨rfl, rfl⟩
    exact ⟨rfl, F, hp.same (Below.refl _ _)⟩
  · exact halloc_go n t hp (by cases hx : lenB n <;> simp_all) (by cases hx : tagB t <;> simp_all)
end
end Go.Proofs.YthlflklamgdkfaaDoor
/- The plain law of heaps: what stays right, what has room. No walk here. -/
namespace Go.Proofs.YthlflklamgdkfaaDoor
open Go.RowKit

/-- where a run is free there is one of the runs -/
theorem run_cover : ∀ {S : List Ext} {a n p s : Int}, Tidy a S n → a ≤ p → p + s ≤ n → 1 ≤ s → (∀ e ∈ S, p + s ≤ e.1 ∨ e.1 + e.2 ≤ p) → ∃ h ∈ runsX a S n, h.1 ≤ p ∧ p + s ≤ h.1 + h.2
  | [], a, n, p, s, ht, h1, h2, h3, _ => by
    rw [runsX_nil, if_pos (by omega)]
    exact ⟨_, List.mem_singleton.2 rfl, by dsimp only; omega, by dsimp only; omega⟩
  | e :: r, a, n, p, s, ⟨t1, t2, t3⟩, h1, h2, h3, hall => by
    rw [runsX_cons]
    rcases hall e (List.mem_cons_self ..) with h | h
    · rw [if_pos (by omega)]
      exact ⟨_, List.mem_append_left _ (List.mem_singleton.2 rfl), by dsimp only; omega, by dsimp only; omega⟩
    · obtain ⟨x, hx, hh⟩ := run_cover t3 h h2 h3 (fun y hy => hall y (List.mem_cons_of_mem _ hy))
      exact ⟨x, List.mem_append_right _ hx, hh⟩
theorem fit_exists {n : Int} {l : List Ext} {p size : Int} (h : chkX n l = 0) (h0 : 0 ≤ p) (h1 : 1 ≤ size) (h2 : p + size ≤ n) (hall : ∀ e ∈ l, p + size ≤ e.1 ∨ e.1 + e.2 ≤ p) : fitE n l size = 0 := by
  obtain ⟨o0, o1, _⟩ := chkX_ok h
  obtain ⟨x, hx, hh⟩ := run_cover (tidy_of h) h0 h2 h1 (fun e he => hall e ((sortE_perm l).mem_iff.1 he))
  rw [← holes_runs] at hx
  refine Classical.byContradiction fun hf => ?_
  have := fit_none h hf x hx h1
  omega
theorem takenL_mem {l : Bytes} {e : Ext} : e ∈ takenL l ↔ ∃ k, k < 40 ∧ hasE (rawE l k) = true ∧ e = ((rAt (rawE l k) : Int) - 288, (rLen (rawE l k) : Int)) := by
  unfold takenL entriesL entsL
  simp only [List.map_map, List.mem_map, List.mem_filter, List.mem_range, Function.comp_apply, takeX]
  constructor
  · rintro ⟨k, ⟨h1, h2⟩, rfl⟩; exact ⟨k, h1, h2, rfl⟩
  · rintro ⟨k, h1, h2, rfl⟩; exact ⟨k, ⟨h1, h2⟩, rfl⟩
theorem overE_hit {r s : Bytes} (h : overE r s = false) : hitX ((rAt r : Int) - 288, (rLen r : Int)) ((rAt s : Int) - 288, (rLen s : Int)) = false := by
  rw [hitX_false]
  unfold overE at h
  simp only [Bool.and_eq_false_iff, decide_eq_false_iff_not] at h
  dsimp only
  omega
/-- the extents of a right image are right -/
theorem good_chk {l : Bytes} (hg : Good l) : chkX ((l.length : Int) - 288) (takenL l) = 0 := by
  have hb := hg.bd
  refine chkX_of (by omega) (by omega) (by have := takenL_len l; omega) (fun e he => ?_) ?_
  · obtain ⟨k, hk, hh, rfl⟩ := takenL_mem.1 he
    have := strayE_false (hg.s.fit k hk hh)
    exact badX_of (by dsimp only; omega)
  · unfold takenL entriesL entsL
    rw [List.map_map, List.pairwise_map]
    have hp : (List.range 40).Pairwise (fun a b => a < b) := List.pairwise_lt_range
    have hf := hp.filter (fun k => hasE (rawE l k))
    refine hf.imp_of_mem ?_
    intro a b ha hb' hab
    have ha := List.mem_filter.1 ha
    have hb2 := List.mem_filter.1 hb'
    have h1 := List.mem_range.1 hb2.1
    have := hg.s.apart b h1 a hab hb2.2 ha.2
    rw [overE_symm] at this
    exact overE_hit this
/-- what lies behind the head is not the head's -/
theorem rawE_tail (l x : Bytes) (o j : Nat) (ho : 288 ≤ o) (hx : o + x.length ≤ l.length) (hj : j < 40) : rawE (splice l o x) j = rawE l j := by
  apply List.ext_getElem?
  intro q
  unfold rawE
  rw [List.getElem?_take, List.getElem?_drop, List.getElem?_take, List.getElem?_drop]
  by_cases hq : q < 5
  · rw [if_pos hq, if_pos hq, splice_at _ _ _ _ hx, if_neg (by omega)]
  · rw [if_neg hq, if_neg hq]
theorem rawR_tail (l x : Bytes) (o j : Nat) (ho : 288 ≤ o) (hx : o + x.length ≤ l.length) (hj : j < 8) : rawR (splice l o x) j = rawR l j := by
  apply List.ext_getElem?
  intro q
  unfold rawR
  rw [List.getElem?_take, List.getElem?_drop, List.getElem?_take, List.getElem?_drop]
  by_cases hq : q < 11
  · rw [if_pos hq, if_pos hq, splice_at _ _ _ _ hx, if_neg (by omega)]
  · rw [if_neg hq, if_neg hq]
theorem rawE_root (l x : Bytes) (i j : Nat) (hx : x.length = 11) (hi : i < 8) (hj : j < 40) (hl : 288 ≤ l.length) : rawE (splice l (200 + 11 * i) x) j = rawE l j := by
  apply List.ext_getElem?
  intro q
  unfold rawE
  rw [List.getElem?_take, List.getElem?_drop, List.getElem?_take, List.getElem?_drop]
  by_cases hq : q < 5
  · rw [if_pos hq, if_pos hq, splice_at _ _ _ _ (by omega), if_neg (by omega)]
  · rw [if_neg hq, if_neg hq]
/-- bytes that are cut out elsewhere -/
theorem cut_splice (l x : Bytes) (o a m : Nat) (hx : o + x.length ≤ l.length) (h : a + m ≤ o ∨ o + x.length ≤ a) : ((splice l o x).drop a).take m = (l.drop a).take m := by
  apply List.ext_getElem?
  intro q
  rw [List.getElem?_take, List.getElem?_drop, List.getElem?_take, List.getElem?_drop]
  by_cases hq : q < m
  · rw [if_pos hq, if_pos hq, splice_at _ _ _ _ hx, if_neg (by omega)]
  · rw [if_neg hq, if_neg hq]
theorem cut_splice_in (l x : Bytes) (o a m : Nat) (hx : o + x.length ≤ l.length) (h1 : o ≤ a) (h2 : a + m ≤ o + x.length) : ((splice l o x).drop a).take m = (x.drop (a - o)).take m := by
  apply List.ext_getElem?
  intro q
  rw [List.getElem?_take, List.getElem?_drop, List.getElem?_take, List.getElem?_drop]
  by_cases hq : q < m
  · rw [if_pos hq, if_pos hq, splice_at _ _ _ _ hx, if_pos (by omega)]
    congr 1; omega
  · rw [if_neg hq, if_neg hq]
theorem zeros_cut (n a m : Nat) (h : a + m ≤ n) : ((List.replicate n (0 : UInt8)).drop a).take m = List.replicate m 0 := by
  rw [List.drop_replicate, List.take_replicate]; congr 1; omega
/-- an image of nothing -/
theorem good_zero {n : Nat} (h : rightB n = true) : Good (List.replicate n 0) := by
  have hb := rightB_true.1 h
  have hE : ∀ k, k < 40 → rawE (List.replicate n 0) k = List.replicate 5 0 := fun k hk => zeros_cut n (5 * k) 5 (by omega)
  have hR : ∀ i, i < 8 → rawR (List.replicate n 0) i = List.replicate 11 0 := fun i hi => zeros_cut n (200 + 11 * i) 11 (by omega)
  refine good_iff.2 ⟨by rw [List.length_replicate]; exact h, ⟨fun k hk _ => by rw [hE k hk]; exact zeros_zero 5, fun k hk hh => ?_, fun k hk j hj hh _ => ?_, fun i hi hz => ?_, fun i hi j hj hz _ => ?_⟩⟩
  · rw [hE k hk, zeros_has] at hh; cases hh
  · rw [hE k hk, zeros_has] at hh; cases hh
  · rw [hR i hi, zeros_zero] at hz; cases hz
  · rw [hR i hi, zeros_zero] at hz; cases hz
/-- what Alloc makes of an image -/
structure AllocIs (l l' : Bytes) (k a n t : Nat) : Prop where
  k40 : k < 40
  none : hasE (rawE l k) = false
  least : ∀ i, i < k → hasE (rawE l i) = true
  a0 : 288 ≤ a
  a1 : a + n ≤ l.length
  n0 : 1 ≤ n
  n1 : n ≤ 1000
  t1 : t ≤ 15
  len : l'.length = l.length
  ents : ∀ j, j < 40 → rawE l' j = if j = k then entB a n t else rawE l j
  rots : ∀ i, i < 8 → rawR l' i = rawR l i
  apart : ∀ j, j < 40 → hasE (rawE l j) = true → a + n ≤ rAt (rawE l j) ∨ rAt (rawE l j) + rLen (rawE l j) ≤ a
  zero : (l'.drop a).take n = List.replicate n 0
  rest : ∀ b m, 288 ≤ b → b + m ≤ a ∨ a + n ≤ b → (l'.drop b).take m = (l.drop b).take m
theorem alloc_is {l : Bytes} (hg : Good l) {n t : Int} (h0 : allocE l n t = 0) : ∃ k a n' t' : Nat, n = n' ∧ t = t' ∧ allocH l n t = (k : Int) + 1 ∧ allocA l n = a ∧ AllocIs l (allocL l n t) k a n' t' := by
  have hb := hg.bd
  have hE := h0
  unfold allocE at hE
  by_cases hbad : lenB n = false ∨ tagB t = false
  · rw [if_pos hbad] at hE; cases hE
  · rw [if_neg hbad] at hE
    by_cases hz : fH l 40 = 0 ∨ fitE ((l.length : Int) - 288) (takenL l) n ≠ 0
    · rw [if_pos hz] at hE; cases hE
    · have hn := lenB_true.1 (show lenB n = true by cases hx : lenB n <;> simp_all)
      have ht := tagB_true.1 (show tagB t = true by cases hx : tagB t <;> simp_all)
      have hf : fitE ((l.length : Int) - 288) (takenL l) n = 0 := by omega
      obtain ⟨i1, i2⟩ := alloc_in hf
      rcases fH_spec l 40 (Nat.le_refl _) with ⟨h, _⟩ | ⟨k, k1, k2, k3, k4, k5⟩
      · omega
      obtain ⟨a, ha⟩ := Int.eq_ofNat_of_zero_le (show 0 ≤ allocA l n by omega)
      obtain ⟨n', rfl⟩ := Int.eq_ofNat_of_zero_le (show 0 ≤ n by omega)
      obtain ⟨t', rfl⟩ := Int.eq_ofNat_of_zero_le (show 0 ≤ t by omega)
      have hL : allocL l n' t' = splice (splice l (5 * k) (entB a n' t')) a (List.replicate n' 0) := by
        unfold allocL
        rw [if_pos h0, ha, k3]
        unfold putEnt
        rw [show ((k + 1 : Nat) : Int) = (k : Int) + 1 by omega, entO_k]
        rfl
      have hl1 : (splice l (5 * k) (entB a n' t')).length = l.length := splice_len _ _ _ (by rw [entB_len]; omega)
      have hl2 : (allocL l n' t').length = l.length := by rw [hL, splice_len _ _ _ (by rw [hl1]; simp; omega), hl1]
      refine ⟨k, a, n', t', rfl, rfl, by unfold allocH; rw [if_pos h0, k3]; omega, ha, ⟨k2, k4, fun i hi => k5 i (by omega) hi, by omega, by omega, by omega, by omega, by omega, hl2, fun j hj => ?_, fun i hi => ?_, fun j hj hh => ?_, ?_, fun b m hb0 hbm => ?_⟩⟩
      · rw [hL, rawE_tail _ _ _ _ (by omega) (by rw [hl1]; simp; omega) hj]
        exact rawE_splice l (entB a n' t') k j (entB_len _ _ _) k2 hj (by omega)
      · rw [hL, rawR_tail _ _ _ _ (by omega) (by rw [hl1]; simp; omega) hi]
        exact rawR_head l _ _ _ (by rw [entB_len]; omega) (by omega)
      · have hc := good_chk hg
        obtain ⟨L, m1, m2, m3, _, _⟩ := fit_some hc hf
        have h4 := (holes_mem hc _ m1).2.2.2 _ (takenL_mem.2 ⟨j, hj, hh, rfl⟩)
        unfold allocA at ha
        dsimp only at h4
        omega
      · rw [hL, cut_splice_in _ _ _ _ _ (by rw [hl1]; simp; omega) (by omega) (by simp), Nat.sub_self, List.drop_zero, List.take_of_length_le (by simp)]
      · rw [hL, cut_splice _ _ _ _ _ (by rw [hl1]; simp; omega) (by simpa using hbm), cut_splice _ _ _ _ _ (by rw [entB_len]; omega) (by rw [entB_len]; omega)]
theorem AllocIs.ent {l l' : Bytes} {k a n t : Nat} (h : AllocIs l l' k a n t) (hb : l.length ≤ 6400) : hasE (rawE l' k) = true ∧ rAt (rawE l' k) = a ∧ rLen (rawE l' k) = n ∧ rTag (rawE l' k) = t := by
  rw [h.ents k h.k40, if_pos rfl]
  exact entB_rd a n t (by have := h.a1; omega) (by have := h.n1; omega) h.t1
theorem AllocIs.good {l l' : Bytes} {k a n t : Nat} (h : AllocIs l l' k a n t) (hg : Good l) : Good l' := by
  have hb := hg.bd
  obtain ⟨e1, e2, e3, e4⟩ := entB_rd a n t (by have := h.a1; omega) (by have := h.n1; omega) h.t1
  refine good_iff.2 ⟨by rw [h.len]; exact hg.len, ?_⟩
  rw [h.len]
  have h1 : GoodS l.length (rawE l') (rawR l) := by
    refine hg.s.putE k h.k40 (entB a n t) h.ents e1 ?_ (fun j hj _ hh => ?_)
    · unfold strayE
      rw [e2, e3, e4, tagB_true.2 ⟨by omega, by have := h.t1; omega⟩, lenB_true.2 ⟨by have := h.n0; omega, by have := h.n1; omega⟩, withinB_true.2 ⟨by have := h.a0; omega, by have := h.a1; omega, by have := h.a1; omega⟩]
      rfl
    · have := h.apart j hj hh
      unfold overE
      rw [e2, e3]
      simp only [Bool.and_eq_false_iff, decide_eq_false_iff_not]
      omega
  exact h1.putR 0 (rawR l 0) (fun j hj => by rw [h.rots j hj]; split <;> simp_all) (by
    cases hz : zeroE (rawR l 0) with
    | true => exact .inl rfl
    | false => exact .inr ⟨h1.root 0 (by omega) hz, fun j hj hne hz' => (h1.name j hj 0 (by omega) hz' hz).symm⟩)
theorem alloc_good {l : Bytes} (hg : Good l) (n t : Int) : Good (allocL l n t) := by
  by_cases h0 : allocE l n t = 0
  · obtain ⟨k, a, n', t', _, _, _, _, h⟩ := alloc_is hg h0
    exact h.good hg
  · have : allocL l n t = l := by unfold allocL; rw [if_neg h0]
    rw [this]; exact hg
theorem rootsL_mem {l : Bytes} {x : Bytes × Nat} : x ∈ rootsL l ↔ ∃ i, i < 8 ∧ zeroE (rawR l i) = false ∧ x = rootP (rawR l i) := by
  unfold rootsL rootsF
  simp only [List.mem_map, List.mem_filter, List.mem_range, Bool.not_eq_true']
  constructor
  · rintro ⟨i, ⟨h1, h2⟩, rfl⟩; exact ⟨i, h1, h2, rfl⟩
  · rintro ⟨i, h1, h2, rfl⟩; exact ⟨i, ⟨h1, h2⟩, rfl⟩
/-- what Free makes of an image -/
structure FreeIs (l l' : Bytes) (k : Nat) : Prop where
  k40 : k < 40
  has : hasE (rawE l k) = true
  len : l'.length = l.length
  ents : ∀ j, j < 40 → rawE l' j = if j = k then List.replicate 5 0 else rawE l j
  rots : ∀ i, i < 8 → rawR l' i = rawR l i
  nol : ∀ i, i < 8 → zeroE (rawR l i) = false → ((rawR l i).getD 10 0).toNat ≠ k + 1
  rest : ∀ b m, 288 ≤ b → (l'.drop b).take m = (l.drop b).take m
theorem free_is {l : Bytes} (hg : Good l) {x : Int} (h0 : freeE l x = 0) : ∃ k : Nat, x = (k : Int) + 1 ∧ FreeIs l (freeL l x) k := by
  have hb := hg.bd
  have hQ := h0
  unfold freeE at hQ
  by_cases hx : hE l x = 0
  · rw [if_neg (by simp [hx])] at hQ
    obtain ⟨k, hk, rfl, hh, _⟩ := hE_zero hx
    have hno : (rootsL l).any (fun r => (r.2 : Int) == (k : Int) + 1) = false := by
      cases ha : (rootsL l).any (fun r => (r.2 : Int) == (k : Int) + 1) with
      | false => rfl
      | true => rw [ha] at hQ; simp at hQ
    have hL : freeL l ((k : Int) + 1) = splice l (5 * k) (List.replicate 5 0) := by
      unfold freeL
      rw [if_pos h0, show ((k : Int) + 1 - 1).toNat = k by omega]
    rw [List.any_eq_false] at hno
    refine ⟨k, rfl, ⟨hk, hh, by rw [hL]; exact splice_len _ _ _ (by simp; omega), fun j hj => ?_, fun i hi => ?_, fun i hi hz => ?_, fun b m hb0 => ?_⟩⟩
    · rw [hL]; exact rawE_splice l _ k j (by simp) hk hj (by omega)
    · rw [hL]; exact rawR_head l _ _ _ (by simp; omega) (by omega)
    · have h1 := hno _ (rootsL_mem.2 ⟨i, hi, hz, rfl⟩)
      simp only [rootP, beq_iff_eq] at h1
      omega
    · rw [hL]; exact cut_splice _ _ _ _ _ (by simp; omega) (by simp; omega)
  · rw [if_pos hx] at hQ; exact absurd hQ hx
theorem FreeIs.good {l l' : Bytes} {k : Nat} (h : FreeIs l l' k) (hg : Good l) : Good l' := by
  refine good_iff.2 ⟨by rw [h.len]; exact hg.len, ?_⟩
  rw [h.len]
  have h1 : GoodS l.length (rawE l') (rawR l) := hg.s.dropE k h.k40 h.ents h.nol
  exact h1.putR 0 (rawR l 0) (fun j hj => by rw [h.rots j hj]; split <;> simp_all) (by
    cases hz : zeroE (rawR l 0) with
    | true => exact .inl rfl
    | false => exact .inr ⟨h1.root 0 (by omega) hz, fun j hj hne hz' => (h1.name j hj 0 (by omega) hz' hz).symm⟩)
theorem free_good {l : Bytes} (hg : Good l) (x : Int) : Good (freeL l x) := by
  by_cases h0 : freeE l x = 0
  · obtain ⟨k, _, h⟩ := free_is hg h0
    exact h.good hg
  · have : freeL l x = l := by unfold freeL; rw [if_neg h0]
    rw [this]; exact hg
end Go.Proofs.YthlflklamgdkfaaDoor
/- HeapFull: the plain law, and the walk. -/
namespace Go.Proofs.YthlflklamgdkfaaDoor
open Go.RowKit

theorem holes_two {n : Int} {l : List Ext} (h : chkX n l = 0) {x y : Ext} (hx : x ∈ holesX n l) (hy : y ∈ holesX n l) : x = y ∨ x.1 + x.2 ≤ y.1 ∨ y.1 + y.2 ≤ x.1 := by
  have hp := runs_pair (tidy_of h)
  rw [← holes_runs, List.pairwise_iff_getElem] at hp
  obtain ⟨i, hi, rfl⟩ := List.getElem_of_mem hx
  obtain ⟨j, hj, rfl⟩ := List.getElem_of_mem hy
  rcases Nat.lt_trichotomy i j with hij | rfl | hij
  · exact .inr (.inl (hp i j hi hj hij))
  · exact .inl rfl
  · exact .inr (.inr (hp j i hj hi hij))
/-- an image of so many objects, all of the same size, one behind the other -/
structure PackIs (s k : Nat) (l : Bytes) : Prop where
  good : Good l
  len : l.length = 6400
  s1 : 1 ≤ s
  s2 : s ≤ 150
  k40 : k ≤ 40
  ents : ∀ j, j < k → rawE l j = entB (288 + j * s) s 0
  none : ∀ j, k ≤ j → j < 40 → rawE l j = List.replicate 5 0
  rots : ∀ i, i < 8 → rawR l i = List.replicate 11 0
section
variable {s k : Nat} {l : Bytes}
theorem PackIs.ent (h : PackIs s k l) (j : Nat) (hj : j < k) : hasE (rawE l j) = true ∧ rAt (rawE l j) = 288 + j * s ∧ rLen (rawE l j) = s ∧ rTag (rawE l j) = 0 := by
  have h1 : j * s ≤ 40 * 150 := Nat.mul_le_mul (by have := h.k40; omega) h.s2
  rw [h.ents j hj]
  have := entB_rd (288 + j * s) s 0 (by omega) (by have := h.s2; omega) (by omega)
  exact this
theorem PackIs.nent (h : PackIs s k l) (j : Nat) (hj : k ≤ j) (h40 : j < 40) : hasE (rawE l j) = false := by rw [h.none j hj h40]; exact zeros_has
theorem PackIs.taken (h : PackIs s k l) {e : Ext} (he : e ∈ takenL l) : ∃ j : Nat, j < k ∧ e.1 = (j : Int) * s ∧ e.2 = s := by
  obtain ⟨j, hj, hh, rfl⟩ := takenL_mem.1 he
  by_cases hjk : j < k
  · obtain ⟨_, a, b, _⟩ := h.ent j hjk
    refine ⟨j, hjk, ?_, by dsimp only; rw [b]⟩
    dsimp only
    rw [a]
    have : ((288 + j * s : Nat) : Int) = 288 + (j : Int) * s := by rw [Int.natCast_add, Int.natCast_mul]; rfl
    omega
  · rw [h.nent j (by omega) hj] at hh; cases hh
theorem PackIs.mem (h : PackIs s k l) (j : Nat) (hj : j < k) : ((j : Int) * s, (s : Int)) ∈ takenL l := by
  obtain ⟨a, b, c, _⟩ := h.ent j hj
  refine takenL_mem.2 ⟨j, by have := h.k40; omega, a, ?_⟩
  rw [b, c]
  have : ((288 + j * s : Nat) : Int) = 288 + (j : Int) * s := by rw [Int.natCast_add, Int.natCast_mul]; rfl
  rw [this]
  congr 1; omega
/-- what is free begins where the last one ends -/
theorem PackIs.hole (h : PackIs s k l) {x : Ext} (hx : x ∈ holesX 6112 (takenL l)) : (k : Int) * s ≤ x.1 := by
  have hc := good_chk h.good
  rw [h.len] at hc
  have hm := holes_mem (show chkX 6112 (takenL l) = 0 from hc) x hx
  have hs : (0 : Int) < s := by have := h.s1; omega
  refine Classical.byContradiction fun hlt => ?_
  have hlt : x.1 < (k : Int) * s := by omega
  obtain ⟨X, hX⟩ := Int.eq_ofNat_of_zero_le hm.1
  have hj : X / s < k := by
    rw [Nat.div_lt_iff_lt_mul (by have := h.s1; omega)]
    have : (X : Int) < ((k * s : Nat) : Int) := by rw [Int.natCast_mul]; omega
    omega
  have hd := hm.2.2.2 _ (h.mem (X / s) hj)
  dsimp only at hd
  have e1 : X / s * s ≤ X := Nat.div_mul_le_self X s
  have e2 : X < (X / s + 1) * s := by
    have := Nat.lt_div_mul_add (a := X) (b := s) (by have := h.s1; omega)
    rw [Nat.add_mul]; omega
  have e1' : ((X / s : Nat) : Int) * s ≤ X := by rw [← Int.natCast_mul]; omega
  have e2' : (X : Int) < ((X / s : Nat) : Int) * s + s := by
    rw [← Int.natCast_mul]
    rw [Nat.add_mul] at e2
    omega
  omega
theorem PackIs.ks (h : PackIs s k l) : (k : Int) * s ≤ 6000 := by
  have : k * s ≤ 40 * 150 := Nat.mul_le_mul h.k40 h.s2
  rw [← Int.natCast_mul]; omega
theorem PackIs.fh (h : PackIs s k l) (hk : k < 40) : fH l 40 = k + 1 := by
  rcases fH_spec l 40 (Nat.le_refl _) with ⟨_, hall⟩ | ⟨q, _, k2, k3, k4, k5⟩
  · have := hall k (by omega) hk
    rw [h.nent k (Nat.le_refl _) hk] at this; cases this
  · rw [k3]
    rcases Nat.lt_trichotomy q k with hq | rfl | hq
    · rw [(h.ent q hq).1] at k4; cases k4
    · rfl
    · have := k5 k (by omega) hq
      rw [h.nent k (Nat.le_refl _) hk] at this; cases this
theorem PackIs.step (h : PackIs s k l) (hk : k < 40) : allocE l s 0 = 0 ∧ allocH l s 0 = (k : Int) + 1 ∧ PackIs s (k + 1) (allocL l s 0) := by
  have hc := good_chk h.good
  have h6 : ((l.length : Int) - 288) = 6112 := by rw [h.len]; rfl
  rw [h6] at hc
  have hks : (k : Int) * s + s ≤ 6000 := by
    have : (k + 1) * s ≤ 40 * 150 := Nat.mul_le_mul (by omega) h.s2
    rw [Nat.add_mul] at this
    rw [← Int.natCast_mul]; omega
  have hs1 := h.s1
  have hs2 := h.s2
  have hlast : ∀ e ∈ takenL l, e.1 + e.2 ≤ (k : Int) * s := fun e he => by
    obtain ⟨j, hj, e1, e2⟩ := h.taken he
    rw [e1, e2]
    have : (j + 1) * s ≤ k * s := Nat.mul_le_mul_right s (by omega)
    rw [Nat.add_mul] at this
    rw [← Int.natCast_mul, ← Int.natCast_mul]; omega
  have hf : fitE 6112 (takenL l) s = 0 := fit_exists hc (p := (k : Int) * s) (by rw [← Int.natCast_mul]; omega) (by omega) (by omega) (fun e he => .inr (hlast e he))
  have hE : allocE l s 0 = 0 := by
    unfold allocE
    rw [if_neg (by rw [lenB_true.2 ⟨by omega, by omega⟩]; decide), h6, if_neg (by rw [h.fh hk, hf]; omega)]
  obtain ⟨q, a, n', t', hn, ht, hH, hA, hi⟩ := alloc_is h.good hE
  obtain rfl : n' = s := by omega
  obtain rfl : t' = 0 := by omega
  have hH2 : allocH l n' 0 = (k : Int) + 1 := by unfold allocH; rw [if_pos hE, h.fh hk]; omega
  have hqk : q = k := by omega
  subst hqk
  have ha : (a : Int) = 288 + (q : Int) * n' := by
    obtain ⟨L, m1, _⟩ := fit_some hc hf
    obtain ⟨y, y1, y2, y3⟩ := run_cover (tidy_of hc) (p := (q : Int) * n') (s := 6112 - (q : Int) * n') (by rw [← Int.natCast_mul]; omega) (by omega) (by omega) (fun e he => .inr (hlast e ((sortE_perm _).mem_iff.1 he)))
    rw [← holes_runs] at y1
    have g1 := h.hole y1
    have g2 := h.hole m1
    have hm1 := holes_mem hc _ m1
    unfold allocA at hA
    rw [h6] at hA
    dsimp only at g2 hm1
    rcases holes_two hc m1 y1 with e | e | e
    · have := congrArg Prod.fst e
      dsimp only at this
      omega
    · dsimp only at e; omega
    · dsimp only at e; omega
  have ha' : a = 288 + q * n' := by
    have : ((288 + q * n' : Nat) : Int) = 288 + (q : Int) * n' := by rw [Int.natCast_add, Int.natCast_mul]; rfl
    omega
  refine ⟨hE, hH2, ⟨hi.good h.good, by rw [hi.len]; exact h.len, hs1, hs2, by omega, fun j hj => ?_, fun j hj h40 => ?_, fun i hi8 => by rw [hi.rots i hi8]; exact h.rots i hi8⟩⟩
  · rw [hi.ents j (by omega)]
    by_cases hjq : j = q
    · rw [if_pos hjq, ha', hjq]
    · rw [if_neg hjq]; exact h.ents j (by omega)
  · rw [hi.ents j h40, if_neg (by omega)]
    exact h.none j (by omega) h40
theorem PackIs.full (h : PackIs s 40 l) : allocE l 1 0 = 4 := by
  have : fH l 40 = 0 := by
    rcases fH_spec l 40 (Nat.le_refl _) with ⟨h0, _⟩ | ⟨q, _, k2, k3, k4, k5⟩
    · exact h0
    · rw [(h.ent q k2).1] at k4; cases k4
  unfold allocE
  rw [if_neg (by decide), if_pos (.inl this)]
theorem PackIs.again (h : PackIs s 40 l) (f : Nat) (hf : f < 40) : freeE l ((f : Int) + 1) = 0 ∧ freeE (freeL l ((f : Int) + 1)) ((f : Int) + 1) = 5 ∧ freeL (freeL l ((f : Int) + 1)) ((f : Int) + 1) = freeL l ((f : Int) + 1) ∧
    allocE (freeL l ((f : Int) + 1)) s 3 = 0 ∧ allocH (freeL l ((f : Int) + 1)) s 3 = (f : Int) + 1 ∧ hE (allocL (freeL l ((f : Int) + 1)) s 3) ((f : Int) + 1) = 0 ∧ gT (allocL (freeL l ((f : Int) + 1)) s 3) ((f : Int) + 1) = 3 := by
  have hs1 := h.s1
  have hs2 := h.s2
  have hro : rootsL l = [] := by
    refine List.eq_nil_iff_forall_not_mem.2 fun x hx => ?_
    obtain ⟨i, hi, hz, _⟩ := rootsL_mem.1 hx
    rw [h.rots i hi, zeros_zero] at hz; cases hz
  have hE0 := (hE_has hf (h.ent f hf).1).1
  have hF : freeE l ((f : Int) + 1) = 0 := by
    unfold freeE
    rw [if_neg (by rw [hE0]; simp), hro]; rfl
  obtain ⟨q, hq, hi⟩ := free_is h.good hF
  obtain rfl : q = f := by omega
  have hg2 := hi.good h.good
  have hlen2 : (freeL l ((q : Int) + 1)).length = 6400 := by rw [hi.len]; exact h.len
  generalize freeL l ((q : Int) + 1) = l2 at *
  have hn2 : hasE (rawE l2 q) = false := by rw [hi.ents q hf, if_pos rfl]; exact zeros_has
  have hE5 := hE_hasnt hf hn2
  have hF2 : freeE l2 ((q : Int) + 1) = 5 := by unfold freeE; rw [if_pos (by rw [hE5]; simp), hE5]
  have hL2 : freeL l2 ((q : Int) + 1) = l2 := by unfold freeL; rw [if_neg (by rw [hF2]; simp)]
  have hent : ∀ j, j < 40 → j ≠ q → hasE (rawE l2 j) = true ∧ rAt (rawE l2 j) = 288 + j * s ∧ rLen (rawE l2 j) = s := fun j hj hne => by
    rw [hi.ents j hj, if_neg hne]
    obtain ⟨a, b, c, _⟩ := h.ent j hj
    exact ⟨a, b, c⟩
  have hfh : fH l2 40 = q + 1 := by
    rcases fH_spec l2 40 (Nat.le_refl _) with ⟨_, hall⟩ | ⟨r, _, k2, k3, k4, k5⟩
    · have := hall q (by omega) hf
      rw [hn2] at this; cases this
    · rw [k3]
      by_cases hr : r = q
      · rw [hr]
      · rw [(hent r k2 hr).1] at k4; cases k4
  have hc := good_chk hg2
  have h6 : ((l2.length : Int) - 288) = 6112 := by rw [hlen2]; rfl
  rw [h6] at hc
  have hq40 : q * s + s ≤ 40 * 150 := by
    have := Nat.mul_le_mul (show q + 1 ≤ 40 by omega) hs2
    rw [Nat.add_mul] at this; omega
  have hfit : fitE 6112 (takenL l2) s = 0 := by
    refine fit_exists hc (p := ((q * s : Nat) : Int)) (by omega) (by omega) (by omega) (fun e he => ?_)
    obtain ⟨j, hj, hh, rfl⟩ := takenL_mem.1 he
    by_cases hjq : j = q
    · rw [hjq, hn2] at hh; cases hh
    · obtain ⟨_, b, c⟩ := hent j hj hjq
      dsimp only
      rw [b, c]
      rcases Nat.lt_or_gt_of_ne hjq with hlt | hgt
      · right
        have := Nat.mul_le_mul_right s (show j + 1 ≤ q by omega)
        rw [Nat.add_mul] at this; omega
      · left
        have := Nat.mul_le_mul_right s (show q + 1 ≤ j by omega)
        rw [Nat.add_mul] at this; omega
  have hAE : allocE l2 s 3 = 0 := by
    unfold allocE
    rw [if_neg (by rw [lenB_true.2 ⟨by omega, by omega⟩]; decide), h6, if_neg (by rw [hfh, hfit]; omega)]
  have hAH : allocH l2 s 3 = (q : Int) + 1 := by unfold allocH; rw [if_pos hAE, hfh]; omega
  obtain ⟨r, a, n', t', hn, ht, hH, hA, hI⟩ := alloc_is hg2 hAE
  obtain rfl : r = q := by omega
  obtain ⟨x1, x2, x3, x4⟩ := hI.ent (by omega)
  obtain ⟨y1, y2⟩ := hE_has hf x1
  refine ⟨hF, hF2, hL2, hAE, hAH, y1, ?_⟩
  unfold gT
  rw [if_pos y1, y2, x4]; omega
theorem pack_zero (hs : 1 ≤ s) (hs2 : s ≤ 150) : PackIs s 0 (List.replicate 6400 0) :=
  ⟨good_zero rfl, List.length_replicate, hs, hs2, by omega, fun j hj => by omega, fun j _ hj => zeros_cut 6400 (5 * j) 5 (by omega), fun i hi => zeros_cut 6400 (200 + 11 * i) 11 (by omega)⟩
end
set_option maxRecDepth 100000 in
theorem heapFull_walk (s f : Int) (w : World) (hg : HasType w) :
    Calls Tryd.prog 5 #[.int .i64 s, .int .i64 f] w fun e w' => e = .returned (.bool true) ∧ Below w.heap.size w w' := by
  have HG := Hidden.mk hg
  have HN := Hidden.mk (hnew_ok 6400 w (by decide))
  rw [show ((6400 : Nat) : Int) = 6400 from rfl] at HN
  clear hg
  go_enter Tryd.func5, Tryd.ntmps5
  go_wp2_with fail
  refine HN.out.mono ?_
  rintro e w1 ⟨h, F, rfl, hp⟩
  have HP := Hidden.mk hp
  clear hp HN
  by_cases h1 : s < 1
  · have d1 : decide (s < 1) = true := by simpa using h1
    clear h1
    go_wp2_with fail
    go_ret
    exact ⟨rfl, HP.out.bel⟩
  have d1 : decide (s < 1) = false := by simpa using h1
  by_cases h2 : 150 < s
  · have d2 : decide (150 < s) = true := by simpa using h2
    clear h1 h2
    go_wp2_with fail
    go_ret
    exact ⟨rfl, HP.out.bel⟩
  have d2 : decide (150 < s) = false := by simpa using h2
  obtain ⟨n, rfl⟩ := Int.eq_ofNat_of_zero_le (show 0 ≤ s by omega)
  have HPK := Hidden.mk (pack_zero (s := n) (by omega) (by omega))
  go_wp2_with fail
  clear d1 d2 h1 h2
  go_loopg [7] 40 (fun q i wr => ∃ (k : Nat) (F : Nat → Prop) (l : Bytes), k ≤ 40 ∧ q = 40 - k ∧ i = .int .i64 ((k : Int) + 1) ∧ Hidden (Hp w wr F h l ∧ PackIs n k l))
  case atStart => exact ⟨0, F, _, by omega, rfl, rfl, ⟨HP.out, HPK.out⟩⟩
  case round =>
    obtain ⟨k, F, l, hk, rfl, rfl, hst⟩ := hrel
    by_cases hlt : k < 40
    · obtain ⟨s1, s2, s3⟩ := hst.out.2.step hlt
      have HC := Hidden.mk (halloc_any (n : Int) 0 hst.out.1)
      rw [s1, s2, show errV 0 = Value.nilIface from rfl] at HC
      have HS := Hidden.mk s3
      have t0 : decide ((k : Int) + 1 ≤ 40) = true := by simp; omega
      have q1 : IntKind.i64.wrap ((k : Int) + 1 + 1) = (k : Int) + 1 + 1 := IntWalk.i64_in _ (by omega)
      clear s1 s2 s3 hst
      go_wp2_with fail
      refine HC.out.mono ?_
      rintro e w2 ⟨rfl, F2, hm⟩
      have HM := Hidden.mk hm.hp
      clear hm HC
      go_wp2_with fail
      go_roundg (40 - (k + 1))
      case measure => omega
      case rel => exact ⟨k + 1, F2, _, by omega, rfl, by go_num, ⟨HM.out, HS.out⟩⟩
    · obtain rfl : k = 40 := by omega
      have hE4 := hst.out.2.full
      have hL4 : allocL l 1 0 = l := by unfold allocL; rw [hE4]; rfl
      have HC := Hidden.mk (halloc_any 1 0 hst.out.1)
      rw [hE4, hL4] at HC
      have HPI := Hidden.mk hst.out.2
      have t0 : decide (((40 : Nat) : Int) + 1 ≤ 40) = false := by decide
      clear hE4 hL4 hst HP HPK
      go_wp2_with fail
      refine HC.out.mono ?_
      rintro e w2 ⟨rfl, F2, hm⟩
      have HM := Hidden.mk hm.hp
      have HERR := Hidden.mk (err_any 4 4 w2 (HG.out.below HG.out.lt hm.hp.bel))
      clear hm HC t0
      go_wp2_with fail
      refine HERR.out.mono ?_
      rintro e w3 ⟨rfl, hb⟩
      have HM := Hidden.mk (HM.out.below hb)
      rw [show (((4 : Nat) : Int) == 4) = true from rfl]
      clear hb HERR
      by_cases g1 : f < 1
      · have d1 : decide (f < 1) = true := by simpa using g1
        clear g1
        go_wp2_with fail
        go_ret
        exact ⟨rfl, HM.out.bel⟩
      have d1 : decide (f < 1) = false := by simpa using g1
      by_cases g2 : 40 < f
      · have d2 : decide (40 < f) = true := by simpa using g2
        clear g1 g2
        go_wp2_with fail
        go_ret
        exact ⟨rfl, HM.out.bel⟩
      have d2 : decide (40 < f) = false := by simpa using g2
      obtain ⟨j, rfl⟩ : ∃ j : Nat, f = (j : Int) + 1 := ⟨(f - 1).toNat, by omega⟩
      obtain ⟨a1, a2, a3, a4, a5, a6, a7⟩ := HPI.out.again j (by omega)
      have HA := Hidden.mk (And.intro a2 (And.intro a3 (And.intro a4 (And.intro a5 (And.intro a6 a7)))))
      have HC := Hidden.mk (hfree_any ((j : Int) + 1) HM.out)
      rw [a1, show errV 0 = Value.nilIface from rfl] at HC
      generalize freeL l ((j : Int) + 1) = l2 at *
      clear a1 a2 a3 a4 a5 a6 a7 g1 g2 HM
      go_wp2_with fail
      refine HC.out.mono ?_
      rintro e w4 ⟨rfl, F4, hm⟩
      have HC2 := Hidden.mk (hfree_any ((j : Int) + 1) hm.hp)
      rw [HA.out.1, HA.out.2.1] at HC2
      clear hm HC d1 d2
      go_wp2_with fail
      refine HC2.out.mono ?_
      rintro e w5 ⟨rfl, F5, hm⟩
      have HM := Hidden.mk hm.hp
      have HERR := Hidden.mk (err_any 5 5 w5 (HG.out.below HG.out.lt hm.hp.bel))
      clear hm HC2
      go_wp2_with fail
      refine HERR.out.mono ?_
      rintro e w6 ⟨rfl, hb⟩
      rw [show (((5 : Nat) : Int) == 5) = true from rfl]
      have HC3 := Hidden.mk (halloc_any (n : Int) 3 (HM.out.below hb))
      rw [HA.out.2.2.1, HA.out.2.2.2.1, show errV 0 = Value.nilIface from rfl] at HC3
      clear hb HERR HM
      go_wp2_with fail
      refine HC3.out.mono ?_
      rintro e w7 ⟨rfl, F7, hm⟩
      have HT := Hidden.mk (htag_any ((j : Int) + 1) hm.hp)
      rw [HA.out.2.2.2.2.1, HA.out.2.2.2.2.2, show errV 0 = Value.nilIface from rfl] at HT
      have HB := Hidden.mk hm.hp.bel
      clear hm HC3
      go_wp2_with fail
      refine HT.out.mono ?_
      rintro e w8 ⟨rfl, hb⟩
      have HB := Hidden.mk (HB.out.trans (hb.mono HB.out.size))
      clear hb HT
      go_wp2_with fail
      go_ret
      exact ⟨rfl, HB.out⟩
end Go.Proofs.YthlflklamgdkfaaDoor
