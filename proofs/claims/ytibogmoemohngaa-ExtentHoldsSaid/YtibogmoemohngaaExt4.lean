/- The contract of extent.Stat. -/
import Derived.Test.YtibogmoemohngaaExt3
namespace Go.Proofs.Ytibogmoemohngaa
open Go.RowKit

def statV (o u f m r : Int) : Value := .agg #[.int .i64 o, .int .i64 u, .int .i64 f, .int .i64 m, .int .i64 r]
def sumX (l : List Ext) : Int := l.foldl (fun s e => s + e.2) 0
def mostX (H : List Ext) : Int := H.foldl (fun s e => max s e.2) 0
theorem sumX_succ (l : List Ext) (k : Nat) (hk : k < l.length) : sumX (l.take (k + 1)) = sumX (l.take k) + l[k].2 := by
  unfold sumX; rw [List.take_succ_eq_append_getElem hk, List.foldl_append]; rfl
theorem mostX_succ (l : List Ext) (k : Nat) (hk : k < l.length) : mostX (l.take (k + 1)) = max (mostX (l.take k)) l[k].2 := by
  unfold mostX; rw [List.take_succ_eq_append_getElem hk, List.foldl_append]; rfl
theorem sumX_bd (l : List Ext) (h : OkX l) : ∀ k, k ≤ l.length → 0 ≤ sumX (l.take k) ∧ sumX (l.take k) ≤ 6400 * k
  | 0, _ => by simp [sumX]
  | k + 1, hk => by
    have ih := sumX_bd l h k (by omega)
    have := h l[k] (List.getElem_mem (by omega))
    rw [sumX_succ l k (by omega)]
    omega
/-- what Stat says -/
def statX (n : Int) (l : List Ext) : Value := if chkX n l = 0 then statV l.length (sumX l) (n - sumX l) (mostX (holesX n l)) (holesX n l).length else statV 0 0 0 0 0
set_option maxRecDepth 100000 in
theorem xstat_any (n : Int) (A : Option Addr) (m c : Nat) (l : List Ext) (w : World) (hl : l.length = m) (hmc : m ≤ c) (hr : RdX tcells 2 w A l) :
    Calls Try.prog 15 #[.int .i64 n, .slice A m c] w fun e w' => e = .returned (.tuple #[statX n l, errV (chkX n l)]) ∧ Below w.heap.size w w' := by
  have HC : Hidden (∀ W, Below w.heap.size w W → Calls Try.prog 14 #[.int .i64 n, .slice A m c] W fun e w' => e = .returned (errV (chkX n l)) ∧ Below W.heap.size W w') := ⟨fun W hW => xcheck_any n A m c l W hl hmc (hr.below hW)⟩
  have HB0 : Hidden (Below w.heap.size w (w.alloc (.cells #[.int .i64 0, .int .i64 0, .int .i64 0, .int .i64 0, .int .i64 0] 44))) := ⟨(Below.refl _ _).alloc (Nat.le_refl _) _⟩
  have HBK0 : Hidden ((w.alloc (.cells #[.int .i64 0, .int .i64 0, .int .i64 0, .int .i64 0, .int .i64 0] 44)).heap[w.heap.size]? = some (.cells #[.int .i64 0, .int .i64 0, .int .i64 0, .int .i64 0, .int .i64 0] 44 (0, 0))) := ⟨heap_alloc_new w _⟩
  have HSX : Hidden (statX n l = if chkX n l = 0 then statV l.length (sumX l) (n - sumX l) (mostX (holesX n l)) (holesX n l).length else statV 0 0 0 0 0) := ⟨rfl⟩
  by_cases h0 : chkX n l = 0
  · obtain ⟨o0, o1, o2, o3, -⟩ := chkX_ok h0
    have HH : Hidden (∀ W, Below w.heap.size w W → Calls Try.prog 41 #[.int .i64 n, .slice A m c] W fun e w' => ∃ v, e = .returned v ∧ w'.ownsRow W.heap.size 38 2 v (holesX n l).length ((holesX n l).flatMap tcells) ∧ Below W.heap.size W w') := ⟨fun W hW => xholes_any n A m c l W o0 o1 hl (by omega) (hr.below hW) o3⟩
    have hHl := holesX_len n l
    rw [h0] at HC
    rw [show errV 0 = Value.nilIface from rfl] at HC
    have hsx := HSX.out
    rw [if_pos h0] at hsx
    rw [hsx, h0, show errV 0 = Value.nilIface from rfl]
    have HR := Hidden.mk hr
    have HO := Hidden.mk o3
    have HL := Hidden.mk hl
    have hm200 : m ≤ 200 := by omega
    generalize holesX n l = H at *
    clear HSX hsx h0 hr o3 hl
    unfold statV
    go_enter Try.func15, Try.ntmps15
    go_wp2_with fail
    generalize w.alloc (.cells #[.int .i64 0, .int .i64 0, .int .i64 0, .int .i64 0, .int .i64 0] 44) = w0 at *
    refine (HC.out _ HB0.out).mono ?_
    rintro e w1 ⟨rfl, hb1⟩
    have hlt : w.heap.size < w0.heap.size := (Array.getElem?_eq_some_iff.1 HBK0.out).1
    have hal : Below w1.heap.size w1 (w1.alloc (.cells #[.int .i64 m, .int .i64 0, .int .i64 0, .int .i64 0, .int .i64 0] 44)) := (Below.refl _ _).alloc (Nat.le_refl _) _
    have hB1 := HB0.out.trans (hb1.mono HB0.out.size)
    have hlt1 : w.heap.size < w1.heap.size := Nat.lt_of_lt_of_le hlt hb1.size
    have HST : Hidden (Below w.heap.size w (w1.alloc (.cells #[.int .i64 m, .int .i64 0, .int .i64 0, .int .i64 0, .int .i64 0] 44)) ∧ (w1.alloc (.cells #[.int .i64 m, .int .i64 0, .int .i64 0, .int .i64 0, .int .i64 0] 44)).heap[w.heap.size]? = some (.cells #[.int .i64 0, .int .i64 0, .int .i64 0, .int .i64 0, .int .i64 0] 44 (0, 0)) ∧ (w1.alloc (.cells #[.int .i64 m, .int .i64 0, .int .i64 0, .int .i64 0, .int .i64 0] 44)).heap[w1.heap.size]? = some (.cells #[.int .i64 m, .int .i64 0, .int .i64 0, .int .i64 0, .int .i64 0] 44 (0, 0))) :=
      ⟨hB1.trans (hal.mono hB1.size), (hal.block _ hlt1).trans ((hb1.block _ hlt).trans HBK0.out), heap_alloc_new w1 _⟩
    clear hb1 hal hB1 hlt
    go_wp2_with fail
    generalize w1.alloc (.cells #[.int .i64 m, .int .i64 0, .int .i64 0, .int .i64 0, .int .i64 0] 44) = w2 at *
    generalize w1.heap.size = sb at *
    go_loopg [24] m (fun q i wr => ∃ (k : Nat) (u : Int), k ≤ m ∧ q = m - k ∧ i = .int .i64 (k : Int) ∧ 0 ≤ u ∧ u ≤ 6400 * k ∧ Hidden (sumX (l.take k) = u ∧ Below w.heap.size w wr ∧ wr.heap[w.heap.size]? = some (.cells #[.int .i64 0, .int .i64 0, .int .i64 0, .int .i64 0, .int .i64 0] 44 (0, 0)) ∧ wr.heap[sb]? = some (.cells #[.int .i64 m, .int .i64 u, .int .i64 0, .int .i64 0, .int .i64 0] 44 (0, 0))))
    case atStart => exact ⟨0, 0, by omega, rfl, rfl, by omega, by omega, ⟨rfl, HST.out⟩⟩
    case round =>
      obtain ⟨k, u, hk, rfl, rfl, hu0, hu1, hst⟩ := hrel
      by_cases hlt : k < m
      · have hkl : k < l.length := by have := HL.out; omega
        obtain ⟨p, off, rfl, hcx⟩ := (HR.out.below hst.out.2.1) k hkl
        have c0 := hcx 0 _ rfl
        have c1 := hcx 1 _ rfl
        rw [Nat.add_zero] at c0
        have HS := Hidden.mk (sumX_succ l k hkl)
        rw [hst.out.1] at HS
        have hb := HO.out l[k] (List.getElem_mem hkl)
        generalize l[k] = e at *
        obtain ⟨e1, e2⟩ := e
        dsimp only at c0 c1 HS hb
        obtain ⟨b0, b1, b2⟩ := hb
        have hal : Below wr.heap.size wr (wr.alloc (.cells #[.int .i64 e1, .int .i64 e2] 38)) := (Below.refl _ _).alloc (Nat.le_refl _) _
        have HN : Hidden (Below w.heap.size w (wr.alloc (.cells #[.int .i64 e1, .int .i64 e2] 38)) ∧ (wr.alloc (.cells #[.int .i64 e1, .int .i64 e2] 38)).heap[w.heap.size]? = some (.cells #[.int .i64 0, .int .i64 0, .int .i64 0, .int .i64 0, .int .i64 0] 44 (0, 0)) ∧ (wr.alloc (.cells #[.int .i64 e1, .int .i64 e2] 38)).heap[sb]? = some (.cells #[.int .i64 m, .int .i64 u, .int .i64 0, .int .i64 0, .int .i64 0] 44 (0, 0))) :=
          ⟨hst.out.2.1.trans (hal.mono hst.out.2.1.size), (hal.block _ (Array.getElem?_eq_some_iff.1 hst.out.2.2.1).1).trans hst.out.2.2.1, (hal.block _ (Array.getElem?_eq_some_iff.1 hst.out.2.2.2).1).trans hst.out.2.2.2⟩
        have hbk := HN.out.2.2
        have z1 : (wr.alloc (.cells #[.int .i64 e1, .int .i64 e2] 38)).cell? ⟨sb, 1, none⟩ = some (.int .i64 u) := by simp [World.cell?, hbk]
        have hfz : ∀ q, (wr.alloc (.cells #[.int .i64 e1, .int .i64 e2] 38)).frozen? ⟨sb, q, none⟩ = false := fun q => frozen_of_row _ sb q _ _ hbk
        have HNE : Hidden (w.heap.size ≠ sb) := ⟨by omega⟩
        have HN2 : Hidden (Below w.heap.size w ((wr.alloc (.cells #[.int .i64 e1, .int .i64 e2] 38)).setCell ⟨sb, 1, none⟩ (.int .i64 (u + e2))) ∧ ((wr.alloc (.cells #[.int .i64 e1, .int .i64 e2] 38)).setCell ⟨sb, 1, none⟩ (.int .i64 (u + e2))).heap[w.heap.size]? = some (.cells #[.int .i64 0, .int .i64 0, .int .i64 0, .int .i64 0, .int .i64 0] 44 (0, 0)) ∧ ((wr.alloc (.cells #[.int .i64 e1, .int .i64 e2] 38)).setCell ⟨sb, 1, none⟩ (.int .i64 (u + e2))).heap[sb]? = some (.cells #[.int .i64 m, .int .i64 (u + e2), .int .i64 0, .int .i64 0, .int .i64 0] 44 (0, 0))) :=
          ⟨HN.out.1.setCell (p := ⟨sb, 1, none⟩) (by simp; omega) _, (Below.heap_setCell _ _ _ _ HNE.out).trans HN.out.2.1, heap_setK HN.out.2.2 _⟩
        have s1 : IntKind.i64.wrap (u + e2) = u + e2 := IntWalk.i64_in _ (by omega)
        have s3 : IntKind.i64.wrap ((k : Int) + 1) = (k : Int) + 1 := IntWalk.i64_in _ (by omega)
        have hne : wr.heap.size ≠ sb := by have := (Array.getElem?_eq_some_iff.1 hst.out.2.2.2).1; omega
        have k0 : (0 : Int) ≤ k := by omega
        have k1 : (k : Int) < m := by omega
        clear hcx hal hbk HN hst
        go_wp2_with fail
        go_roundg (m - (k + 1))
        case measure => omega
        case rel => exact ⟨k + 1, u + e2, by omega, rfl, by go_num, by omega, by omega, ⟨HS.out, HN2.out⟩⟩
      · obtain rfl : k = m := by omega
        have hsu := hst.out.1
        rw [List.take_of_length_le (by have := HL.out; omega)] at hsu
        have HSU := Hidden.mk hsu
        have hbk := hst.out.2.2.2
        have z1 : wr.cell? ⟨sb, 1, none⟩ = some (.int .i64 u) := by simp [World.cell?, hbk]
        have z2 : wr.cell? ⟨sb, 2, none⟩ = some (.int .i64 0) := by simp [World.cell?, hbk]
        have hfz : ∀ q, wr.frozen? ⟨sb, q, none⟩ = false := fun q => frozen_of_row _ sb q _ _ hbk
        have s1 : IntKind.i64.wrap (n - u) = n - u := IntWalk.i64_in _ (by omega)
        have HNE : Hidden (w.heap.size ≠ sb) := ⟨by omega⟩
        have H2 : Hidden (Below w.heap.size w (wr.setCell ⟨sb, 2, none⟩ (.int .i64 (n - u))) ∧ (wr.setCell ⟨sb, 2, none⟩ (.int .i64 (n - u))).heap[w.heap.size]? = some (.cells #[.int .i64 0, .int .i64 0, .int .i64 0, .int .i64 0, .int .i64 0] 44 (0, 0)) ∧ (wr.setCell ⟨sb, 2, none⟩ (.int .i64 (n - u))).heap[sb]? = some (.cells #[.int .i64 k, .int .i64 u, .int .i64 (n - u), .int .i64 0, .int .i64 0] 44 (0, 0))) :=
          ⟨hst.out.2.1.setCell (p := ⟨sb, 2, none⟩) (by simp; omega) _, (Below.heap_setCell _ _ _ _ HNE.out).trans hst.out.2.2.1, heap_setK hbk _⟩
        clear hsu hbk hst HST
        go_wp2_with fail
        generalize wr.setCell ⟨sb, 2, none⟩ (.int .i64 (n - u)) = w5 at *
        refine (HH.out _ H2.out.1).mono ?_
        rintro e w6 ⟨v, rfl, hown, hb6⟩
        have H6 : Hidden (Below w.heap.size w w6 ∧ w6.heap[w.heap.size]? = some (.cells #[.int .i64 0, .int .i64 0, .int .i64 0, .int .i64 0, .int .i64 0] 44 (0, 0)) ∧ w6.heap[sb]? = some (.cells #[.int .i64 k, .int .i64 u, .int .i64 (n - u), .int .i64 0, .int .i64 0] 44 (0, 0)) ∧ w6.ownsRow w5.heap.size 38 2 v H.length (H.flatMap tcells) ∧ sb < w5.heap.size ∧ w.heap.size < w5.heap.size) :=
          ⟨H2.out.1.trans (hb6.mono H2.out.1.size), (hb6.block _ (Array.getElem?_eq_some_iff.1 H2.out.2.1).1).trans H2.out.2.1, (hb6.block _ (Array.getElem?_eq_some_iff.1 H2.out.2.2).1).trans H2.out.2.2, hown, (Array.getElem?_eq_some_iff.1 H2.out.2.2).1, (Array.getElem?_eq_some_iff.1 H2.out.2.1).1⟩
        obtain ⟨A3, c3, rfl, hc3, -⟩ := own_split hown
        clear hown hb6 H2 HH HC z1 z2 hfz HR
        generalize hhl : H.length = hl at *
        have HHL := Hidden.mk hhl
        clear hhl
        go_wp2_with fail
        go_loopg [44] hl (fun q i wr => ∃ (j : Nat) (x : Int), j ≤ hl ∧ q = hl - j ∧ i = .int .i64 (j : Int) ∧ Hidden (mostX (H.take j) = x ∧ Below w.heap.size w wr ∧ wr.heap[w.heap.size]? = some (.cells #[.int .i64 0, .int .i64 0, .int .i64 0, .int .i64 0, .int .i64 0] 44 (0, 0)) ∧ wr.heap[sb]? = some (.cells #[.int .i64 k, .int .i64 u, .int .i64 (n - u), .int .i64 x, .int .i64 j] 44 (0, 0)) ∧ wr.ownsRow w5.heap.size 38 2 (.slice A3 hl c3) hl (H.flatMap tcells)))
        case atStart => exact ⟨0, 0, by omega, rfl, rfl, ⟨rfl, H6.out.1, H6.out.2.1, H6.out.2.2.1, H6.out.2.2.2.1⟩⟩
        case round =>
          obtain ⟨j, x, hj, rfl, rfl, hst⟩ := hrel
          by_cases hlt2 : j < hl
          · have hjH : j < H.length := by have := HHL.out; omega
            obtain ⟨g, off, rfl, hgb, hgl, hcx⟩ := own_at tcells_len hst.out.2.2.2.2 j hjH (by omega)
            have c0 := hcx 0 _ rfl
            have c1 := hcx 1 _ rfl
            simp only [Nat.add_zero] at c0
            have HS := Hidden.mk (mostX_succ H j hjH)
            rw [hst.out.1] at HS
            generalize H[j] = e at *
            obtain ⟨e1, e2⟩ := e
            dsimp only at c0 c1 HS
            have hal : Below wr.heap.size wr (wr.alloc (.cells #[.int .i64 e1, .int .i64 e2] 38)) := (Below.refl _ _).alloc (Nat.le_refl _) _
            have hsbl := (Array.getElem?_eq_some_iff.1 hst.out.2.2.2.1).1
            have hbk := (hal.block _ hsbl).trans hst.out.2.2.2.1
            have HWE : Hidden ((wr.alloc (.cells #[.int .i64 e1, .int .i64 e2] 38)).heap[w.heap.size]? = some (.cells #[.int .i64 0, .int .i64 0, .int .i64 0, .int .i64 0, .int .i64 0] 44 (0, 0)) ∧ Below w.heap.size w (wr.alloc (.cells #[.int .i64 e1, .int .i64 e2] 38)) ∧ (wr.alloc (.cells #[.int .i64 e1, .int .i64 e2] 38)).ownsRow w5.heap.size 38 2 (.slice (some ⟨g, off, none⟩) hl c3) hl (H.flatMap tcells)) := ⟨(hal.block _ (Array.getElem?_eq_some_iff.1 hst.out.2.2.1).1).trans hst.out.2.2.1, hst.out.2.1.trans (hal.mono hst.out.2.1.size), own_below hst.out.2.2.2.2 hal⟩
            have z3 : (wr.alloc (.cells #[.int .i64 e1, .int .i64 e2] 38)).cell? ⟨sb, 3, none⟩ = some (.int .i64 x) := by simp [World.cell?, hbk]
            have z4 : (wr.alloc (.cells #[.int .i64 e1, .int .i64 e2] 38)).cell? ⟨sb, 4, none⟩ = some (.int .i64 (j : Int)) := by simp [World.cell?, hbk]
            have hfz : ∀ q, (wr.alloc (.cells #[.int .i64 e1, .int .i64 e2] 38)).frozen? ⟨sb, q, none⟩ = false := fun q => frozen_of_row _ sb q _ _ hbk
            have s3 : IntKind.i64.wrap ((j : Int) + 1) = (j : Int) + 1 := IntWalk.i64_in _ (by omega)
            have HBK := Hidden.mk hbk
            have hne : wr.heap.size ≠ sb := by omega
            have k0 : (0 : Int) ≤ j := by omega
            have k1 : (j : Int) < hl := by omega
            have HSB : Hidden (w.heap.size ≤ sb ∧ sb < w5.heap.size) := ⟨by omega, H6.out.2.2.2.2.1⟩
            clear hcx hal hbk hst H6 hsbl
            have HN3 : Hidden ((((wr.alloc (.cells #[.int .i64 e1, .int .i64 e2] 38)).setCell ⟨sb, 3, none⟩ (.int .i64 (max x e2))).heap[sb]? = some (.cells #[.int .i64 k, .int .i64 u, .int .i64 (n - u), .int .i64 (max x e2), .int .i64 j] 44 (0, 0)))) := ⟨heap_setK HBK.out _⟩
            have z4' : ((wr.alloc (.cells #[.int .i64 e1, .int .i64 e2] 38)).setCell ⟨sb, 3, none⟩ (.int .i64 (max x e2))).cell? ⟨sb, 4, none⟩ = some (.int .i64 (j : Int)) := by simp only [World.cell?, HN3.out]; rfl
            have HN4 : Hidden (Below w.heap.size w (((wr.alloc (.cells #[.int .i64 e1, .int .i64 e2] 38)).setCell ⟨sb, 3, none⟩ (.int .i64 (max x e2))).setCell ⟨sb, 4, none⟩ (.int .i64 ((j : Int) + 1))) ∧ (((wr.alloc (.cells #[.int .i64 e1, .int .i64 e2] 38)).setCell ⟨sb, 3, none⟩ (.int .i64 (max x e2))).setCell ⟨sb, 4, none⟩ (.int .i64 ((j : Int) + 1))).heap[w.heap.size]? = some (.cells #[.int .i64 0, .int .i64 0, .int .i64 0, .int .i64 0, .int .i64 0] 44 (0, 0)) ∧ (((wr.alloc (.cells #[.int .i64 e1, .int .i64 e2] 38)).setCell ⟨sb, 3, none⟩ (.int .i64 (max x e2))).setCell ⟨sb, 4, none⟩ (.int .i64 ((j : Int) + 1))).heap[sb]? = some (.cells #[.int .i64 k, .int .i64 u, .int .i64 (n - u), .int .i64 (max x e2), .int .i64 ((j : Int) + 1)] 44 (0, 0)) ∧ (((wr.alloc (.cells #[.int .i64 e1, .int .i64 e2] 38)).setCell ⟨sb, 3, none⟩ (.int .i64 (max x e2))).setCell ⟨sb, 4, none⟩ (.int .i64 ((j : Int) + 1))).ownsRow w5.heap.size 38 2 (.slice (some ⟨g, off, none⟩) hl c3) hl (H.flatMap tcells)) :=
              ⟨(HWE.out.2.1.setCell (p := ⟨sb, 3, none⟩) HSB.out.1 _).setCell (p := ⟨sb, 4, none⟩) HSB.out.1 _, (Below.heap_setCell _ _ _ _ HNE.out).trans ((Below.heap_setCell _ _ _ _ HNE.out).trans HWE.out.1), heap_setK HN3.out _,
                ownsRow_block HWE.out.2.2 fun q hq => (Below.heap_setCell _ _ _ _ (fun e => by have := (HWE.out.2.2.lt q hq).1; have := HSB.out.2; simp at e; omega)).trans (Below.heap_setCell _ _ _ _ (fun e => by have := (HWE.out.2.2.lt q hq).1; have := HSB.out.2; simp at e; omega))⟩
            clear HN3 HWE HBK
            go_wp2_with fail
            go_roundg (hl - (j + 1))
            case measure => omega
            case rel => exact ⟨j + 1, max x e2, by omega, rfl, by go_num, ⟨HS.out, HN4.out.1, HN4.out.2.1, HN4.out.2.2.1, HN4.out.2.2.2⟩⟩
          · obtain rfl : j = hl := by omega
            have hmx := hst.out.1
            rw [List.take_of_length_le (by have := HHL.out; omega)] at hmx
            have HMX := Hidden.mk hmx
            have hbk := hst.out.2.2.2.1
            have hrk := hst.out.2.2.1
            have y0 : ∀ q, wr.frozen? ⟨w.heap.size, q, none⟩ = false := fun q => frozen_of_row _ _ q _ _ hrk
            have z0 : wr.cell? ⟨sb, 0, none⟩ = some (.int .i64 k) := by simp [World.cell?, hbk]
            have z1 : wr.cell? ⟨sb, 1, none⟩ = some (.int .i64 u) := by simp [World.cell?, hbk]
            have z2 : wr.cell? ⟨sb, 2, none⟩ = some (.int .i64 (n - u)) := by simp [World.cell?, hbk]
            have z3 : wr.cell? ⟨sb, 3, none⟩ = some (.int .i64 x) := by simp [World.cell?, hbk]
            have z4 : wr.cell? ⟨sb, 4, none⟩ = some (.int .i64 (j : Int)) := by simp [World.cell?, hbk]
            have r0 : wr.cell? ⟨w.heap.size, 0, none⟩ = some (.int .i64 0) := by simp [World.cell?, hrk]
            have r1 : wr.cell? ⟨w.heap.size, 1, none⟩ = some (.int .i64 0) := by simp [World.cell?, hrk]
            have r2 : wr.cell? ⟨w.heap.size, 2, none⟩ = some (.int .i64 0) := by simp [World.cell?, hrk]
            have r3 : wr.cell? ⟨w.heap.size, 3, none⟩ = some (.int .i64 0) := by simp [World.cell?, hrk]
            have r4 : wr.cell? ⟨w.heap.size, 4, none⟩ = some (.int .i64 0) := by simp [World.cell?, hrk]
            have HB := Hidden.mk hst.out.2.1
            have HF : Hidden ((l.length : Int) = k ∧ sumX l = u ∧ mostX H = x ∧ (H.length : Int) = j) := ⟨by rw [HL.out], HSU.out, HMX.out, by rw [HHL.out]⟩
            clear hmx hbk hrk hst H6
            go_wp2_with fail
            refine bodyPost_ret (v := .tuple #[.agg #[.int .i64 k, .int .i64 u, .int .i64 (n - u), .int .i64 x, .int .i64 (j : Int)], .nilIface]) ?_ rfl ?_
            · rw [results_cell_tmp rfl]
              go_simp
            · refine ⟨by rw [HF.out.1, HF.out.2.1, HF.out.2.2.1, HF.out.2.2.2], ((((HB.out.setCell (p := ⟨w.heap.size, 0, none⟩) (Nat.le_refl _) _).setCell (p := ⟨w.heap.size, 1, none⟩) (Nat.le_refl _) _).setCell (p := ⟨w.heap.size, 2, none⟩) (Nat.le_refl _) _).setCell (p := ⟨w.heap.size, 3, none⟩) (Nat.le_refl _) _).setCell (p := ⟨w.heap.size, 4, none⟩) (Nat.le_refl _) _⟩
  · have hsx := HSX.out
    rw [if_neg h0] at hsx
    rw [hsx]
    have hev : errV (chkX n l) = .iface 78 (.int .i64 (chkX n l)) := by unfold errV; rw [if_neg h0]
    rw [hev] at HC ⊢
    unfold statV
    generalize chkX n l = q at *
    clear h0 hev HSX hsx hr hl
    go_enter Try.func15, Try.ntmps15
    go_wp2_with fail
    generalize w.alloc (.cells #[.int .i64 0, .int .i64 0, .int .i64 0, .int .i64 0, .int .i64 0] 44) = w0 at *
    refine (HC.out _ HB0.out).mono ?_
    rintro e w1 ⟨rfl, hb1⟩
    have hlt : w.heap.size < w0.heap.size := (Array.getElem?_eq_some_iff.1 HBK0.out).1
    have hbk := (hb1.block _ hlt).trans HBK0.out
    have HB1 := Hidden.mk (HB0.out.trans (hb1.mono HB0.out.size))
    have y0 : ∀ q, w1.frozen? ⟨w.heap.size, q, none⟩ = false := fun q => frozen_of_row _ _ q _ _ hbk
    have z0 : w1.cell? ⟨w.heap.size, 0, none⟩ = some (.int .i64 0) := by simp [World.cell?, hbk]
    have z1 : w1.cell? ⟨w.heap.size, 1, none⟩ = some (.int .i64 0) := by simp [World.cell?, hbk]
    have z2 : w1.cell? ⟨w.heap.size, 2, none⟩ = some (.int .i64 0) := by simp [World.cell?, hbk]
    have z3 : w1.cell? ⟨w.heap.size, 3, none⟩ = some (.int .i64 0) := by simp [World.cell?, hbk]
    have z4 : w1.cell? ⟨w.heap.size, 4, none⟩ = some (.int .i64 0) := by simp [World.cell?, hbk]
    clear hb1 hlt hbk
    go_wp2_with fail
    refine bodyPost_ret (v := .tuple #[.agg #[.int .i64 0, .int .i64 0, .int .i64 0, .int .i64 0, .int .i64 0], .iface 78 (.int .i64 q)]) ?_ rfl ?_
    · rw [results_cell_tmp rfl]
      go_simp
    · exact ⟨rfl, ((((HB1.out.setCell (p := ⟨w.heap.size, 0, none⟩) (Nat.le_refl _) _).setCell (p := ⟨w.heap.size, 1, none⟩) (Nat.le_refl _) _).setCell (p := ⟨w.heap.size, 2, none⟩) (Nat.le_refl _) _).setCell (p := ⟨w.heap.size, 3, none⟩) (Nat.le_refl _) _).setCell (p := ⟨w.heap.size, 4, none⟩) (Nat.le_refl _) _⟩
end Go.Proofs.Ytibogmoemohngaa
