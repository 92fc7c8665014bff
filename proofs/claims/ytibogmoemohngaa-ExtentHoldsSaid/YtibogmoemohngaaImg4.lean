/- image.find and image.Get: an entry read back. -/
import Derived.Test.YtibogmoemohngaaCheckP
import Derived.Deep.RegionHeld3
namespace Go.Proofs.Ytibogmoemohngaa
open Go.RowKit

theorem rawE_len (l : Bytes) (k : Nat) (hk : k < 40) (hn : 200 ≤ l.length) : (rawE l k).length = 5 := by
  unfold rawE; simp; omega
theorem rawE_rd {w : World} {A : Option Addr} {l : Bytes} (h : Rd w A l) (k : Nat) (hk : k < 40) (hn : 200 ≤ l.length) : Rd w (A.map (·.add (5 * k))) (rawE l k) := h.cut (5 * k) 5 (by omega)
/-- the handle's number -/
theorem entO_k (k : Nat) : entO ((k : Int) + 1) = 5 * k := by unfold entO; omega
/-- the entry that stands in five bytes -/
def entR (h : Int) (r : Bytes) : Value := entV h (rAt r) (rLen r) (rTag r)

set_option maxRecDepth 100000 in
theorem find_ok (A : Option Addr) (n c : Nat) (l : Bytes) (k : Nat) (w : World) (hn : l.length = n) (hl : 200 ≤ n) (hnc : n ≤ c) (hrd : Rd w A l) (hk : k < 40) :
    Calls Try.prog 50 #[.slice A n c, .int .i64 ((k : Int) + 1)] w fun e w' => e = .returned (.tuple #[entR ((k : Int) + 1) (rawE l k), .bool (hasE (rawE l k))]) ∧ Below w.heap.size w w' := by
  have hW : Below w.heap.size w (w.alloc (.cells #[.int .i64 0, .int .i64 0, .int .i64 0, .int .i64 0] 49)) := (Below.refl _ _).alloc (Nat.le_refl _) _
  have hR := rawE_rd (hrd.below hW) k hk (by omega)
  have hRl := rawE_len l k hk (by omega)
  obtain ⟨p, off, rfl, hpl⟩ := hrd.lt (by omega)
  rw [Option.map_some, Addr.add_lit] at hR
  have hP := entO_k k
  go_enter Try.func50, Try.ntmps50
  go_wp2_with fail
  refine (raw_any _ _ _ ((k : Int) + 1) _ (by omega) (by omega) hl hnc).mono ?_
  rintro e w' ⟨rfl, rfl⟩
  rw [Option.map_some, Addr.add_lit, hP]
  generalize hrr : rawE l k = r at *
  have h0 := hR.at_ 0 (by omega)
  have hR1 := hR.cut 1 2 (by omega)
  have hR3 := hR.cut 3 2 (by omega)
  rw [Option.map_some, Addr.add_lit] at hR1 hR3
  rw [Nat.add_zero] at h0
  have hw0 : IntKind.i64.wrap (((r[0]'(by omega)).toNat : Int)) = ((r[0]'(by omega)).toNat : Int) := IntWalk.i64_in _ (by have := u8_lt (r[0]'(by omega)); omega)
  have hw1 : IntKind.i64.wrap (((r[0]'(by omega)).toNat : Int) - 1) = ((r[0]'(by omega)).toNat : Int) - 1 := IntWalk.i64_in _ (by have := u8_lt (r[0]'(by omega)); omega)
  have hd1 : ((r.drop 1).take 2).length = 2 := by simp; omega
  have hd3 : ((r.drop 3).take 2).length = 2 := by simp; omega
  have H1 : Hidden (ofB ((r.drop 1).take 2) = rAt r) := ⟨rfl⟩
  have H3 : Hidden (ofB ((r.drop 3).take 2) = rLen r) := ⟨rfl⟩
  have HH : Hidden (r[0]'(by omega) = rHd r) := ⟨by unfold rHd; cases r with | nil => simp at hRl | cons x y => rfl⟩
  have c1 := fun (cap : Nat) (W : World) (hb : Below (w.heap.size + 1) (w.alloc (.cells #[.int .i64 0, .int .i64 0, .int .i64 0, .int .i64 0] 49)) W) => of_any (some ⟨p, off + 5 * k + 1, none⟩) 2 cap ((r.drop 1).take 2) W hd1 (by omega) (hR1.below (by simpa using hb))
  have c3 := fun (cap : Nat) (W : World) (hb : Below (w.heap.size + 1) (w.alloc (.cells #[.int .i64 0, .int .i64 0, .int .i64 0, .int .i64 0] 49)) W) => of_any (some ⟨p, off + 5 * k + 3, none⟩) 2 cap ((r.drop 3).take 2) W hd3 (by omega) (hR3.below (by simpa using hb))
  have C1 := Hidden.mk c1
  have C3 := Hidden.mk c3
  clear c1 c3 hR hR1 hR3 hrd hW
  generalize r[0]'(by omega) = hd at *
  go_wp2_with fail
  have hq1 : ¬ c - 5 * k = 1 := by omega
  have hq3 : ¬ c - 5 * k = 3 := by omega
  have hq5 : 5 ≤ c - 5 * k := by omega
  have hq4 : 3 ≤ c - 5 * k := by omega
  have hS : Hidden (∀ W : World, Below (w.heap.size) (w.alloc (.cells #[.int .i64 0, .int .i64 0, .int .i64 0, .int .i64 0] 49)) W → W.cell? ⟨p, off + 5 * k, none⟩ = some (bv hd)) := ⟨fun W hb => (hb.cell (p := ⟨p, off + 5 * k, none⟩) hpl).trans h0⟩
  have hsl1 := run_cut p (off + 5 * k) 5 (c - 5 * k) 1 3 (by omega) (by omega) (by omega)
  have hsl3 := run_cut p (off + 5 * k) 5 (c - 5 * k) 3 5 (by omega) (by omega) (by omega)
  simp only [Nat.reduceSub, Int.cast_ofNat_Int] at hsl1 hsl3
  have hw : w.cell? ⟨p, off + 5 * k, none⟩ = some (bv hd) := (World.cell?_alloc_lt w _ ⟨p, off + 5 * k, none⟩ hpl).symm.trans h0
  have HRR := Hidden.mk hrr
  clear hn hl hnc hk hP hrr hRl hd1 hd3
  go_region_held3 (fun W => W.cell? ⟨p, off + 5 * k, none⟩ = some (bv hd)) (first | exact hS.out _ (Below.refl _ _).drew | exact h0 | exact (World.cell?_alloc_lt _ _ _ hpl).trans hw)
    (first
      | (go_at_call 93; refine (C1.out _ _ ((Below.refl _ _).drew)).mono ?_; clear C1; rintro e w' ⟨rfl, rfl⟩)
      | (go_at_call 93; refine (C3.out _ _ ((Below.refl _ _).drew)).mono ?_; clear C3; rintro e w' ⟨rfl, rfl⟩))
  go_wp2_with fail
  refine bodyPost_ret (v := .tuple #[.agg #[.int .i64 ((k : Int) + 1), .int .i64 (ofB (List.take 2 (List.tail r))), .int .i64 (ofB (List.take 2 (List.drop 3 r))), .int .i64 ((hd.toNat : Int) - 1)], .bool ((hd.toNat : Int) != 0)]) ?_ rfl ?_
  · simp [results, Try.f50, go_sem]
  · refine ⟨?_, ((Below.refl _ _).alloc (Nat.le_refl _) _).drew⟩
    have h1 := H1.out
    have h3 := H3.out
    rw [List.drop_one] at h1
    rw [h1, h3, HRR.out]
    unfold entR entV hasE rTag
    rw [← HH.out, bv_bne]
    rfl
set_option maxRecDepth 100000 in
theorem iget_ok (A : Option Addr) (n c : Nat) (l : Bytes) (k : Nat) (w : World) (hn : l.length = n) (hr : rightB n = true) (hnc : n ≤ c) (hrd : Rd w A l) (hk : k < 40) :
    Calls Try.prog 17 #[.slice A n c, .int .i64 ((k : Int) + 1)] w fun e w' => (hasE (rawE l k) = true → e = .returned (.tuple #[entR ((k : Int) + 1) (rawE l k), .nilIface])) ∧ (hasE (rawE l k) = false → e = .returned (.tuple #[entV 0 0 0 0, .iface 78 (.int .i64 5)])) ∧ Below w.heap.size w w' := by
  have hnb := rightB_true.1 hr
  have hh : handleB ((k : Int) + 1) = true := handleB_true.2 (by omega)
  have hW : Below w.heap.size w (w.alloc (.cells #[.int .i64 0, .int .i64 0, .int .i64 0, .int .i64 0] 49)) := (Below.refl _ _).alloc (Nat.le_refl _) _
  have hrd1 := hrd.below hW
  go_enter Try.func17, Try.ntmps17
  go_wp2_with fail
  refine (check_ok A n c ((k : Int) + 1) _ hr hh).mono ?_
  rintro e w1 ⟨rfl, rfl⟩
  go_wp2_with fail
  refine (find_ok A n c l k _ hn (by omega) hnc hrd1 hk).mono ?_
  rintro e w2 ⟨rfl, hb2⟩
  have hB2 : Below w.heap.size w w2 := hW.trans (hb2.mono hW.size)
  have hc0 : w2.heap[w.heap.size]? = some (.cells #[.int .i64 0, .int .i64 0, .int .i64 0, .int .i64 0] 49 (0, 0)) := (hb2.block w.heap.size (by simp)).trans (heap_alloc_new w _)
  have d0 : w2.cell? ⟨w.heap.size, 0, none⟩ = some (.int .i64 0) := by simp [World.cell?, hc0]
  have d1 : w2.cell? ⟨w.heap.size, 1, none⟩ = some (.int .i64 0) := by simp [World.cell?, hc0]
  have d2 : w2.cell? ⟨w.heap.size, 2, none⟩ = some (.int .i64 0) := by simp [World.cell?, hc0]
  have d3 : w2.cell? ⟨w.heap.size, 3, none⟩ = some (.int .i64 0) := by simp [World.cell?, hc0]
  have f0 : ∀ q, w2.frozen? ⟨w.heap.size, q, none⟩ = false := fun q => by simp [World.frozen?, hc0]
  have f00 := f0 0
  have f01 := f0 1
  have f02 := f0 2
  have f03 := f0 3
  have hlt2 : w.heap.size < w2.heap.size := (Array.getElem?_eq_some_iff.1 hc0).1
  have hne2 : w2.heap.size ≠ w.heap.size := by omega
  have hne3 : w.heap.size ≠ w2.heap.size := by omega
  unfold entR
  cases hE : hasE (rawE l k) with
  | true =>
    generalize ha1 : rAt (rawE l k) = a1 at *
    generalize ha2 : rLen (rawE l k) = a2 at *
    generalize ha3 : rTag (rawE l k) = a3 at *
    have HA := Hidden.mk (And.intro ha1 (And.intro ha2 ha3))
    have HE := Hidden.mk hE
    clear ha1 ha2 ha3 hE
    go_wp2_with fail
    refine bodyPost_ret (v := .tuple #[entV ((k : Int) + 1) a1 a2 a3, .nilIface]) ?_ rfl ?_
    · rw [results_cell_tmp rfl]
      go_simp
    · refine ⟨fun _ => ?_, fun h => ?_, ?_⟩
      · obtain ⟨h1, h2, h3⟩ := HA.out
        rw [entR, h1, h2, h3]
      · rw [HE.out] at h; cases h
      · exact ((((hB2.setCell (p := ⟨w.heap.size, 0, none⟩) (Nat.le_refl _) _).setCell (p := ⟨w.heap.size, 1, none⟩) (Nat.le_refl _) _).setCell (p := ⟨w.heap.size, 2, none⟩) (Nat.le_refl _) _).setCell (p := ⟨w.heap.size, 3, none⟩) (Nat.le_refl _) _).alloc (by simp; omega) _
  | false =>
    have HE := Hidden.mk hE
    clear hE
    go_wp2_with fail
    refine bodyPost_ret (v := .tuple #[entV 0 0 0 0, .iface 78 (.int .i64 5)]) ?_ rfl ?_
    · rw [results_cell_tmp rfl]
      go_simp
    · refine ⟨fun h => ?_, fun _ => rfl, ?_⟩
      · rw [HE.out] at h; cases h
      · exact ((((hB2.setCell (p := ⟨w.heap.size, 0, none⟩) (Nat.le_refl _) _).setCell (p := ⟨w.heap.size, 1, none⟩) (Nat.le_refl _) _).setCell (p := ⟨w.heap.size, 2, none⟩) (Nat.le_refl _) _).setCell (p := ⟨w.heap.size, 3, none⟩) (Nat.le_refl _) _).alloc (by simp; omega) _
end Go.Proofs.Ytibogmoemohngaa
