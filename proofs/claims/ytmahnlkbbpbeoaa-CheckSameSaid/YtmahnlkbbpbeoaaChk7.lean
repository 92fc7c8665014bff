/- The contracts of check.Fine and check.Object. -/
import Derived.Test.YtmahnlkbbpbeoaaChk5
import Derived.Test.YtmahnlkbbpbeoaaImg5
import Derived.Deep.RegionHeld3
namespace Go.Proofs.Ytmahnlkbbpbeoaa
open Go.RowKit

theorem fine_no (A : Option Addr) (n c : Nat) (w : World) (hr : rightB n = false) :
    Calls Try.prog 35 #[.slice A n c] w fun e w' => e = .returned (.iface 80 (.int .i64 3)) ∧ w = w' := by
  go_enter Try.func35, Try.ntmps35
  go_wp2_with fail
  refine (check_no A n c _ hr).mono ?_
  rintro e w1 ⟨rfl, rfl⟩
  go_wp2_with fail
  go_ret
  exact ⟨rfl, rfl⟩
theorem fine_t (A : Option Addr) (n c : Nat) (l : Bytes) (w : World) (hn : l.length = n) (hr : rightB n = true) (hnc : n ≤ c) (hrd : Rd w A l) (h0 : checkL l = []) :
    Calls Try.prog 35 #[.slice A n c] w fun e w' => e = .returned .nilIface ∧ Below w.heap.size w w' := by
  have HC := Hidden.mk (check_yes A n c l w hn hr hnc hrd)
  rw [h0] at HC
  clear h0 hn hr hrd
  go_enter Try.func35, Try.ntmps35
  go_wp2_with fail
  refine HC.out.mono ?_
  rintro e w1 ⟨v, rfl, hown, hb⟩
  obtain ⟨A1, c1, rfl, -, -⟩ := Src.of_own hown
  simp only [List.length_nil]
  clear hown
  go_wp2_with fail
  go_ret
  exact ⟨rfl, hb⟩
theorem fine_f (A : Option Addr) (n c : Nat) (l : Bytes) (w : World) (hn : l.length = n) (hr : rightB n = true) (hnc : n ≤ c) (hrd : Rd w A l) (h0 : checkL l ≠ []) :
    Calls Try.prog 35 #[.slice A n c] w fun e w' => e = .returned (.iface 80 (.int .i64 6)) ∧ Below w.heap.size w w' := by
  have HC := Hidden.mk (check_yes A n c l w hn hr hnc hrd)
  have hl := List.length_pos_iff.2 h0
  generalize checkL l = F at *
  clear h0 hn hr hrd
  go_enter Try.func35, Try.ntmps35
  go_wp2_with fail
  refine HC.out.mono ?_
  rintro e w1 ⟨v, rfl, hown, hb⟩
  obtain ⟨A1, c1, rfl, -, -⟩ := Src.of_own hown
  clear hown
  have t1 : decide (0 < F.length) = true := by simpa using hl
  clear hl
  go_wp2_with fail
  go_ret
  exact ⟨rfl, hb⟩
theorem strayE_false {n : Nat} {r : Bytes} (h : strayE n r = false) : (0 ≤ rTag r ∧ rTag r ≤ 15) ∧ (1 ≤ rLen r ∧ rLen r ≤ 1000) ∧ 288 ≤ rAt r ∧ rLen r ≤ n ∧ rAt r + rLen r ≤ n := by
  unfold strayE at h
  simp only [Bool.not_eq_false', Bool.and_eq_true] at h
  obtain ⟨⟨h1, h2⟩, h3⟩ := h
  have h1 := tagB_true.1 h1
  have h2 := lenB_true.1 h2
  have h3 := withinB_true.1 h3
  omega
/-- an object's tag and bytes, behind each other -/
def objB (l r : Bytes) : Bytes := UInt8.ofNat (rTag r).toNat :: (l.drop (rAt r)).take (rLen r)
theorem obj_none (A : Option Addr) (n c : Nat) (l : Bytes) (k : Nat) (w : World) (hn : l.length = n) (hr : rightB n = true) (hnc : n ≤ c) (hrd : Rd w A l) (hk : k < 40) (hE : hasE (rawE l k) = false) :
    Calls Try.prog 37 #[.slice A n c, .int .i64 ((k : Int) + 1)] w fun e w' => e = .returned (.slice none 0 0) ∧ Below w.heap.size w w' := by
  go_enter Try.func37, Try.ntmps37
  go_wp2_with fail
  refine ((iget_ok A n c l k w hn hr hnc hrd hk).mono fun _ _ h => (⟨h.2.1 hE, h.2.2⟩ : _ ∧ _)).mono ?_
  rintro e w1 ⟨rfl, hb⟩
  go_wp2_with fail
  go_ret
  exact ⟨rfl, hb.alloc hb.size _⟩
set_option maxRecDepth 100000 in
theorem obj_some (A : Option Addr) (n c : Nat) (l : Bytes) (k : Nat) (w : World) (hn : l.length = n) (hr : rightB n = true) (hnc : n ≤ c) (hrd : Rd w A l) (hk : k < 40) (hE : hasE (rawE l k) = true) (hs : strayE n (rawE l k) = false) :
    Calls Try.prog 37 #[.slice A n c, .int .i64 ((k : Int) + 1)] w fun e w' => ∃ g cap, e = .returned (.slice (some ⟨g, 0, none⟩) (rLen (rawE l k) + 1) cap) ∧ w.heap.size ≤ g ∧ Rd w' (some ⟨g, 0, none⟩) (objB l (rawE l k)) ∧ Below w.heap.size w w' := by
  have hst := strayE_false hs
  have hnb := rightB_true.1 hr
  obtain ⟨i0, hi0, hz0, hz1, hz2⟩ := info_parts byte_info
  have HG := Hidden.mk ((iget_ok A n c l k w hn hr hnc hrd hk).mono fun _ _ h => (⟨h.1 hE, h.2.2⟩ : _ ∧ _))
  unfold entR entV at HG
  have HO : Hidden (objB l (rawE l k) = UInt8.ofNat (rTag (rawE l k)).toNat :: (l.drop (rAt (rawE l k))).take (rLen (rawE l k))) := ⟨rfl⟩
  obtain ⟨p, off, rfl, hpl⟩ := hrd.lt (by omega)
  have hcut := hrd.cut (rAt (rawE l k)) (rLen (rawE l k)) (by omega)
  rw [Option.map_some, Addr.add_lit] at hcut
  have hcl : ((l.drop (rAt (rawE l k))).take (rLen (rawE l k))).length = rLen (rawE l k) := by simp; omega
  generalize objB l (rawE l k) = ob at *
  generalize (l.drop (rAt (rawE l k))).take (rLen (rawE l k)) = body at *
  generalize rAt (rawE l k) = a1 at *
  generalize rLen (rawE l k) = a2 at *
  generalize rTag (rawE l k) = a3 at *
  obtain ⟨⟨ht0, ht1⟩, ⟨hl0, hl1⟩, ha, hb1, hb2⟩ := hst
  have HCL := Hidden.mk hcl
  clear hn hr hrd hE hs hcl
  go_enter Try.func37, Try.ntmps37
  go_wp2_with fail
  refine HG.out.mono ?_
  rintro e w1 ⟨rfl, hb⟩
  have hal : Below w1.heap.size w1 (w1.alloc (.cells #[.int .i64 ((k : Int) + 1), .int .i64 a1, .int .i64 a2, .int .i64 a3] 39)) := (Below.refl _ _).alloc (Nat.le_refl _) _
  have hB2 : Below w.heap.size w (w1.alloc (.cells #[.int .i64 ((k : Int) + 1), .int .i64 a1, .int .i64 a2, .int .i64 a3] 39)) := hb.alloc hb.size _
  have hbx : (w1.alloc (.cells #[.int .i64 ((k : Int) + 1), .int .i64 a1, .int .i64 a2, .int .i64 a3] 39)).heap[w1.heap.size]? = some (.cells #[.int .i64 ((k : Int) + 1), .int .i64 a1, .int .i64 a2, .int .i64 a3] 39 (0, 0)) := heap_alloc_new w1 _
  have hcut2 := hcut.below hB2
  go_wp2_with fail
  generalize w1.alloc (.cells #[.int .i64 ((k : Int) + 1), .int .i64 a1, .int .i64 a2, .int .i64 a3] 39) = w2 at *
  generalize w1.heap.size = Bx at *
  have y1 : w2.cell? ⟨Bx, 1, none⟩ = some (.int .i64 a1) := by simp [World.cell?, hbx]
  have y2 : w2.cell? ⟨Bx, 2, none⟩ = some (.int .i64 a2) := by simp [World.cell?, hbx]
  have y3 : w2.cell? ⟨Bx, 3, none⟩ = some (.int .i64 a3) := by simp [World.cell?, hbx]
  have hltx : Bx < w2.heap.size := (Array.getElem?_eq_some_iff.1 hbx).1
  have s1 : IntKind.i64.wrap ((a1 : Int) + a2) = (a1 : Int) + a2 := IntWalk.i64_in _ (by omega)
  obtain ⟨t3, rfl⟩ := Int.eq_ofNat_of_zero_le ht0
  have htb : Hidden (Value.int IntKind.u8 (t3 : Int) = bv (UInt8.ofNat t3)) := ⟨by
    unfold bv; congr 1
    rw [UInt8.toNat_ofNat', Nat.mod_eq_of_lt (by omega)]⟩
  have s2 : IntKind.u8.wrap (t3 : Int) = (t3 : Int) := IntWalk.u8_in _ (by omega)
  have hsl := run_cut p off n c a1 (a1 + a2) (by omega) (by omega) (by omega)
  rw [Nat.add_sub_cancel_left] at hsl
  simp only [Int.natCast_add] at hsl
  have HCUT := Hidden.mk hcut2
  have HS2 := Hidden.mk hB2
  have HNE : Hidden (some Bx ≠ (Value.slice (some ⟨w2.heap.size, 0, none⟩) 1 1).ownBlock) := ⟨fun e => by have := Option.some.inj e; simp only at this; omega⟩
  clear hcut hcut2 hbx hb hal hB2
  go_region_held3 (fun W => W.cell? ⟨Bx, 1, none⟩ = some (.int .i64 a1) ∧ W.cell? ⟨Bx, 2, none⟩ = some (.int .i64 a2) ∧ W.cell? ⟨Bx, 3, none⟩ = some (.int .i64 (t3 : Int))) (first | exact ⟨y1, y2, y3⟩ | exact ⟨(World.cell?_alloc_lt _ _ _ hltx).trans y1, (World.cell?_alloc_lt _ _ _ hltx).trans y2, (World.cell?_alloc_lt _ _ _ hltx).trans y3⟩ | exact ⟨hg7.cell (a := ⟨Bx, 1, none⟩) ((World.cell?_alloc_lt _ _ _ hltx).trans y1) HNE.out, hg7.cell (a := ⟨Bx, 2, none⟩) ((World.cell?_alloc_lt _ _ _ hltx).trans y2) HNE.out, hg7.cell (a := ⟨Bx, 3, none⟩) ((World.cell?_alloc_lt _ _ _ hltx).trans y3) HNE.out⟩)
    ((refine step_append_src _ (by rfl) _ _ _ (by rfl) w2.heap.size 5 i0 _ 1 1 Try.underlying22 hi0 hz0 hz1 hz2 rfl (by omega) _ 1 [.int .u8 t3] (by rfl) ⟨by simp, .inr ⟨w2.heap.size, 1, #[.int .u8 t3], rfl, Nat.le_refl _, heap_alloc_new _ _, by omega, by simp [maxLen], rfl, rfl⟩⟩
          (some ⟨p, off + a1, none⟩) a2 _ (body.map bv) (by rfl) (by rw [← HCL.out]; exact Src.of_rd (HCUT.out.below ((Below.refl _ _).alloc (Nat.le_refl _) _).drew)) one_bv (by simp only [maxLen]; omega) (by omega) (by simp) ?_; intro v7 w7 hown7 hg7 hat7))
  go_wp2_with fail
  go_ret
  have hO : Own w7 w2.heap.size 5 v7 (UInt8.ofNat t3 :: body) := by
    unfold Own
    rw [List.length_cons, HCL.out, Nat.add_comm a2 1, List.map_cons, ← htb.out]
    exact hown7
  have hB7 : Below w.heap.size w w7 := HS2.out.grown (grown_trans' ((Below.refl _ _).alloc (Nat.le_refl _) _).drew hg7) HS2.out.size (fun q hq => by
    have : w2.heap.size = q := by simpa [Value.ownBlock] using hq
    have := HS2.out.size; omega)
  obtain ⟨g, cap, rfl, hg, hrow⟩ := Row.of_own hO (fun e => by
    rw [e] at hown7
    rcases hown7.2 with ⟨_, h0⟩ | ⟨g, cap, cur, h0, _⟩
    · omega
    · cases h0)
  refine ⟨g, cap, ?_, Nat.le_trans HS2.out.size hg, ?_, hB7⟩
  · rw [List.length_cons, HCL.out]; rfl
  · rw [HO.out]
    simp only [Int.toNat_natCast]
    exact hrow.rd
end Go.Proofs.Ytmahnlkbbpbeoaa
