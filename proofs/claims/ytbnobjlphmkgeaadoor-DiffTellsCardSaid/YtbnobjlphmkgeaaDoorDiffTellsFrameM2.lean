/- Contracts and plain laws, put together: ExtP, Heap6, Heap7, SameN, RefN, RefP, RefNm, RefI1, RefI2, ImageApart0, RefI3, RefI4, RefC, RefC2, RefC3, RefI5, Root1, HeapP, KeepP, MoveP, LayE, Move1, Move2, Move3, Reach1, RefDg1, Diff4, SameC, Told, Told2, Told3, Open3, Open9, DiffTells1. -/
import Derived.Test.YtbnobjlphmkgeaaDoorDiffTellsFrameM1
import Derived.Deep.LoopGhost
import Derived.Deep.DeepCutAuto
import Derived.Deep.RegionHeld3
import Derived.Shelf.SlGeneric
import Derived.Shelf.SlSortCmp.WholeK
import Derived.Ground.SlsfProg
import Derived.Deep.CutBlock
import Derived.LaidEql
import Derived.Stop.Asserts
import Derived.RowKitTokens
import Derived.Deep.Grids
/- Extents, the plain law: what is free between extents that are right. No walk here. -/
namespace Go.Proofs.YtbnobjlphmkgeaaDoor
open Go.RowKit

section
variable {n : Int} {l : List Ext}
end
end Go.Proofs.YtbnobjlphmkgeaaDoor
/- The heap: Alloc. -/
namespace Go.Proofs.YtbnobjlphmkgeaaDoor
open Go.RowKit

section
variable {w0 w : World} {F : Nat → Prop} {h : Nat} {l : Bytes}
end
section
variable {w0 w : World} {F : Nat → Prop} {h : Nat} {l : Bytes}
end
end Go.Proofs.YtbnobjlphmkgeaaDoor
/- The heap: bytes of an object that are read, or written. -/
namespace Go.Proofs.YtbnobjlphmkgeaaDoor
open Go.RowKit

section
variable {w0 w : World} {F : Nat → Prop} {h : Nat} {l : Bytes}
end
end Go.Proofs.YtbnobjlphmkgeaaDoor
/- vaultsame.Ints of lists that are the same. -/
namespace Go.Proofs.YtbnobjlphmkgeaaDoor
open Go.RowKit

def ncell (i : Nat) : List Value := [.int .i64 (i : Int)]
set_option maxRecDepth 100000 in
theorem sameInts_eq (A B : Option Addr) (ca cb n : Nat) (L : List Nat) (w : World) (hn : L.length = n) (hl : n ≤ 100000) (hA : RdX ncell 1 w A L) (hB : RdX ncell 1 w B L) :
    Calls Tryd.prog 29 #[.slice A n ca, .slice B n cb] w fun e w' => e = .returned (.bool true) ∧ Below w.heap.size w w' := by
  have HA := Hidden.mk hA
  have HB := Hidden.mk hB
  have HN := Hidden.mk hn
  clear hA hB hn
  go_enter Tryd.func29, Tryd.ntmps29
  go_wp2_with fail
  go_loopg [5] n (fun m i wr => ∃ j : Nat, j ≤ n ∧ m = n - j ∧ i = .int .i64 (j : Int) ∧ Hidden (Below w.heap.size w wr))
  case atStart => exact ⟨0, by omega, rfl, rfl, ⟨Below.refl _ _⟩⟩
  case round =>
    obtain ⟨j, hj, rfl, rfl, hbel⟩ := hrel
    by_cases hlt : j < n
    · have hjl : j < L.length := by rw [HN.out]; exact hlt
      have hp' := (HA.out.below hbel.out) j hjl
      obtain ⟨p, off, rfl, hp'⟩ := hp'
      have hq' := (HB.out.below hbel.out) j hjl
      obtain ⟨q, oq, rfl, hq'⟩ := hq'
      have x0 := hp' 0 _ rfl
      have y0 := hq' 0 _ rfl
      rw [Nat.add_zero, Nat.mul_one] at x0 y0
      have k0 : (0 : Int) ≤ j := by omega
      have k1 : (j : Int) < n := by omega
      have s1 : IntKind.i64.wrap ((j : Int) + 1) = (j : Int) + 1 := IntWalk.i64_in _ (by omega)
      have hse : ((L[j] : Int) == (L[j] : Int)) = true := by simp
      generalize (L[j] : Int) = b0 at *
      clear hp' hq'
      go_wp2_with fail
      go_quiet (fail)
      clear x0 y0
      have hbn := Hidden.mk (below_drewN hbel.out nq)
      go_wp2_with fail
      go_roundg (n - (j + 1))
      case measure => omega
      case rel => exact ⟨j + 1, by omega, rfl, by go_num, hbn⟩
    · obtain rfl : j = n := by omega
      go_wp2_with fail
      go_ret
      exact ⟨rfl, hbel.out⟩
theorem own_ints {w : World} {base n : Nat} {v : Value} {L : List Nat} (h : w.ownsRow base 3 1 v n (L.map fun i : Nat => .int .i64 (i : Int))) (hn : L.length = n) : ∃ A c, v = .slice A n c ∧ n ≤ c ∧ RdX ncell 1 w A L := by
  have e : (L.map fun i : Nat => Value.int .i64 (i : Int)) = L.flatMap ncell := by
    rw [List.map_eq_flatMap]; rfl
  rw [e] at h
  obtain ⟨A, c, rfl, hc, -⟩ := own_split h
  exact ⟨A, c, rfl, hc, own_rdX3 (fun _ => rfl) hn h⟩
end Go.Proofs.YtbnobjlphmkgeaaDoor
/- The contracts of the reference's Get, Put, Name, NameBytes and ReadName. -/
namespace Go.Proofs.YtbnobjlphmkgeaaDoor
open Go.RowKit

end Go.Proofs.YtbnobjlphmkgeaaDoor
/- The contract of the reference's Put. -/
namespace Go.Proofs.YtbnobjlphmkgeaaDoor
open Go.RowKit

end Go.Proofs.YtbnobjlphmkgeaaDoor
/- The contracts of the reference's Name, NameBytes and ReadName. -/
namespace Go.Proofs.YtbnobjlphmkgeaaDoor
open Go.RowKit

end Go.Proofs.YtbnobjlphmkgeaaDoor
/- The reference on images: Image, Handle, Zero, RootAt, Entry, Wipe. -/
namespace Go.Proofs.YtbnobjlphmkgeaaDoor
open Go.RowKit

end Go.Proofs.YtbnobjlphmkgeaaDoor
/- The reference on images: copied, Wipe. -/
namespace Go.Proofs.YtbnobjlphmkgeaaDoor
open Go.RowKit

end Go.Proofs.YtbnobjlphmkgeaaDoor
/- PutRoot at any arguments, and what the difference to the empty image is. -/
namespace Go.Proofs.YtbnobjlphmkgeaaDoor
open Go.RowKit

end Go.Proofs.YtbnobjlphmkgeaaDoor
/- The reference on images: Entries, Roots. -/
namespace Go.Proofs.YtbnobjlphmkgeaaDoor
open Go.RowKit

end Go.Proofs.YtbnobjlphmkgeaaDoor
/- The reference on images: PutEntry. -/
namespace Go.Proofs.YtbnobjlphmkgeaaDoor
open Go.RowKit

end Go.Proofs.YtbnobjlphmkgeaaDoor
/- The reference's Check: a row of numbers in memory; what is wrong with handles. -/
namespace Go.Proofs.YtbnobjlphmkgeaaDoor
open Go.RowKit

section
variable {w w' : World} {g N : Nat} {f : Nat → Int}
end
theorem int_infoC : (Tryd.prog.info? 3).map (fun i => (i.zero, i.size, i.bytes)) = some (some (.int .i64 0), 1, 8) := by kernel_rfl
end Go.Proofs.YtbnobjlphmkgeaaDoor
/- The reference's Check: its contract. -/
namespace Go.Proofs.YtbnobjlphmkgeaaDoor
open Go.RowKit

section
variable {w wr w' : World} {g : Nat} {v v' : Value} {F : List Flt} {f : Nat → Int}
end
end Go.Proofs.YtbnobjlphmkgeaaDoor
/- The reference's Fine and Mend; an image that is loaded. -/
namespace Go.Proofs.YtbnobjlphmkgeaaDoor
open Go.RowKit

end Go.Proofs.YtbnobjlphmkgeaaDoor
/- The reference on images: PutRoot. -/
namespace Go.Proofs.YtbnobjlphmkgeaaDoor
open Go.RowKit

end Go.Proofs.YtbnobjlphmkgeaaDoor
/- Names that lead: root.Get; the reference's Lead and Object. -/
namespace Go.Proofs.YtbnobjlphmkgeaaDoor
open Go.RowKit

section
variable {w0 w : World} {F : Nat → Prop} {h : Nat} {l : Bytes}
end
end Go.Proofs.YtbnobjlphmkgeaaDoor
/- The plain law of heaps: what stays right, what has room. No walk here. -/
namespace Go.Proofs.YtbnobjlphmkgeaaDoor
open Go.RowKit

end Go.Proofs.YtbnobjlphmkgeaaDoor
/- HeapKeeps, the plain law: what an Alloc and a Write leave as it was. -/
namespace Go.Proofs.YtbnobjlphmkgeaaDoor
open Go.RowKit

section
variable {l l' : Bytes} {k a n t : Nat}
variable {o : Nat} {b : Bytes}
end
end Go.Proofs.YtbnobjlphmkgeaaDoor
/- Objects moved closer together, plainly. No walk here. -/
namespace Go.Proofs.YtbnobjlphmkgeaaDoor
open Go.RowKit Go.Sort Go.Shelf Go.Lib

section
variable {l l' : Bytes} {k a : Nat}
end
end Go.Proofs.YtbnobjlphmkgeaaDoor
/- Laid: library functions whose contracts are proved over whatever program: the table of numbers, and a field a function or a type. -/
namespace Go.Proofs.YtbnobjlphmkgeaaDoor
open Go.Shelf
end Go.Proofs.YtbnobjlphmkgeaaDoor
/- The contracts of heap.Move and of package move's Step. -/
namespace Go.Proofs.YtbnobjlphmkgeaaDoor
open Go.RowKit Go.Sort Go.Shelf Go.Lib

section
variable {w0 w : World} {F : Nat → Prop} {h : Nat} {l : Bytes}
end
end Go.Proofs.YtbnobjlphmkgeaaDoor
/- Package move: Step, All, Gain; stat.Heap. -/
namespace Go.Proofs.YtbnobjlphmkgeaaDoor
open Go.RowKit Go.Sort Go.Shelf Go.Lib

section
variable {w0 w : World} {F : Nat → Prop} {h : Nat} {l : Bytes}
end
end Go.Proofs.YtbnobjlphmkgeaaDoor
/- Package move: All, Gain; stat.Heap. -/
namespace Go.Proofs.YtbnobjlphmkgeaaDoor
open Go.RowKit

section
variable {w0 w : World} {F : Nat → Prop} {h : Nat} {l : Bytes}
end
end Go.Proofs.YtbnobjlphmkgeaaDoor
/- Package reach: what an object names. -/
namespace Go.Proofs.YtbnobjlphmkgeaaDoor
open Go.RowKit

section
variable {w0 w : World} {F : Nat → Prop} {h : Nat} {l : Bytes}
end
end Go.Proofs.YtbnobjlphmkgeaaDoor
/- The reference's PagesOf. -/
namespace Go.Proofs.YtbnobjlphmkgeaaDoor
open Go.RowKit Go.Maps Go.ChangeMaps

/-- an array of 201 booleans -/
def BlkP (w : World) (g : Nat) (T : Nat → Bool) : Prop := ∃ cur, w.heap[g]? = some (.cells cur 100 (0, 0)) ∧ cur.size = 201 ∧ ∀ i, i < 201 → cur[i]? = some (.bool (T i))
theorem BlkP.block {w w' : World} {g : Nat} {T : Nat → Bool} (h : BlkP w g T) (hb : w'.heap[g]? = w.heap[g]?) : BlkP w' g T := by
  obtain ⟨cur, h0, h1, h2⟩ := h
  exact ⟨cur, hb.trans h0, h1, h2⟩
theorem BlkP.lt {w : World} {g : Nat} {T : Nat → Bool} (h : BlkP w g T) : g < w.heap.size := by
  obtain ⟨cur, h0, -⟩ := h
  exact (Array.getElem?_eq_some_iff.1 h0).1
theorem BlkP.below {w w' : World} {g : Nat} {T : Nat → Bool} (h : BlkP w g T) (hb : Below w.heap.size w w') : BlkP w' g T := h.block (hb.block g h.lt)
theorem BlkP.cell {w : World} {g : Nat} {T : Nat → Bool} (h : BlkP w g T) (i : Nat) (hi : i < 201) : w.cell? ⟨g, i, none⟩ = some (.bool (T i)) ∧ w.frozen? ⟨g, i, none⟩ = false := by
  obtain ⟨cur, h0, h1, h2⟩ := h
  exact ⟨by simp only [World.cell?]; rw [h0]; exact h2 i hi, by simp [World.frozen?, h0]⟩
theorem BlkP.set {w : World} {g : Nat} {T : Nat → Bool} (h : BlkP w g T) (i : Nat) (hi : i < 201) : BlkP (w.setCell ⟨g, i, none⟩ (.bool true)) g (fun q => T q || (i == q)) := by
  obtain ⟨cur, h0, h1, h2⟩ := h
  refine ⟨_, heap_setK h0 _, by simp [h1], fun q hq => ?_⟩
  by_cases e : i = q
  · subst e
    simp [h1, hi]
  · rw [Array.getElem?_setIfInBounds_ne e, h2 q hq]
    have : (i == q) = false := by simpa using e
    simp [this]
theorem BlkP.congr {w : World} {g : Nat} {T T' : Nat → Bool} (h : BlkP w g T) (e : ∀ i, i < 201 → T' i = T i) : BlkP w g T' := by
  obtain ⟨cur, h0, h1, h2⟩ := h
  exact ⟨cur, h0, h1, fun i hi => by rw [e i hi]; exact h2 i hi⟩
/-- the pages that changes touch, as a list -/
def tchN (L : List Chg) (n : Nat) : List Nat := (List.range n).filter (tchL L)
theorem tchN_succ (L : List Chg) (k : Nat) : tchN L (k + 1) = tchN L k ++ (if tchL L k = true then [k] else []) := by
  unfold tchN
  rw [List.range_succ, List.filter_append]
  congr 1
  by_cases h : tchL L k = true
  · rw [if_pos h, List.filter_cons_of_pos h, List.filter_nil]
  · rw [if_neg h, List.filter_cons_of_neg h, List.filter_nil]
theorem tchN_le (L : List Chg) (n : Nat) : (tchN L n).length ≤ n := by
  unfold tchN
  exact Nat.le_trans (List.length_filter_le _ _) (by simp)
/-- is every change within an image? -/
def inB (c : Chg) : Bool := decide (0 ≤ c.at_) && decide (c.at_ < 6400) && decide ((c.new.length : Int) ≤ 6400 - c.at_)
theorem inB_iff {c : Chg} : inB c = true ↔ InC c := by
  unfold inB InC
  rw [Bool.and_eq_true, Bool.and_eq_true, decide_eq_true_eq, decide_eq_true_eq, decide_eq_true_eq]
  omega
theorem zero201 : Tryd.zeroCells100 = Array.replicate 201 (.bool false) := by kernel_rfl
theorem BlkP.made (w : World) : BlkP (w.alloc (.cells (Array.replicate 201 (.bool false)) 100)) w.heap.size (fun _ => false) :=
  ⟨_, heap_alloc_new w _, by simp, fun i hi => by simp [hi]⟩
structure RpSt (w wr : World) (gt : Nat) (T : Nat → Bool) : Prop where
  blk : BlkP wr gt T
  bel : Below w.heap.size w wr
  new : w.heap.size ≤ gt
theorem RpSt.below {w wr w' : World} {gt : Nat} {T : Nat → Bool} (h : RpSt w wr gt T) (hb : Below wr.heap.size wr w') : RpSt w w' gt T := ⟨h.blk.below hb, h.bel.trans (hb.mono h.bel.size), h.new⟩
/-- what the reference's PagesOf says -/
def RpAns (w : World) (L : List Chg) (e : Ending) (w' : World) : Prop :=
  Below w.heap.size w w' ∧ (((∃ c ∈ L, ¬ InC c) ∧ e = .returned (.tuple #[.slice none 0 0, .int .i64 1])) ∨ ((∀ c ∈ L, InC c) ∧ ∃ v, e = .returned (.tuple #[v, .int .i64 0]) ∧ w'.ownsRow w.heap.size 3 1 v (tchN L 201).length ((tchN L 201).flatMap ncell)))
set_option maxRecDepth 100000 in
set_option maxHeartbeats 1000000 in
theorem rpages_any (A : Option Addr) (m c : Nat) (L : List Chg) (w : World) (hm : L.length = m) (hr : RdG w A L) (hml : m ≤ 281474976710656) :
    Calls Tryd.prog 27 #[.slice A m c] w (RpAns w L) := by
  have HM := Hidden.mk hm
  have HR := Hidden.mk hr
  have hz := zero201
  have hal := (Below.refl w.heap.size w).alloc (Nat.le_refl _) (.cells (Array.replicate 201 (.bool false)) 100)
  have HS0 : Hidden (RpSt w (w.alloc (.cells (Array.replicate 201 (.bool false)) 100)) w.heap.size (tchL (L.take 0))) := ⟨⟨(BlkP.made w).congr (fun i _ => rfl), hal, Nat.le_refl _⟩⟩
  have HZ := Hidden.mk hz
  clear hm hr hal hz
  go_enter Tryd.func27, Tryd.ntmps27
  go_wp2_with fail
  rw [HZ.out]
  generalize w.alloc (.cells (Array.replicate 201 (.bool false)) 100) = w1 at *
  obtain ⟨gt, hgt⟩ : ∃ g, w.heap.size = g := ⟨_, rfl⟩
  have HG := Hidden.mk hgt
  rw [hgt]
  rw [hgt] at HS0
  clear hgt HZ
  obtain ⟨i0', hi0, hz0, hz1, hz2⟩ := info_parts int_infoC
  have HI := Hidden.mk (And.intro hi0 (And.intro hz0 (And.intro hz1 hz2)))
  clear hi0 hz0 hz1 hz2
  go_loopg [5] m (fun r iv wr => ∃ k : Nat, k ≤ m ∧ r = m - k ∧ iv = .int .i64 (k : Int) ∧ Hidden (RpSt w wr gt (tchL (L.take k)) ∧ ∀ c ∈ L.take k, InC c))
  case atStart => exact ⟨0, by omega, rfl, rfl, ⟨HS0.out, fun c hc => by simp at hc⟩⟩
  case round =>
    obtain ⟨k, hk, rfl, rfl, hst⟩ := hrel
    have HS := Hidden.mk hst.out
    clear hst HS0
    by_cases hlt : k < m
    · have i0 : (0 : Int) ≤ k := by omega
      have i1 : (k : Int) < m := by omega
      have s0 : IntKind.i64.wrap ((k : Int) + 1) = (k : Int) + 1 := IntWalk.i64_in _ (by omega)
      have hkl : k < L.length := by rw [HM.out]; exact hlt
      obtain ⟨g, off, Ao, An, co, cn, rfl, hch⟩ := (HR.out.below HS.out.1.bel) k hkl
      obtain ⟨x0, x1, x2⟩ := hch
      have HTS := Hidden.mk (fun q => tchL_succ L k q hkl)
      have HIN : Hidden (InC L[k] → ∀ c ∈ L.take (k + 1), InC c) := ⟨fun h c hc => by
        rw [List.take_succ_eq_append_getElem hkl, List.mem_append, List.mem_singleton] at hc
        rcases hc with hc | rfl
        · exact HS.out.2 c hc
        · exact h⟩
      have HMEM : Hidden (L[k] ∈ L) := ⟨List.getElem_mem hkl⟩
      generalize L[k] = ch at *
      obtain ⟨at_, old, new⟩ := ch
      dsimp only at *
      obtain ⟨nl, hnl⟩ : ∃ q, new.length = q := ⟨_, rfl⟩
      have HNL := Hidden.mk hnl
      rw [hnl] at x2
      generalize old.length = ol at *
      have hbx := heap_alloc_new wr (.cells #[.int .i64 at_, .slice Ao ol co, .slice An nl cn] 98)
      have b0 : (wr.alloc (.cells #[.int .i64 at_, .slice Ao ol co, .slice An nl cn] 98)).cell? ⟨wr.heap.size, 0, none⟩ = some (.int .i64 at_) := by simp only [World.cell?]; rw [hbx]; rfl
      have b2 : (wr.alloc (.cells #[.int .i64 at_, .slice Ao ol co, .slice An nl cn] 98)).cell? ⟨wr.heap.size, 2, none⟩ = some (.slice An nl cn) := by simp only [World.cell?]; rw [hbx]; rfl
      have hal := (Below.refl wr.heap.size wr).alloc (Nat.le_refl _) (.cells #[.int .i64 at_, .slice Ao ol co, .slice An nl cn] 98)
      have HS2 := Hidden.mk (HS.out.1.below hal)
      have HNE : Hidden (gt ≠ wr.heap.size) := ⟨by have := HS.out.1.blk.lt; omega⟩
      have HBAD : Hidden (¬ InC ⟨at_, old, new⟩ → ∃ c ∈ L, ¬ InC c) := ⟨fun h => ⟨_, HMEM.out, h⟩⟩
      clear hbx hal hnl
      by_cases n0 : at_ < 0
      · have d1 : decide (at_ < 0) = true := by simpa using n0
        have HB := Hidden.mk (HBAD.out (fun h => by have := h.1; dsimp only at this; omega))
        clear n0
        go_wp2_with fail
        go_ret2
        exact ⟨HS2.out.bel, .inl ⟨HB.out, rfl⟩⟩
      have d1 : decide (at_ < 0) = false := by simpa using n0
      by_cases n1 : 6400 ≤ at_
      · have d2 : decide (6400 ≤ at_) = true := by simpa using n1
        have HB := Hidden.mk (HBAD.out (fun h => by have := h.2.1; dsimp only at this; omega))
        clear n0 n1
        go_wp2_with fail
        go_ret2
        exact ⟨HS2.out.bel, .inl ⟨HB.out, rfl⟩⟩
      have d2 : decide (6400 ≤ at_) = false := by simpa using n1
      have s1 : IntKind.i64.wrap (6400 - at_) = 6400 - at_ := IntWalk.i64_in _ (by omega)
      by_cases n2 : 6400 - at_ < (nl : Int)
      · have d3 : decide (6400 - at_ < (nl : Int)) = true := by simpa using n2
        have HB := Hidden.mk (HBAD.out (fun h => by have := h.2.2; rw [HNL.out] at this; dsimp only at this; omega))
        clear n0 n1 n2
        go_wp2_with fail
        go_ret2
        exact ⟨HS2.out.bel, .inl ⟨HB.out, rfl⟩⟩
      have d3 : decide (6400 - at_ < (nl : Int)) = false := by simpa using n2
      have HINC : Hidden (InC ⟨at_, old, new⟩) := ⟨⟨show 0 ≤ at_ by omega, show at_ < 6400 by omega, show at_ + (new.length : Int) ≤ 6400 by rw [HNL.out]; omega⟩⟩
      obtain ⟨a, rfl⟩ := Int.eq_ofNat_of_zero_le (show 0 ≤ at_ by omega)
      have ha : a < 6400 := by omega
      have han : a + nl ≤ 6400 := by omega
      rw [Int.toNat_natCast, HNL.out] at HTS
      clear n0 n1 n2
      go_wp2_with fail
      generalize wr.alloc (.cells #[.int .i64 (a : Int), .slice Ao ol co, .slice An nl cn] 98) = W2 at *
      obtain ⟨bx, hbx⟩ : ∃ b, wr.heap.size = b := ⟨_, rfl⟩
      rw [hbx] at HNE b0 b2
      rw [hbx]
      have HC : Hidden (RpSt w W2 gt (fun q => tchL (L.take k) q || tchC a 0 q) ∧ W2.cell? ⟨bx, 0, none⟩ = some (.int .i64 (a : Int)) ∧ W2.cell? ⟨bx, 2, none⟩ = some (.slice An nl cn)) := ⟨by
        have e : (fun q => tchL (L.take k) q || tchC a 0 q) = tchL (L.take k) := by funext q; simp [tchC]
        rw [e]; exact ⟨HS2.out, b0, b2⟩⟩
      clear HS2 b0 b2 x0 x1 x2 HS hbx d1 d2 d3 s1
      go_loopg [7] nl (fun r iv wx => ∃ j : Nat, j ≤ nl ∧ r = nl - j ∧ iv = .int .i64 (j : Int) ∧ Hidden (RpSt w wx gt (fun q => tchL (L.take k) q || tchC a j q) ∧ wx.cell? ⟨bx, 0, none⟩ = some (.int .i64 (a : Int)) ∧ wx.cell? ⟨bx, 2, none⟩ = some (.slice An nl cn)))
      case atStart => exact ⟨0, by omega, rfl, rfl, HC⟩
      case round =>
        obtain ⟨j, hj, rfl, rfl, hs⟩ := hrel
        have HY := Hidden.mk hs.out
        obtain ⟨-, y0, y2⟩ := hs.out
        clear hs HC
        by_cases hlt2 : j < nl
        · have j0 : (0 : Int) ≤ j := by omega
          have j1 : (j : Int) < nl := by omega
          have s2 : IntKind.i64.wrap ((j : Int) + 1) = (j : Int) + 1 := IntWalk.i64_in _ (by omega)
          have s3 : IntKind.i64.wrap ((a : Int) + j) = (a : Int) + j := IntWalk.i64_in _ (by omega)
          have s4 : ((a : Int) + j) / 32 = (((a + j) / 32 : Nat) : Int) := by omega
          obtain ⟨q, hq⟩ : ∃ q, (a + j) / 32 = q := ⟨_, rfl⟩
          have hq2 : q < 201 := by omega
          rw [hq] at s4
          obtain ⟨z0, z1⟩ := HY.out.1.blk.cell q hq2
          have q0 : (0 : Int) ≤ q := by omega
          have q1 : (q : Int) < 201 := by omega
          have HN : Hidden (RpSt w (wr.setCell ⟨gt, q, none⟩ (.bool true)) gt (fun q => tchL (L.take k) q || tchC a (j + 1) q) ∧ (wr.setCell ⟨gt, q, none⟩ (.bool true)).cell? ⟨bx, 0, none⟩ = some (.int .i64 (a : Int)) ∧ (wr.setCell ⟨gt, q, none⟩ (.bool true)).cell? ⟨bx, 2, none⟩ = some (.slice An nl cn)) := ⟨by
            obtain ⟨h1, h2, h3⟩ := HY.out
            refine ⟨⟨(h1.blk.set q hq2).congr (fun i _ => by rw [tchC_succ, hq, Bool.or_assoc]), h1.bel.setCell h1.new _, h1.new⟩, ?_, ?_⟩
            · rw [World.cell?_setCell_far _ _ _ _ HNE.out]; exact h2
            · rw [World.cell?_setCell_far _ _ _ _ HNE.out]; exact h3⟩
          clear HY hq
          go_wp2_with fail
          go_roundg (nl - (j + 1))
          case measure => omega
          case rel => exact ⟨j + 1, by omega, rfl, by go_num, HN⟩
        · obtain rfl : j = nl := by omega
          have t4 : decide ((j : Int) < j) = false := by simp
          have HN : Hidden (RpSt w wr gt (tchL (L.take (k + 1))) ∧ ∀ c ∈ L.take (k + 1), InC c) := ⟨by
            have e : (fun q => tchL (L.take k) q || tchC a j q) = tchL (L.take (k + 1)) := by funext q; rw [HTS.out q]
            have := HY.out.1
            rw [e] at this
            exact ⟨this, HIN.out HINC.out⟩⟩
          clear HY
          go_wp2_with fail
          go_roundg (m - (k + 1))
          case measure => omega
          case rel => exact ⟨k + 1, by omega, rfl, by go_num, HN⟩
    · obtain rfl : k = m := by omega
      have t4 : decide ((k : Int) < k) = false := by simp
      have hall : L.take k = L := List.take_of_length_le (by rw [HM.out]; omega)
      have HALL : Hidden (RpSt w wr gt (tchL L) ∧ ∀ c ∈ L, InC c) := ⟨by have := HS.out; rw [hall] at this; exact this⟩
      have HTN : Hidden (∀ j, tchN L (j + 1) = tchN L j ++ (if tchL L j = true then [j] else [])) := ⟨tchN_succ L⟩
      have HTL : Hidden (∀ j, (tchN L j).length ≤ j) := ⟨tchN_le L⟩
      obtain ⟨w2, rfl⟩ : ∃ w2 : World, w2 = wr := ⟨_, rfl⟩
      clear HS hall
      go_wp2_with fail
      go_loopg [8, 9] 201 (fun r lv iv wx => ∃ j : Nat, j ≤ 201 ∧ r = 201 - j ∧ iv = .int .i64 (j : Int) ∧ Hidden (Below w2.heap.size w2 wx ∧ wx.ownsRow w2.heap.size 3 1 lv (tchN L j).length ((tchN L j).flatMap ncell)))
      case atStart => exact ⟨0, by omega, rfl, rfl, ⟨Below.refl _ _, World.ownsRow_nil _ _ _ _⟩⟩
      case round =>
        obtain ⟨j, hj, rfl, rfl, hs⟩ := hrel
        have HN := Hidden.mk hs.out
        clear hs
        by_cases hlt2 : j < 201
        · have j0 : (0 : Int) ≤ j := by omega
          have j1 : (j : Int) < 201 := by omega
          have s2 : IntKind.i64.wrap ((j : Int) + 1) = (j : Int) + 1 := IntWalk.i64_in _ (by omega)
          have e1 : decide ((j : Int) < 201) = true := by simp; omega
          obtain ⟨z0, -⟩ := (HALL.out.1.blk.below HN.out.1).cell j hlt2
          have hln := HTL.out j
          have HS1 := Hidden.mk (HTN.out j)
          obtain ⟨DE, hDE⟩ : ∃ D, tchN L j = D := ⟨_, rfl⟩
          rw [hDE] at HN hln HS1
          clear hDE
          cases hb : tchL L j with
          | false =>
            rw [hb] at z0
            have HSS : Hidden (tchN L (j + 1) = DE) := ⟨by rw [HS1.out, hb]; simp⟩
            clear HS1 hb
            go_wp2_with fail
            go_roundg (201 - (j + 1))
            case measure => omega
            case rel => exact ⟨j + 1, by omega, rfl, by go_num, ⟨by rw [HSS.out]; exact HN.out⟩⟩
          | true =>
            rw [hb] at z0
            have HSS : Hidden (tchN L (j + 1) = DE ++ [j]) := ⟨by rw [HS1.out, hb]; simp⟩
            obtain ⟨hi0, hz0, hz1, hz2⟩ := HI.out
            have hle2 := HN.out.1.size
            clear HS1 hb
            go_wp2_with (at_builtin; refine wpList_append_lies _ rfl (.tmp 57) (.tmp 59) _ rfl w2.heap.size 3 i0' _ 1 8 Tryd.underlying40 hi0 hz0 hz1 hz2 rfl (by decide) u8 DE.length (DE.flatMap ncell) rfl (own_below HN.out.2 ((Below.refl _ _).alloc (Nat.le_refl _) _)) ⟨(wr).heap.size, 0, none⟩ 1 1 [.int .i64 (j : Int)] rfl rfl (World.news_of_block (cs := #[.int .i64 (j : Int)]) (t := 3) (fr := (0, 0)) (heap_alloc_new (wr) _)) (by simp [Value.oneCell']) (by omega) (by simp only [maxLen]; omega) (by omega) (by have hz_ := HN.out.1.size; rw [World.size_alloc]; omega) ((wr).heap.size + 1) (by simp) ?_; intro g8 cap8 w8 hown8 hg8 hat8 hlt8)
            have hgW := grown_trans' ((Below.refl wr.heap.size wr).alloc (Nat.le_refl _) _) hg8
            have hB8 : Below w2.heap.size w2 w8 := HN.out.1.grown hgW HN.out.1.size (fun q hq => (HN.out.2.lt q hq).1)
            have HF : Hidden (Below w2.heap.size w2 w8 ∧ w8.ownsRow w2.heap.size 3 1 (.slice (some ⟨g8, 0, none⟩) (DE.length + 1) cap8) (DE ++ [j]).length ((DE ++ [j]).flatMap ncell)) := ⟨hB8, by
              rw [List.length_append, List.flatMap_append]
              simpa [ncell] using hown8⟩
            clear hgW hB8 hown8 hg8 hat8 hlt8 hi0 hz0 hz1 hz2 hle2
            go_roundg (201 - (j + 1))
            case measure => omega
            case rel => exact ⟨j + 1, by omega, rfl, by go_num, ⟨by rw [HSS.out]; exact HF.out⟩⟩
        · obtain rfl : j = 201 := by omega
          have HF : Hidden (RpAns w L (.returned (.tuple #[u8, .int .i64 0])) wr) := ⟨⟨HALL.out.1.bel.trans (HN.out.1.mono HALL.out.1.bel.size), .inr ⟨HALL.out.2, _, rfl, own_base HN.out.2 HALL.out.1.bel.size⟩⟩⟩
          clear HN
          go_wp2_with fail
          go_ret2
          exact HF.out
end Go.Proofs.YtbnobjlphmkgeaaDoor
/- diff.Pages where a change lies without. -/
namespace Go.Proofs.YtbnobjlphmkgeaaDoor
open Go.RowKit Go.Maps Go.ChangeMaps

set_option maxRecDepth 100000 in
theorem dpages_no (A : Option Addr) (m c : Nat) (L : List Chg) (w : World) (hm : L.length = m) (hr : RdG w A L) (hin : ¬ ∀ c ∈ L, InC c) (hml : m ≤ 281474976710656) :
    Calls Tryd.prog 28 #[.slice A m c] w fun e w' => e = .returned (.tuple #[.slice none 0 0, .iface 69 (.int .i64 1)]) ∧ Below w.heap.size w w' := by
  have HM := Hidden.mk hm
  have HR := Hidden.mk hr
  have HI := Hidden.mk hin
  have hmm := @run_makeMap Tryd.prog
  have HST : Hidden (DpSt w (w.alloc (.map #[] 0)) w.heap.size (tchL (L.take 0)) ∧ ∀ c ∈ L.take 0, InC c) := ⟨⟨⟨0, IM.made w, by omega⟩, (Below.refl _ _).alloc (Nat.le_refl _) _, Nat.le_refl _⟩, fun c hc => by simp at hc⟩
  clear hm hr hin
  go_enter Tryd.func28, Tryd.ntmps28
  go_wp2_with fail
  clear hmm
  go_loopg [11] m (fun r i wr => ∃ k : Nat, k ≤ m ∧ r = m - k ∧ i = .int .i64 (k : Int) ∧ Hidden (DpSt w wr w.heap.size (tchL (L.take k)) ∧ ∀ c ∈ L.take k, InC c))
  case atStart => exact ⟨0, by omega, rfl, rfl, HST⟩
  case round =>
    obtain ⟨k, hk, rfl, rfl, hst⟩ := hrel
    by_cases hlt : k < m
    · have i0 : (0 : Int) ≤ k := by omega
      have i1 : (k : Int) < m := by omega
      have hkl : k < L.length := by rw [HM.out]; exact hlt
      have s0 : IntKind.i64.wrap ((k : Int) + 1) = (k : Int) + 1 := IntWalk.i64_in _ (by omega)
      obtain ⟨g, off, Ao, An, co, cn, rfl, hch⟩ := (HR.out.below hst.out.1.bel) k hkl
      obtain ⟨x0, x1, x2⟩ := hch
      have HS := Hidden.mk (fun q => tchL_succ L k q hkl)
      have HIN : Hidden (InC L[k] → ∀ c ∈ L.take (k + 1), InC c) := ⟨fun h c hc => by
        rw [List.take_succ_eq_append_getElem hkl, List.mem_append, List.mem_singleton] at hc
        rcases hc with hc | rfl
        · exact hst.out.2 c hc
        · exact h⟩
      have HTL : Hidden (∀ q, tchL (L.take k) q = true → q < 200) := ⟨fun q h => tchL_lt (fun c hc => hst.out.2 c hc) h⟩
      generalize L[k] = ch at *
      obtain ⟨at_, old, new⟩ := ch
      dsimp only at *
      by_cases n0 : at_ < 0
      · have d1 : decide (at_ < 0) = true := by simpa using n0
        have HB := Hidden.mk (hst.out.1.bel.alloc hst.out.1.bel.size (.cells #[.int .i64 at_, .slice Ao old.length co, .slice An new.length cn] 98))
        have b0 : (wr.alloc (.cells #[.int .i64 at_, .slice Ao old.length co, .slice An new.length cn] 98)).cell? ⟨wr.heap.size, 0, none⟩ = some (.int .i64 at_) := by simp only [World.cell?]; rw [heap_alloc_new wr _]; rfl
        clear n0 hst HST
        go_wp2_with fail
        go_ret2
        exact ⟨rfl, HB.out⟩
      by_cases n1 : 6400 ≤ at_
      · have d1 : decide (at_ < 0) = false := by simpa using n0
        have d2 : decide (6400 ≤ at_) = true := by simpa using n1
        have HB := Hidden.mk (hst.out.1.bel.alloc hst.out.1.bel.size (.cells #[.int .i64 at_, .slice Ao old.length co, .slice An new.length cn] 98))
        have b0 : (wr.alloc (.cells #[.int .i64 at_, .slice Ao old.length co, .slice An new.length cn] 98)).cell? ⟨wr.heap.size, 0, none⟩ = some (.int .i64 at_) := by simp only [World.cell?]; rw [heap_alloc_new wr _]; rfl
        clear n0 n1 hst HST
        go_wp2_with fail
        go_ret2
        exact ⟨rfl, HB.out⟩
      by_cases n2 : 6400 - at_ < (new.length : Int)
      · have d1 : decide (at_ < 0) = false := by simpa using n0
        have d2 : decide (6400 ≤ at_) = false := by simpa using n1
        have s1 : IntKind.i64.wrap (6400 - at_) = 6400 - at_ := IntWalk.i64_in _ (by omega)
        have d3 : decide (6400 - at_ < (new.length : Int)) = true := by simpa using n2
        have HB := Hidden.mk (hst.out.1.bel.alloc hst.out.1.bel.size (.cells #[.int .i64 at_, .slice Ao old.length co, .slice An new.length cn] 98))
        have b0 : (wr.alloc (.cells #[.int .i64 at_, .slice Ao old.length co, .slice An new.length cn] 98)).cell? ⟨wr.heap.size, 0, none⟩ = some (.int .i64 at_) := by simp only [World.cell?]; rw [heap_alloc_new wr _]; rfl
        have b2 : (wr.alloc (.cells #[.int .i64 at_, .slice Ao old.length co, .slice An new.length cn] 98)).cell? ⟨wr.heap.size, 2, none⟩ = some (.slice An new.length cn) := by simp only [World.cell?]; rw [heap_alloc_new wr _]; rfl
        clear n0 n1 n2 hst HST
        go_wp2_with fail
        go_ret2
        exact ⟨rfl, HB.out⟩
      have hic : InC ⟨at_, old, new⟩ := ⟨show 0 ≤ at_ by omega, show at_ < 6400 by omega, show at_ + (new.length : Int) ≤ 6400 by omega⟩
      have HNX := Hidden.mk (HIN.out hic)
      clear n0 n1 n2 HIN
      obtain ⟨a, rfl⟩ := Int.eq_ofNat_of_zero_le hic.1
      have ha : a < 6400 := by have := hic.2.1; dsimp only at this; omega
      have han : a + new.length ≤ 6400 := by have := hic.2.2; dsimp only at this; omega
      rw [Int.toNat_natCast] at HS
      generalize new.length = nl at *
      generalize old.length = ol at *
      have d1 : decide ((a : Int) < 0) = false := by simp
      have d2 : decide (6400 ≤ (a : Int)) = false := by simp; omega
      have s1 : IntKind.i64.wrap (6400 - (a : Int)) = 6400 - (a : Int) := IntWalk.i64_in _ (by omega)
      have d3 : decide (6400 - (a : Int) < (nl : Int)) = false := by simp; omega
      have hbx := heap_alloc_new wr (.cells #[.int .i64 (a : Int), .slice Ao ol co, .slice An nl cn] 98)
      have b0 : (wr.alloc (.cells #[.int .i64 (a : Int), .slice Ao ol co, .slice An nl cn] 98)).cell? ⟨wr.heap.size, 0, none⟩ = some (.int .i64 (a : Int)) := by simp only [World.cell?]; rw [hbx]; rfl
      have b2 : (wr.alloc (.cells #[.int .i64 (a : Int), .slice Ao ol co, .slice An nl cn] 98)).cell? ⟨wr.heap.size, 2, none⟩ = some (.slice An nl cn) := by simp only [World.cell?]; rw [hbx]; rfl
      have HB2 := Hidden.mk (hst.out.1.bel.alloc hst.out.1.bel.size (.cells #[.int .i64 (a : Int), .slice Ao ol co, .slice An nl cn] 98))
      obtain ⟨cnt, him, hc200⟩ := hst.out.1.im
      have hne : wr.heap.size ≠ w.heap.size := by have := him.lt; omega
      have HNE := Hidden.mk hne
      have HIM2 := Hidden.mk (him.block (Below.heap_alloc wr (.cells #[.int .i64 (a : Int), .slice Ao ol co, .slice An nl cn] 98) w.heap.size him.lt))
      have HB0 := Hidden.mk b0
      clear hst him hic hbx hne HST
      go_wp2_with fail
      generalize hW2 : wr.alloc (.cells #[.int .i64 (a : Int), .slice Ao ol co, .slice An nl cn] 98) = W2 at *
      clear hW2 b0 b2 x0 x1 x2
      generalize wr.heap.size = bx at *
      have HS2 : Hidden (DpSt w W2 w.heap.size (fun q => tchL (L.take k) q || tchC a 0 q) ∧ W2.cell? ⟨bx, 0, none⟩ = some (.int .i64 (a : Int))) := ⟨⟨⟨⟨cnt, by simpa [tchC] using HIM2.out, hc200⟩, HB2.out, Nat.le_refl _⟩, HB0.out⟩⟩
      clear HIM2 HB2 HB0 hc200
      go_loopg [36] nl (fun r i wx => ∃ j : Nat, j ≤ nl ∧ r = nl - j ∧ i = .int .i64 (j : Int) ∧ Hidden (DpSt w wx w.heap.size (fun q => tchL (L.take k) q || tchC a j q) ∧ wx.cell? ⟨bx, 0, none⟩ = some (.int .i64 (a : Int))))
      case atStart => exact ⟨0, by omega, rfl, rfl, HS2⟩
      case round =>
        obtain ⟨j, hj, rfl, rfl, hs⟩ := hrel
        by_cases hlt2 : j < nl
        · have j0 : (0 : Int) ≤ j := by omega
          have j1 : (j : Int) < nl := by omega
          have s2 : IntKind.i64.wrap ((j : Int) + 1) = (j : Int) + 1 := IntWalk.i64_in _ (by omega)
          have s3 : IntKind.i64.wrap ((a : Int) + j) = (a : Int) + j := IntWalk.i64_in _ (by omega)
          have s4 : ((a : Int) + j) / 32 = (((a + j) / 32 : Nat) : Int) := by omega
          have hq : (a + j) / 32 < 200 := by omega
          obtain ⟨cnt2, him2, hc2⟩ := hs.out.1.im
          obtain ⟨W4, hrun, him4, hg4, hs4⟩ := him2.store int_keyed natL_inj (T := 101) Tryd.underlying101 (by simp only [maxLen]; omega) (int_key (n := (a + j) / 32) (by omega)) (.bool true)
          rw [setF_upd] at him4
          have hset : (fun q => (tchL (L.take k) q || tchC a j q) || ((a + j) / 32 == q)) = fun q => tchL (L.take k) q || tchC a (j + 1) q := by
            funext q; rw [tchC_succ, Bool.or_assoc]
          rw [hset] at him4
          have hle := him4.size_le Tryd.underlying3 200 (fun q hq' => by
            unfold setF at hq'
            by_cases hb : (tchL (L.take k) q || tchC a (j + 1) q) = true
            · rcases Bool.or_eq_true_iff.1 hb with h | h
              · exact HTL.out q h
              · exact tchC_lt h (by omega)
            · rw [if_neg hb] at hq'; cases hq')
          have hB4 : Below w.heap.size w W4 := hs.out.1.bel.grown hg4 hs.out.1.bel.size (fun q hq => Nat.le_of_eq (Option.some.inj hq))
          have y0 := hs.out.2
          have hc4 : W4.cell? ⟨bx, 0, none⟩ = some (.int .i64 (a : Int)) := (World.cell?_of_block (a := ⟨bx, 0, none⟩) (hg4.block _ (block_lt_of_cell y0) (fun e => HNE.out (Option.some.inj e)))).trans y0
          have HN : Hidden (DpSt w W4 w.heap.size (fun q => tchL (L.take k) q || tchC a (j + 1) q) ∧ W4.cell? ⟨bx, 0, none⟩ = some (.int .i64 (a : Int))) := ⟨⟨⟨_, him4, hle⟩, hB4, Nat.le_refl _⟩, hc4⟩
          rw [← s4] at hrun
          clear hs him2 him4 hset hle hB4 hc4 hg4 hs4 s4 hc2 hq
          go_wp2_with fail
          go_roundg (nl - (j + 1))
          case measure => omega
          case rel => exact ⟨j + 1, by omega, rfl, by go_num, HN⟩
        · obtain rfl : nl = j := by omega
          have t5 : decide ((nl : Int) < nl) = false := by simp
          have HN : Hidden (DpSt w _ w.heap.size (tchL (L.take (k + 1))) ∧ ∀ c ∈ L.take (k + 1), InC c) := ⟨by
            have h := hs.out.1
            have e : (fun q => tchL (L.take k) q || tchC a nl q) = tchL (L.take (k + 1)) := by funext q; exact (HS.out q).symm
            rw [e] at h
            exact ⟨h, HNX.out⟩⟩
          clear hs
          go_wp2_with fail
          go_roundg (m - (k + 1))
          case measure => omega
          case rel => exact ⟨k + 1, by omega, rfl, by go_num, HN⟩
    · obtain rfl : m = k := by omega
      exfalso
      have h := hst.out.2
      rw [List.take_of_length_le (by rw [HM.out]; exact Nat.le_refl _)] at h
      exact HI.out h
end Go.Proofs.YtbnobjlphmkgeaaDoor
/- vaultsame.Changes of like lists. -/
namespace Go.Proofs.YtbnobjlphmkgeaaDoor
open Go.RowKit

set_option maxRecDepth 100000 in
set_option maxHeartbeats 1000000 in
theorem sameCh_eq (A B : Option Addr) (ca cb m : Nat) (L : List Chg) (w : World) (hm : L.length = m) (hml : m ≤ 281474976710656) (hA : RdG w A L) (hB : RdG w B L) :
    Calls Tryd.prog 24 #[.slice A m ca, .slice B m cb] w fun e w' => e = .returned (.bool true) ∧ Below w.heap.size w w' := by
  have HR := Hidden.mk (And.intro hA (And.intro hB hm))
  have t0 : ((m : Int) != (m : Int)) = false := by simp
  clear hA hB hm
  go_enter Tryd.func24, Tryd.ntmps24
  go_wp2_with fail
  clear t0
  go_loopg [5] m (fun r iv wr => ∃ k : Nat, k ≤ m ∧ r = m - k ∧ iv = .int .i64 (k : Int) ∧ Hidden (Below w.heap.size w wr))
  case atStart => exact ⟨0, by omega, rfl, rfl, ⟨Below.refl _ _⟩⟩
  case round =>
    obtain ⟨k, hk, rfl, rfl, hs⟩ := hrel
    have HS := Hidden.mk hs.out
    clear hs
    by_cases hlt : k < m
    · have i0 : (0 : Int) ≤ k := by omega
      have i1 : (k : Int) < m := by omega
      have s1 : IntKind.i64.wrap ((k : Int) + 1) = (k : Int) + 1 := IntWalk.i64_in _ (by omega)
      have hkl : k < L.length := by rw [HR.out.2.2]; exact hlt
      obtain ⟨g, off, Ao, An, co, cn, rfl, hc⟩ := HR.out.1 k hkl
      obtain ⟨g', off', Ao', An', co', cn', rfl, hc'⟩ := HR.out.2.1 k hkl
      have HC := Hidden.mk (fun W (hW : Below w.heap.size w W) => And.intro (hc.below hW) (hc'.below hW))
      generalize L[k] = ch at *
      obtain ⟨at_, old, new⟩ := ch
      have e1 : (at_ != at_) = false := by simp
      have e2 : (old == old) = true := beq_self_eq_true old
      have e3 : (new == new) = true := beq_self_eq_true new
      have HV : Hidden (∀ W, Below w.heap.size w W → (W.cell? ⟨g, off + k * 3, none⟩ = some (.int .i64 at_) ∧ W.cell? ⟨g, off + k * 3 + 1, none⟩ = some (.slice Ao old.length co) ∧ W.cell? ⟨g, off + k * 3 + 2, none⟩ = some (.slice An new.length cn)) ∧ (W.cell? ⟨g', off' + k * 3, none⟩ = some (.int .i64 at_) ∧ W.cell? ⟨g', off' + k * 3 + 1, none⟩ = some (.slice Ao' old.length co') ∧ W.cell? ⟨g', off' + k * 3 + 2, none⟩ = some (.slice An' new.length cn')) ∧ (convert 41 9 (.slice Ao old.length co)).run Tryd.prog W = .ok (sv old) W ∧ (convert 41 9 (.slice An new.length cn)).run Tryd.prog W = .ok (sv new) W ∧ (convert 41 9 (.slice Ao' old.length co')).run Tryd.prog W = .ok (sv old) W ∧ (convert 41 9 (.slice An' new.length cn')).run Tryd.prog W = .ok (sv new) W) := ⟨fun W hW => by
        obtain ⟨p, q⟩ := HC.out W hW
        exact ⟨⟨p.at_, p.old, p.new⟩, ⟨q.at_, q.old, q.new⟩, conv_text W Ao _ co _ rfl p.rdO, conv_text W An _ cn _ rfl p.rdN, conv_text W Ao' _ co' _ rfl q.rdO, conv_text W An' _ cn' _ rfl q.rdN⟩⟩
      have HB2 : Hidden (Below w.heap.size w wr.drew) := ⟨HS.out.trans (((Below.refl _ wr).drew).mono HS.out.size)⟩
      clear hc hc' HC
      go_upto_region 6 with (fail)
      go_region_held3 (fun W => (W.cell? ⟨g, off + k * 3, none⟩ = some (.int .i64 at_) ∧ W.cell? ⟨g, off + k * 3 + 1, none⟩ = some (.slice Ao old.length co) ∧ W.cell? ⟨g, off + k * 3 + 2, none⟩ = some (.slice An new.length cn)) ∧ (W.cell? ⟨g', off' + k * 3, none⟩ = some (.int .i64 at_) ∧ W.cell? ⟨g', off' + k * 3 + 1, none⟩ = some (.slice Ao' old.length co') ∧ W.cell? ⟨g', off' + k * 3 + 2, none⟩ = some (.slice An' new.length cn')) ∧ (convert 41 9 (.slice Ao old.length co)).run Tryd.prog W = .ok (sv old) W ∧ (convert 41 9 (.slice An new.length cn)).run Tryd.prog W = .ok (sv new) W ∧ (convert 41 9 (.slice Ao' old.length co')).run Tryd.prog W = .ok (sv old) W ∧ (convert 41 9 (.slice An' new.length cn')).run Tryd.prog W = .ok (sv new) W) (first | exact HV.out _ HB2.out | exact HV.out _ HS.out) (fail)
      rename_i hh_
      clear hh_
      generalize wr.drew = w2 at *
      go_wp2_with fail
      go_roundg (m - (k + 1))
      case measure => omega
      case rel => exact ⟨k + 1, by omega, rfl, by go_num, HB2⟩
    · obtain rfl : k = m := by omega
      have t4 : decide ((k : Int) < k) = false := by simp
      go_wp2_with fail
      go_ret
      exact ⟨rfl, HS.out⟩
end Go.Proofs.YtbnobjlphmkgeaaDoor
/- The contracts of errors.As at a target that points to an api.Errno, of plain.Told and of vaultsame.Error. After the guide's worked example on errors.As at a concrete target. -/
namespace Go.Proofs.YtbnobjlphmkgeaaDoor
open Go.RowKit Go.Extern.Stop Go.Stop Go.Extern

theorem rl_valueOfP (t : Addr) (w : World) : (ReflectliteValue.unpack (.iface 109 (.pointer (some t)))).run Tryd.prog w
    = .ok (.agg #[.pointer (some ⟨1, 109, none⟩), .pointer (some ⟨w.heap.size, 0, none⟩), .int .u64 150]) (w.alloc (.cells #[.pointer (some t)] 109)) := by kernel_rfl
theorem rl_typeP (a : Addr) (w : World) : (ReflectliteValue.methodAny (ReflectliteValue.valueError "reflectlite.Value.Type" 0) (fun t _ _ _ => ReflectliteType.toType t) #[.agg #[.pointer (some ⟨1, 109, none⟩), .pointer (some a), .int .u64 150]]).run Tryd.prog w
    = .ok (.iface 131 (.agg #[.pointer (some ⟨1, 109, none⟩)])) w := by kernel_rfl
theorem rl_kindP (w : World) : ((ReflectliteType.abiMethod fun t => (fun a : Nat => Value.int IntKind.u8 (a : Int)) <$> Rtype.kind t) #[.pointer (some ⟨1, 109, none⟩)]).run Tryd.prog w = .ok (.int .u8 22) w := by kernel_rfl
theorem rl_kindE (w : World) : ((ReflectliteType.abiMethod fun t => (fun a : Nat => Value.int IntKind.u8 (a : Int)) <$> Rtype.kind t) #[.pointer (some ⟨1, 69, none⟩)]).run Tryd.prog w = .ok (.int .u8 2) w := by kernel_rfl
theorem rl_m (z : Sem Value) (f : TypeId → Addr → Nat → Nat → Sem Value) (v : Value) :
    ReflectliteValue.method z f #[v] = (do match ← ReflectliteValue.parts v with | none => z | some (t, a, fl) => f t a fl (fl % 32)) := rfl
theorem rl_partsP (a : Addr) (w : World) : (ReflectliteValue.parts (.agg #[.pointer (some ⟨1, 109, none⟩), .pointer (some a), .int .u64 150])).run Tryd.prog w = .ok (some (109, a, 150)) w := by kernel_rfl
theorem rl_isNilP (a p : Addr) (W : World) (ha : W.cell? a = some (.pointer (some p))) :
    (ReflectliteValue.method (ReflectliteValue.valueError "reflectlite.Value.IsNil" 0) ReflectliteValue.isNil #[.agg #[.pointer (some ⟨1, 109, none⟩), .pointer (some a), .int .u64 150]]).run Tryd.prog W = .ok (.bool false) W := by
  rw [rl_m]
  simp only [Sem.run_bind, rl_partsP, Result.andThen]
  simp [ReflectliteValue.isNil, loadVar, isAgg, underlying, Tryd.underlying109, ha, Result.andThen]
theorem rl_elemP (w : World) : (ReflectliteType.method ReflectliteType.elem #[.agg #[.pointer (some ⟨1, 109, none⟩)]]).run Tryd.prog w = .ok (.iface 131 (.agg #[.pointer (some ⟨1, 69, none⟩)])) w := by kernel_rfl
theorem rl_implE (w : World) : (ReflectliteType.relation "Implements" ReflectliteType.implements_ #[.agg #[.pointer (some ⟨1, 69, none⟩)], .iface 131 (.agg #[.pointer (some ⟨1, 27, none⟩)])]).run Tryd.prog w = .ok (.bool true) w := by kernel_rfl
theorem rl_typeOfE (v : Value) (w : World) : (ReflectliteType.typeOf #[.iface 69 v]).run Tryd.prog w = .ok (.iface 131 (.agg #[.pointer (some ⟨1, 69, none⟩)])) w := by kernel_rfl
theorem rl_assignE (w : World) : (ReflectliteType.relation "AssignableTo" ReflectliteType.assignableTo #[.agg #[.pointer (some ⟨1, 69, none⟩)], .iface 131 (.agg #[.pointer (some ⟨1, 69, none⟩)])]).run Tryd.prog w = .ok (.bool true) w := by kernel_rfl
theorem rl_valueOfE (k : Int) (w : World) : (ReflectliteValue.unpack (.iface 69 (.int .i64 k))).run Tryd.prog w
    = .ok (.agg #[.pointer (some ⟨1, 69, none⟩), .pointer (some ⟨w.heap.size, 0, none⟩), .int .u64 130]) (w.alloc (.cells #[.int .i64 k] 69)) := by kernel_rfl
theorem rl_elemOfP (w : World) : (Rtype.elem? 109).run Tryd.prog w = .ok (some 69) w := by kernel_rfl
theorem rl_mkE (p : Addr) (w : World) : (ReflectliteValue.mk 69 p ReflectliteValue.flagAddr).run Tryd.prog w = .ok (.agg #[.pointer (some ⟨1, 69, none⟩), .pointer (some p), .int .u64 386]) w := by kernel_rfl
theorem rl_elemVP (a p : Addr) (W : World) (ha : W.cell? a = some (.pointer (some p))) :
    (ReflectliteValue.method (ReflectliteValue.valueError "reflectlite.Value.Elem" 0) ReflectliteValue.elem #[.agg #[.pointer (some ⟨1, 109, none⟩), .pointer (some a), .int .u64 150]]).run Tryd.prog W
      = .ok (.agg #[.pointer (some ⟨1, 69, none⟩), .pointer (some p), .int .u64 386]) W := by
  rw [rl_m]
  simp only [Sem.run_bind, rl_partsP, Result.andThen]
  simp [ReflectliteValue.elem, loadVar, isAgg, underlying, Tryd.underlying109, ha, Result.andThen, rl_elemOfP, rl_mkE]
theorem rl_s (v x : Value) : ReflectliteValue.set #[v, x] = (do
    let (some (dst, a, fl), some (src, b, _)) := (← ReflectliteValue.parts v, ← ReflectliteValue.parts x)
      | unsupported (.noEntry "extern/(internal/reflectlite.Value).Set.zeroValue")
    if fl / ReflectliteValue.flagAddr % 2 == 0 then unsupported (.noEntry "extern/(internal/reflectlite.Value).Set.unaddressable")
    let val ← loadVar src b
    if ← Rtype.directlyAssignable dst src then storeVar dst a val
    else if ← Rtype.implements dst src then
      if (← Rtype.kind src) == 20 then
        match val with
        | .nilIface => unsupported (.noEntry "extern/reflectlite: a nil value of one interface type handed on as a value of another")
        | _ => storeVar dst a val
      else storeVar dst a (.iface src val)
    else panicString ("reflectlite.Set: value of type " ++ (← Rtype.spelt src) ++ " is not assignable to type " ++ (← Rtype.spelt dst))
    pure (.tuple #[])) := rfl
theorem rl_partsEa (a : Addr) (w : World) : (ReflectliteValue.parts (.agg #[.pointer (some ⟨1, 69, none⟩), .pointer (some a), .int .u64 386])).run Tryd.prog w = .ok (some (69, a, 386)) w := by kernel_rfl
theorem rl_partsE (a : Addr) (w : World) : (ReflectliteValue.parts (.agg #[.pointer (some ⟨1, 69, none⟩), .pointer (some a), .int .u64 130])).run Tryd.prog w = .ok (some (69, a, 130)) w := by kernel_rfl
theorem rl_directE (w : World) : (Rtype.directlyAssignable 69 69).run Tryd.prog w = .ok true w := by kernel_rfl
theorem rl_setE (ta b : Addr) (k : Int) (old : Value) (W : World) (hb : W.cell? b = some (.int .i64 k)) (ht : W.cell? ta = some old) (hf : W.frozen? ta = false) :
    (ReflectliteValue.set #[.agg #[.pointer (some ⟨1, 69, none⟩), .pointer (some ta), .int .u64 386], .agg #[.pointer (some ⟨1, 69, none⟩), .pointer (some b), .int .u64 130]]).run Tryd.prog W
      = .ok (.tuple #[]) (W.setCell ta (.int .i64 k)) := by
  rw [rl_s]
  simp only [Sem.run_bind, rl_partsEa, rl_partsE, Result.andThen]
  simp [ReflectliteValue.flagAddr, loadVar, isAgg, underlying, Tryd.underlying69, hb, Result.andThen, rl_directE, storeVar, Value.cells, storeCells, Addr.add]
  rw [run_store Tryd.prog W ta _ _ (by rfl)]
  simp [ht, hf]

/-- what the row's condition gives: the variable errors.errorType -/
def HasType (w : World) : Prop := w.cell? ⟨0, 0, none⟩ = some (.iface 131 (.agg #[.pointer (some ⟨1, 27, none⟩)]))
theorem HasType.below {B : Nat} {w w' : World} (h : HasType w) (hB : 0 < B) (hb : Below B w w') : HasType w' := (hb.cell (p := ⟨0, 0, none⟩) hB).trans h
theorem HasType.lt {w : World} (h : HasType w) : 0 < w.heap.size := block_lt_of_cell h
end Go.Proofs.YtbnobjlphmkgeaaDoor
/- The contracts of errors.As at a target that points to an api.Errno, of plain.Told and of vaultsame.Error. -/
namespace Go.Proofs.YtbnobjlphmkgeaaDoor
open Go.RowKit Go.Extern.Stop Go.Stop Go.Extern

theorem rl_methKind (n : Nat) (h : Value) (w : World) : (Go.method (n + 1) 131 (.agg #[h]) "Kind").run Tryd.prog w = .ok (107, h) w := by kernel_rfl
theorem rl_methElem (n : Nat) (h : Value) (w : World) : (Go.method (n + 1) 131 (.agg #[h]) "Elem").run Tryd.prog w = .ok (117, .agg #[h]) w := by kernel_rfl
theorem rl_methImpl (n : Nat) (h : Value) (w : World) : (Go.method (n + 1) 131 (.agg #[h]) "Implements").run Tryd.prog w = .ok (118, .agg #[h]) w := by kernel_rfl
theorem rl_methAssign (n : Nat) (h : Value) (w : World) : (Go.method (n + 1) 131 (.agg #[h]) "AssignableTo").run Tryd.prog w = .ok (115, .agg #[h]) w := by kernel_rfl

set_option maxRecDepth 100000 in
set_option maxHeartbeats 4000000 in
theorem as_errno (k : Int) (t : Addr) (old : Value) (w : World) (hg : HasType w) (ht0 : w.cell? t = some old) (hf0 : w.frozen? t = false) :
    Calls Tryd.prog 58 #[.iface 69 (.int .i64 k), .iface 109 (.pointer (some t))] w fun ev w' => ev = .returned (.bool true) ∧ w' = ((((w.alloc (.cells #[.pointer (some t)] 109)).alloc (.cells #[.pointer (some ⟨1, 109, none⟩), .pointer (some ⟨w.heap.size, 0, none⟩), .int .u64 150] 117)).alloc (.cells #[.pointer (some ⟨1, 109, none⟩), .pointer (some ⟨w.heap.size, 0, none⟩), .int .u64 150] 117)).alloc (.cells #[.int .i64 k] 69)).setCell t (.int .i64 k) := by
  have h6 := @run_callFunc_extern Tryd.prog 64 _ (fun args => ReflectliteValue.unpack (args.getD 0 (.tuple #[]))) Tryd.func64 (by kernel_rfl) (by kernel_rfl) (by kernel_rfl) (by kernel_rfl)
  have h7 := @run_callFunc_extern Tryd.prog 65 _ (ReflectliteValue.methodAny (ReflectliteValue.valueError "reflectlite.Value.Type" 0) (fun t _ _ _ => ReflectliteType.toType t)) Tryd.func65 (by kernel_rfl) (by kernel_rfl) (by kernel_rfl) (by kernel_rfl)
  have h8 := @run_callFunc_extern Tryd.prog 66 _ (ReflectliteValue.method (ReflectliteValue.valueError "reflectlite.Value.IsNil" 0) ReflectliteValue.isNil) Tryd.func66 (by kernel_rfl) (by kernel_rfl) (by kernel_rfl) (by kernel_rfl)
  have h27 := @run_callFunc_extern Tryd.prog 107 _ (ReflectliteType.abiMethod fun t => do pure (.int .u8 (← Rtype.kind t))) Tryd.func107 (by kernel_rfl) (by kernel_rfl) (by kernel_rfl) (by kernel_rfl)
  have h37 := @run_callFunc_extern Tryd.prog 117 _ (ReflectliteType.method ReflectliteType.elem) Tryd.func117 (by kernel_rfl) (by kernel_rfl) (by kernel_rfl) (by kernel_rfl)
  have h38 := @run_callFunc_extern Tryd.prog 118 _ (ReflectliteType.relation "Implements" ReflectliteType.implements_) Tryd.func118 (by kernel_rfl) (by kernel_rfl) (by kernel_rfl) (by kernel_rfl)
  have h10 := @run_callFunc_extern Tryd.prog 72 _ ReflectliteType.typeOf Tryd.func72 (by kernel_rfl) (by kernel_rfl) (by kernel_rfl) (by kernel_rfl)
  have h35 := @run_callFunc_extern Tryd.prog 115 _ (ReflectliteType.relation "AssignableTo" ReflectliteType.assignableTo) Tryd.func115 (by kernel_rfl) (by kernel_rfl) (by kernel_rfl) (by kernel_rfl)
  have h11 := @run_callFunc_extern Tryd.prog 73 _ (ReflectliteValue.method (ReflectliteValue.valueError "reflectlite.Value.Elem" 0) ReflectliteValue.elem) Tryd.func73 (by kernel_rfl) (by kernel_rfl) (by kernel_rfl) (by kernel_rfl)
  have h12 := @run_callFunc_extern Tryd.prog 74 _ ReflectliteValue.set Tryd.func74 (by kernel_rfl) (by kernel_rfl) (by kernel_rfl) (by kernel_rfl)
  have tO := rl_typeOfE
  have aE := rl_assignE
  have vE := rl_valueOfE
  have f6 := rl_valueOfP
  have f7 := rl_typeP
  have mK := rl_methKind
  have mE := rl_methElem
  have mI := rl_methImpl
  have mA := rl_methAssign
  have kP := rl_kindP
  have kE := rl_kindE
  have eP := rl_elemP
  have iE := rl_implE
  have n8 := rl_isNilP ⟨w.heap.size, 0, none⟩ t ((w.alloc (.cells #[.pointer (some t)] 109)).alloc (.cells #[.pointer (some ⟨1, 109, none⟩), .pointer (some ⟨w.heap.size, 0, none⟩), .int .u64 150] 117)) (by simp)
  have hlt : 0 < w.heap.size := hg.lt
  unfold HasType at hg
  have hg2 : ((w.alloc (.cells #[.pointer (some t)] 109)).alloc (.cells #[.pointer (some ⟨1, 109, none⟩), .pointer (some ⟨w.heap.size, 0, none⟩), .int .u64 150] 117)).cell? ⟨0, 0, none⟩ = some (.iface 131 (.agg #[.pointer (some ⟨1, 27, none⟩)])) := by
    rw [World.cell?_alloc_lt _ _ ⟨0, 0, none⟩ (by simp), World.cell?_alloc_lt _ _ ⟨0, 0, none⟩ hlt]; exact hg
  have htl : t.block < w.heap.size := by
    rcases Nat.lt_or_ge t.block w.heap.size with h | h
    · exact h
    · simp [World.cell?, Array.getElem?_eq_none h] at ht0
  have el := rl_elemVP ⟨w.heap.size, 0, none⟩ t (((w.alloc (.cells #[.pointer (some t)] 109)).alloc (.cells #[.pointer (some ⟨1, 109, none⟩), .pointer (some ⟨w.heap.size, 0, none⟩), .int .u64 150] 117)).alloc (.cells #[.pointer (some ⟨1, 109, none⟩), .pointer (some ⟨w.heap.size, 0, none⟩), .int .u64 150] 117)) (by rw [World.cell?_alloc_lt _ _ ⟨w.heap.size, 0, none⟩ (by simp; omega)]; simp)
  have st := rl_setE t ⟨w.heap.size + 1 + 1 + 1, 0, none⟩ k old ((((w.alloc (.cells #[.pointer (some t)] 109)).alloc (.cells #[.pointer (some ⟨1, 109, none⟩), .pointer (some ⟨w.heap.size, 0, none⟩), .int .u64 150] 117)).alloc (.cells #[.pointer (some ⟨1, 109, none⟩), .pointer (some ⟨w.heap.size, 0, none⟩), .int .u64 150] 117)).alloc (.cells #[.int .i64 k] 69))
    (by rw [World.cell?_alloc_at _ _ _ _ (by simp)]; rfl)
    (by rw [World.cell?_alloc_lt _ _ t (by simp; omega), World.cell?_alloc_lt _ _ t (by simp; omega), World.cell?_alloc_lt _ _ t (by simp; omega), World.cell?_alloc_lt _ _ t htl]; exact ht0)
    (by rw [World.frozen?_alloc_old _ _ t (by simp; omega), World.frozen?_alloc_old _ _ t (by simp; omega), World.frozen?_alloc_old _ _ t (by simp; omega), World.frozen?_alloc_old _ _ t (Nat.ne_of_lt htl)]; exact hf0)
  go_enter Tryd.func58, Tryd.ntmps58
  go_wp2
  refine wp_loop_rounds 1 ?_
  rw [rounds_succ]
  go_wp2
  go_ret
  exact ⟨rfl, rfl⟩
end Go.Proofs.YtbnobjlphmkgeaaDoor
/- The contracts of plain.Told and of vaultsame.Error. -/
namespace Go.Proofs.YtbnobjlphmkgeaaDoor
open Go.RowKit

theorem told_nil (w : World) : Calls Tryd.prog 38 #[.nilIface] w fun e w' => e = .returned (.int .i64 0) ∧ w = w' := by
  go_enter Tryd.func38, Tryd.ntmps38
  go_wp2_with fail
  go_ret
  exact ⟨rfl, rfl⟩
theorem told_errno (k : Int) (w : World) (hg : HasType w) : Calls Tryd.prog 38 #[.iface 69 (.int .i64 k)] w fun e w' => e = .returned (.int .i64 k) ∧ Below w.heap.size w w' := by
  have hW : Below w.heap.size w (w.alloc (.cells #[.int .i64 0] 69)) := (Below.refl _ _).alloc (Nat.le_refl _) _
  have hg1 := hg.below hg.lt hW
  have HC := Hidden.mk (as_errno k ⟨w.heap.size, 0, none⟩ (.int .i64 0) _ hg1 (by simp) (by simp))
  clear hg1
  go_enter Tryd.func38, Tryd.ntmps38
  go_wp2_with fail
  refine HC.out.mono ?_
  rintro e w' ⟨rfl, hw'⟩
  have hB : Below w.heap.size w w' := by
    rw [hw']
    exact ((((hW.alloc hW.size _).alloc (by simp; omega) _).alloc (by simp; omega) _).alloc (by simp; omega) _).setCell (p := ⟨w.heap.size, 0, none⟩) (Nat.le_refl _) _
  have hc : w'.cell? ⟨w.heap.size, 0, none⟩ = some (.int .i64 k) := by
    rw [hw']
    refine World.cell?_setCell_same' _ _ _ ?_
    rw [(((((Below.refl _ (w.alloc (.cells #[.int .i64 0] 69))).alloc (Nat.le_refl _) _).alloc (by simp) _).alloc (by simp) _).alloc (by simp) _).cell (p := ⟨w.heap.size, 0, none⟩) (by simp)]
    simp
  clear hw' HC hW
  go_wp2_with fail
  go_ret
  exact ⟨rfl, hB⟩
theorem err_nil (x : Int) (w : World) : Calls Tryd.prog 9 #[.nilIface, .int .i64 x] w fun e w' => e = .returned (.bool ((0 : Int) == x)) ∧ Below w.heap.size w w' := by
  go_enter Tryd.func9, Tryd.ntmps9
  go_wp2_with fail
  refine (told_nil _).mono ?_
  rintro e w' ⟨rfl, rfl⟩
  go_wp2_with fail
  go_ret
  exact ⟨rfl, Below.refl _ _⟩
theorem err_some (k x : Int) (w : World) (hg : HasType w) : Calls Tryd.prog 9 #[.iface 69 (.int .i64 k), .int .i64 x] w fun e w' => e = .returned (.bool (k == x)) ∧ Below w.heap.size w w' := by
  go_enter Tryd.func9, Tryd.ntmps9
  go_wp2_with fail
  refine (told_errno k _ hg).mono ?_
  rintro e w' ⟨rfl, hb⟩
  go_wp2_with fail
  go_ret
  exact ⟨rfl, hb⟩
/-- .. of an error that is nil or a number -/
theorem err_any (n : Nat) (x : Int) (w : World) (hg : HasType w) : Calls Tryd.prog 9 #[errV n, .int .i64 x] w fun e w' => e = .returned (.bool ((n : Int) == x)) ∧ Below w.heap.size w w' := by
  unfold errV
  by_cases h : n = 0
  · rw [if_pos h, h]; exact err_nil x w
  · rw [if_neg h]; exact err_some n x w hg
end Go.Proofs.YtbnobjlphmkgeaaDoor
/- What comes in: the program's own slices, opened. -/
namespace Go.Proofs.YtbnobjlphmkgeaaDoor
open Go.RowKit Go.ChangeShapes Go.WideShapes Go.ChangeAt

section
variable {H : Type} {enc : TypeId × Value → H} {w : World} {v : Value} {d : DataW H} {ps : List MemPlace} {base : Nat} {r : Reach}
end
end Go.Proofs.YtbnobjlphmkgeaaDoor
/- What comes in: slices of changes. -/
namespace Go.Proofs.YtbnobjlphmkgeaaDoor
open Go.RowKit Go.ChangeShapes Go.WideShapes Go.ChangeAt

/-- a change: where, what stood there, what stands there -/
structure ChX where
  at_ : Int
  A : Option Addr
  ca : Nat
  old : Bytes
  B : Option Addr
  cb : Nat
  new : Bytes
  deriving Inhabited
def hcells (x : ChX) : List Value := [.int .i64 x.at_, .slice x.A x.old.length x.ca, .slice x.B x.new.length x.cb]
structure ChOk (w : World) (x : ChX) : Prop where
  at_ : -9223372036854775808 ≤ x.at_ ∧ x.at_ ≤ 9223372036854775807
  capA : x.old.length ≤ x.ca
  leA : x.ca ≤ 140737488351232
  rdA : Rd w x.A x.old
  capB : x.new.length ≤ x.cb
  leB : x.cb ≤ 140737488351232
  rdB : Rd w x.B x.new
def ChX.chg (x : ChX) : Chg := ⟨x.at_, x.old, x.new⟩
theorem RdX.rdg {w : World} {A : Option Addr} {L : List ChX} (h : RdX hcells 3 w A L) (ho : ∀ x ∈ L, ChOk w x) : RdG w A (L.map ChX.chg) := fun i hi => by
  have hi' : i < L.length := by simpa using hi
  obtain ⟨b, off, hA, hc⟩ := h i hi'
  have hx := ho _ (List.getElem_mem hi')
  have e : (L.map ChX.chg)[i] = (L[i]).chg := by simp
  rw [e]
  exact ⟨b, off, _, _, _, _, hA, hc 0 _ rfl, hc 1 _ rfl, hc 2 _ rfl, hx.rdA, hx.rdB, hx.capA, hx.capB⟩
section
variable {H : Type} {enc : TypeId × Value → H} {w : World} {v : Value} {d : DataW H} {ps : List MemPlace} {base : Nat} {r : Reach}
set_option maxRecDepth 20000 in
theorem open_changes (hv : Value.okWide Tryd.prog w r base 56 v) (h : DataW.Trod enc Tryd.prog w 0 (fun _ => true) true 56 v d ps) (hz : (d.weights Tryd.prog 56).all (· ≤ reachBytes) = true) :
    ∃ (A : Option Addr) (c : Nat) (L : List ChX), v = .slice A L.length c ∧ L.length ≤ c ∧ c ≤ 140737488351232 ∧ (∀ x ∈ L, ChOk w x) ∧ RdX hcells 3 w A L := by
  have hb : decide (1 ≤ Tryd.prog.bytesOf 98) = true := by kernel_rfl
  have hC : Tryd.prog.cellsOf 98 = 3 := by kernel_rfl
  refine open_seq (P := Tryd.prog) hcells 3 ChOk Tryd.underlying56 hC (by omega) (of_decide_eq_true hb) (fun n cs x hl ht hz => ?_) hv h hz
  match cs, hl with
  | [c0, c1, c2], _ =>
    obtain ⟨xs, m, _, hx, _, hlen, hg⟩ := DataW.trod_struct Tryd.underlying98 ht
    match xs, hlen with
    | [y0, y1, y2], _ =>
      have k0 : Tryd.prog.cellsOf 3 = 1 := by kernel_rfl
      have k2 : Tryd.prog.cellsOf 41 = 1 := by kernel_rfl
      have t0 : DataW.trod enc Tryd.prog w 0 (fun _ => true) true m 3 [c0] = some y0 := by simpa [k0] using hg 0 _ rfl
      have t1 : DataW.trod enc Tryd.prog w 0 (fun _ => true) true m 41 [c1] = some y1 := by simpa [k2] using hg 1 _ rfl
      have t2 : DataW.trod enc Tryd.prog w 0 (fun _ => true) true m 41 [c2] = some y2 := by simpa [k2] using hg 2 _ rfl
      obtain ⟨a0, ha0, -, wa0⟩ := DataW.trod_int Tryd.underlying3 t0
      simp only [List.cons.injEq, and_true] at ha0
      subst ha0
      rw [hx] at hz
      simp only [DataW.weights, Tryd.underlying98, DataW.weightsEach, List.all_append, Bool.and_eq_true, List.map_cons, List.map_nil] at hz
      obtain ⟨-, z1, z2, -⟩ := hz
      obtain ⟨A, c, l, hb1, hc1, hm1, hr1⟩ := open_bytes_in Tryd.underlying41 Tryd.underlying5 (by kernel_rfl) (by kernel_rfl) t1 z1
      obtain ⟨B, e, l', hb2, hc2, hm2, hr2⟩ := open_bytes_in Tryd.underlying41 Tryd.underlying5 (by kernel_rfl) (by kernel_rfl) t2 z2
      exact ⟨⟨a0, A, c, l, B, e, l'⟩, by rw [hb1, hb2]; rfl, wf_i64' wa0, hc1, hm1, hr1, hc2, hm2, hr2⟩
end
end Go.Proofs.YtbnobjlphmkgeaaDoor
/- DiffTells: the walk. -/
namespace Go.Proofs.YtbnobjlphmkgeaaDoor
open Go.RowKit Go.Maps Go.ChangeMaps

theorem up_uniq : ∀ {S T : List Nat}, S.Pairwise (· < ·) → T.Pairwise (· < ·) → (∀ k, k ∈ S ↔ k ∈ T) → S = T
  | [], [], _, _, _ => rfl
  | [], t :: T, _, _, h => absurd ((h t).2 (by simp)) (by simp)
  | s :: S, [], _, _, h => absurd ((h s).1 (by simp)) (by simp)
  | s :: S, t :: T, hS, hT, h => by
    obtain ⟨h1, h2⟩ := List.pairwise_cons.1 hS
    obtain ⟨k1, k2⟩ := List.pairwise_cons.1 hT
    have a1 : s = t ∨ s ∈ T := List.mem_cons.1 ((h s).1 (by simp))
    have a2 : t = s ∨ t ∈ S := List.mem_cons.1 ((h t).2 (by simp))
    have hst : s = t := by
      rcases a1 with e | e
      · exact e
      · rcases a2 with f | f
        · exact f.symm
        · have := k1 _ e; have := h1 _ f; omega
    subst hst
    rw [up_uniq h2 k2 (fun k => ?_)]
    constructor
    · intro hk
      rcases List.mem_cons.1 ((h k).1 (List.mem_cons_of_mem _ hk)) with e | e
      · have := h1 _ hk; omega
      · exact e
    · intro hk
      rcases List.mem_cons.1 ((h k).2 (List.mem_cons_of_mem _ hk)) with e | e
      · have := k1 _ hk; omega
      · exact e
theorem tch_eq {L : List Chg} {S : List Nat} (hin : ∀ c ∈ L, InC c) (hu : S.Pairwise (· < ·)) (hm : ∀ k, k ∈ S ↔ tchL L k = true) : S = tchN L 201 := by
  refine up_uniq hu (List.pairwise_lt_range.filter _) fun k => ?_
  rw [hm k]
  unfold tchN
  rw [List.mem_filter, List.mem_range]
  exact ⟨fun h => ⟨by have := tchL_lt hin h; omega, h⟩, fun h => h.2⟩
theorem diffF_lenT (a b : Bytes) (f : Nat) : ∀ i, (diffF a b f i).length ≤ f := by
  induction f with
  | zero => intro i; simp [diffF]
  | succ f ih =>
    intro i
    simp only [diffF]
    split
    · have := ih (i + runAt a b i + 1)
      split <;> simp <;> omega
    · simp
/-- the fault of two lists of bytes -/
def dfE (na nb : Nat) : Nat := if na ≠ nb then 3 else if 6400 < na then 4 else 0
def dfW (a b : Bytes) : List Chg := if dfE a.length b.length = 0 then diffL a b else []
theorem pdiff_any (A B : Option Addr) (na nb ca cb : Nat) (a b : Bytes) (w : World) (hna : a.length = na) (hnb : b.length = nb) (hca : na ≤ ca) (hcb : nb ≤ cb) (ha : Rd w A a) (hb : Rd w B b) :
    Calls Tryd.prog 23 #[.slice A na ca, .slice B nb cb] w fun e w' => ∃ A' c', e = .returned (.tuple #[.slice A' (dfW a b).length c', errV (dfE na nb)]) ∧ RdG w' A' (dfW a b) ∧ Below w.heap.size w w' := by
  by_cases h1 : na = nb
  · subst h1
    by_cases h2 : 6400 < na
    · have h3 : dfE na na = 4 := by unfold dfE; rw [if_neg (by simp), if_pos h2]
      have h4 : dfW a b = [] := by unfold dfW; rw [hna, hnb, h3]; rfl
      rw [h3, h4]
      exact (diff_e4 A B na ca cb w h2).mono fun e w' ⟨h, h'⟩ => by subst h'; exact ⟨none, 0, h, fun i hi => absurd hi (by simp), Below.refl _ _⟩
    · have h3 : dfE na na = 0 := by unfold dfE; rw [if_neg (by simp), if_neg h2]
      have h4 : dfW a b = diffL a b := by unfold dfW; rw [hna, hnb, h3]; rfl
      rw [h3, h4]
      refine (diff_ok A B na ca cb a b w hna hnb (by omega) hca hcb ha hb).mono ?_
      rintro e w' ⟨v, rfl, ho, hbel⟩
      obtain ⟨A', c', rfl, -, -, hr⟩ := ho.rd
      exact ⟨A', c', rfl, hr.rdg, hbel⟩
  · have h3 : dfE na nb = 3 := by unfold dfE; rw [if_pos h1]
    have h4 : dfW a b = [] := by unfold dfW; rw [hna, hnb, h3]; rfl
    rw [h3, h4]
    exact (diff_e3 A B na nb ca cb w h1).mono fun e w' ⟨h, h'⟩ => by subst h'; exact ⟨none, 0, h, fun i hi => absurd hi (by simp), Below.refl _ _⟩
/-- which pages changes touch, and the fault -/
def pgN (L : List Chg) : Nat := if L.all inB = true then 0 else 1
def pgS (L : List Chg) : List Nat := if L.all inB = true then tchN L 201 else []
theorem all_in {L : List Chg} : L.all inB = true ↔ ∀ c ∈ L, InC c := by
  rw [List.all_eq_true]
  exact ⟨fun h c hc => inB_iff.1 (h c hc), fun h c hc => inB_iff.2 (h c hc)⟩
theorem pgS_le (L : List Chg) : (pgS L).length ≤ 201 := by
  unfold pgS
  split
  · exact tchN_le L 201
  · simp
theorem rpgs_any (C : Option Addr) (m c : Nat) (L : List Chg) (w : World) (hm : L.length = m) (hr : RdG w C L) (hml : m ≤ 281474976710656) :
    Calls Tryd.prog 27 #[.slice C m c] w fun e w' => ∃ A' c', e = .returned (.tuple #[.slice A' (pgS L).length c', .int .i64 (pgN L : Int)]) ∧ RdX ncell 1 w' A' (pgS L) ∧ Below w.heap.size w w' := by
  refine (rpages_any C m c L w hm hr hml).mono ?_
  rintro e w' ⟨hb, ⟨⟨x, hx, hn⟩, rfl⟩ | ⟨hin, v, rfl, ho⟩⟩
  · have h0 : ¬ L.all inB = true := fun h => hn (all_in.1 h x hx)
    unfold pgN pgS
    rw [if_neg h0, if_neg h0]
    exact ⟨none, 0, rfl, fun i hi => absurd hi (by simp), hb⟩
  · have h0 : L.all inB = true := all_in.2 hin
    unfold pgN pgS
    rw [if_pos h0, if_pos h0]
    obtain ⟨A', c', rfl, -, -⟩ := own_split ho
    exact ⟨A', c', rfl, own_rdX3 (fun _ => rfl) rfl ho, hb⟩
theorem ppgs_any (C : Option Addr) (m c : Nat) (L : List Chg) (w : World) (hm : L.length = m) (hr : RdG w C L) (hml : m ≤ 281474976710656) :
    Calls Tryd.prog 28 #[.slice C m c] w fun e w' => ∃ A' c', e = .returned (.tuple #[.slice A' (pgS L).length c', errV (pgN L)]) ∧ RdX ncell 1 w' A' (pgS L) ∧ Below w.heap.size w w' := by
  by_cases h0 : L.all inB = true
  · unfold pgN pgS
    rw [if_pos h0, if_pos h0]
    refine (dpages_ok C m c L w hm hr (all_in.1 h0) hml).mono ?_
    rintro e w' ⟨v, S, rfl, hu, hmem, ho, hb⟩
    rw [← tch_eq (all_in.1 h0) hu hmem]
    obtain ⟨A', c', rfl, -, hx⟩ := own_ints ho rfl
    exact ⟨A', c', rfl, hx, hb⟩
  · unfold pgN pgS
    rw [if_neg h0, if_neg h0]
    exact (dpages_no C m c L w hm hr (fun h => h0 (all_in.2 h)) hml).mono fun e w' ⟨h, h'⟩ => ⟨none, 0, h, fun i hi => absurd hi (by simp), h'⟩
set_option maxRecDepth 100000 in
set_option maxHeartbeats 2000000 in
theorem diffTells_walk (A B C : Option Addr) (na nb m ca cb cc : Nat) (a b : Bytes) (L : List Chg) (w : World) (hg : HasType w) (hna : a.length = na) (hnb : b.length = nb) (hm : L.length = m) (hla : na ≤ 140737488351232) (hlm : m ≤ 140737488351232) (hca : na ≤ ca) (hcb : nb ≤ cb) (hcc : m ≤ cc) (ha : Rd w A a) (hb : Rd w B b) (hL : RdG w C L) :
    Calls Tryd.prog 4 #[.slice A na ca, .slice B nb cb, .slice C m cc] w fun e w' => e = .returned (.bool true) ∧ Below w.heap.size w w' := by
  have HG := Hidden.mk hg
  obtain ⟨e0, he0⟩ : ∃ x, dfE na nb = x := ⟨_, rfl⟩
  obtain ⟨W, hW⟩ : ∃ x, dfW a b = x := ⟨_, rfl⟩
  have HE0 := Hidden.mk he0
  have HW0 : Hidden (e0 ≠ 0 → W = []) := ⟨fun h => by rw [← hW]; unfold dfW; rw [hna, hnb, he0, if_neg h]⟩
  have HWL : Hidden (W.length ≤ 281474976710656) := ⟨by
    rw [← hW]; unfold dfW
    split
    · rename_i h
      rw [hna, hnb] at h
      have h1 : na = nb ∧ na ≤ 6400 := by
        unfold dfE at h
        split at h
        · cases h
        · rename_i h1
          split at h
          · cases h
          · exact ⟨Decidable.not_not.1 h1, by omega⟩
      have : (diffL a b).length ≤ a.length := diffF_lenT a b _ 0
      omega
    · simp⟩
  have HRD : Hidden (e0 = 0 → ∀ w1, Below w.heap.size w w1 → Calls Tryd.prog 22 #[.slice A na ca, .slice B nb cb] w1 fun e w' => ∃ A' c', e = .returned (.slice A' W.length c') ∧ W.length ≤ c' ∧ RdG w' A' W ∧ Below w1.heap.size w1 w') := ⟨fun h w1 hw => by
    have h1 : na = nb ∧ na ≤ 6400 := by
      rw [← he0] at h
      unfold dfE at h
      split at h
      · cases h
      · rename_i h1
        split at h
        · cases h
        · exact ⟨Decidable.not_not.1 h1, by omega⟩
    have h2 : W = diffL a b := by rw [← hW]; unfold dfW; rw [hna, hnb, he0, if_pos h]
    obtain ⟨h1, h3⟩ := h1
    subst h1
    rw [h2]
    exact rdiff_any A B na ca cb a b w1 hna hnb h3 (ha.below hw) (hb.below hw)⟩
  have HPD : Hidden (∀ w1, Below w.heap.size w w1 → Calls Tryd.prog 23 #[.slice A na ca, .slice B nb cb] w1 fun e w' => ∃ A' c', e = .returned (.tuple #[.slice A' W.length c', errV e0]) ∧ RdG w' A' W ∧ Below w1.heap.size w1 w') := ⟨fun w1 hw => by
    rw [← hW, ← he0]
    exact pdiff_any A B na nb ca cb a b w1 hna hnb hca hcb (ha.below hw) (hb.below hw)⟩
  have HRA : Hidden (∀ w1, Below w.heap.size w w1 → Calls Tryd.prog 25 #[.slice A na ca, .slice C m cc] w1 (RaAns w1 (apB a L) (apN a L))) := ⟨fun w1 hw => rapply_any A na ca a C m cc L w1 hna hla (ha.below hw) hm (hL.below hw)⟩
  have HPA : Hidden (∀ w1, Below w.heap.size w w1 → Calls Tryd.prog 26 #[.slice A na ca, .slice C m cc] w1 (SlAns w1 (apB a L) (apN a L))) := ⟨fun w1 hw => papply_any A na ca a C m cc L w1 hna hla (ha.below hw) hm hcc (hL.below hw)⟩
  have HRP : Hidden (∀ w1, Below w.heap.size w w1 → Calls Tryd.prog 27 #[.slice C m cc] w1 fun e w' => ∃ A' c', e = .returned (.tuple #[.slice A' (pgS L).length c', .int .i64 (pgN L : Int)]) ∧ RdX ncell 1 w' A' (pgS L) ∧ Below w1.heap.size w1 w') := ⟨fun w1 hw => rpgs_any C m cc L w1 hm (hL.below hw) (by omega)⟩
  have HPP : Hidden (∀ w1, Below w.heap.size w w1 → Calls Tryd.prog 28 #[.slice C m cc] w1 fun e w' => ∃ A' c', e = .returned (.tuple #[.slice A' (pgS L).length c', errV (pgN L)]) ∧ RdX ncell 1 w' A' (pgS L) ∧ Below w1.heap.size w1 w') := ⟨fun w1 hw => ppgs_any C m cc L w1 hm (hL.below hw) (by omega)⟩
  have HPL := Hidden.mk (pgS_le L)
  have HER : Hidden (∀ (k : Nat) w1, Below w.heap.size w w1 → Calls Tryd.prog 9 #[errV k, .int .i64 (k : Int)] w1 fun e w' => e = .returned (.bool true) ∧ Below w1.heap.size w1 w') := ⟨fun k w1 hw => by
    have := err_any k (k : Int) w1 (HG.out.below HG.out.lt hw)
    rwa [beq_self_eq_true] at this⟩
  generalize apB a L = XB at *
  generalize apN a L = XN at *
  generalize pgS L = PS at *
  generalize pgN L = PN at *
  clear hg he0 hW hna hnb hm hcc ha hb hL hla hlm hca hcb
  go_enter Tryd.func4, Tryd.ntmps4
  go_upto_if 24 with (fail)
  go_cut [7] (fun ev wx => ev = .int .i64 (e0 : Int) ∧ w = wx)
  case first =>
    by_cases h1 : na = nb
    · subst h1
      have d0 : ((na : Int) != (na : Int)) = false := by simp
      by_cases h2 : 6400 < na
      · have d1 : decide (6400 < (na : Int)) = true := by simp; omega
        have d1' : decide (6400 < na) = true := by simpa using h2
        have HZ : Hidden (e0 = 4) := ⟨by rw [← HE0.out]; unfold dfE; rw [if_neg (by simp), if_pos h2]⟩
        clear h2
        go_wp2_with fail
        go_meet
        exact ⟨by rw [HZ.out]; rfl, rfl⟩
      · have d1 : decide (6400 < (na : Int)) = false := by simp; omega
        have d1' : decide (6400 < na) = false := by simpa using h2
        have HZ : Hidden (e0 = 0) := ⟨by rw [← HE0.out]; unfold dfE; rw [if_neg (by simp), if_neg h2]⟩
        clear h2
        go_wp2_with fail
        go_meet
        exact ⟨by rw [HZ.out]; rfl, rfl⟩
    · have d0 : ((na : Int) != (nb : Int)) = true := by simp; omega
      have HZ : Hidden (e0 = 3) := ⟨by rw [← HE0.out]; unfold dfE; rw [if_pos h1]⟩
      clear h1
      go_wp2_with fail
      go_meet
      exact ⟨by rw [HZ.out]; rfl, rfl⟩
  case rest =>
  obtain ⟨rfl, rfl⟩ := hcut
  go_upto_if 29 with (fail)
  go_cut [8] (fun v wx => ∃ A' c', v = .slice A' W.length c' ∧ Hidden (RdG wx A' W ∧ Below w.heap.size w wx))
  case first =>
    by_cases hz : e0 = 0
    · have HC := Hidden.mk (HRD.out hz w (Below.refl _ _))
      subst hz
      go_wp2_with fail
      refine HC.out.mono ?_
      rintro e w1 ⟨A', c', rfl, -, hr, hb1⟩
      have HF := Hidden.mk (And.intro hr hb1)
      clear hr hb1 HC
      go_wp2_with fail
      go_meet
      exact ⟨A', c', rfl, HF⟩
    · have d0 : ((e0 : Int) == 0) = false := by simpa using hz
      have hw := HW0.out hz
      clear hz
      try simp only [d0]
      go_wp2_with fail
      go_meet
      exact ⟨none, 0, by rw [hw]; rfl, ⟨by rw [hw]; exact fun i hi => absurd hi (by simp), Below.refl _ _⟩⟩
  case rest =>
  obtain ⟨A1, c1, rfl, hs1⟩ := hcut
  have HS1 := Hidden.mk hs1.out
  have HC := Hidden.mk (HPD.out _ hs1.out.2)
  obtain ⟨mw, hmw⟩ : ∃ q, W.length = q := ⟨_, rfl⟩
  have HMW := Hidden.mk hmw
  rw [hmw] at HC HWL ⊢
  clear hs1 hmw HRD HPD
  go_wp2_with fail
  refine HC.out.mono ?_
  rintro e w2 ⟨A2, c2, rfl, hr2, hb2⟩
  have HS2 := Hidden.mk (And.intro (HS1.out.1.below hb2) (And.intro hr2 (HS1.out.2.trans (hb2.mono HS1.out.2.size))))
  clear hr2 hb2 HC HS1
  go_wp2_with fail
  refine (HER.out e0 _ HS2.out.2.2).mono ?_
  rintro e w3 ⟨rfl, hb3⟩
  have HS3 := Hidden.mk (And.intro (HS2.out.1.below hb3) (And.intro (HS2.out.2.1.below hb3) (HS2.out.2.2.trans (hb3.mono HS2.out.2.2.size))))
  clear hb3 HS2
  have HC := Hidden.mk (sameCh_eq A2 A1 c2 c1 mw W w3 HMW.out HWL.out HS3.out.2.1 HS3.out.1)
  go_wp2_with fail
  refine HC.out.mono ?_
  rintro e w4 ⟨rfl, hb4⟩
  have HB4 := Hidden.mk (HS3.out.2.2.trans (hb4.mono HS3.out.2.2.size))
  clear hb4 HC HS3
  go_wp2_with fail
  refine (HRA.out _ HB4.out).mono ?_
  rintro e w5 ⟨A5, c5, rfl, -, hr5, hb5⟩
  have HS5 := Hidden.mk (And.intro hr5 (HB4.out.trans (hb5.mono HB4.out.size)))
  clear hr5 hb5 HB4 HRA
  go_wp2_with fail
  refine (HPA.out _ HS5.out.2).mono ?_
  rintro e w6 ⟨A6, c6, rfl, -, hr6, -, hb6⟩
  have HS6 := Hidden.mk (And.intro (HS5.out.1.below hb6) (And.intro hr6 (HS5.out.2.trans (hb6.mono HS5.out.2.size))))
  clear hr6 hb6 HS5 HPA
  go_wp2_with fail
  refine (HER.out XN _ HS6.out.2.2).mono ?_
  rintro e w7 ⟨rfl, hb7⟩
  have HS7 := Hidden.mk (And.intro (HS6.out.1.below hb7) (And.intro (HS6.out.2.1.below hb7) (HS6.out.2.2.trans (hb7.mono HS6.out.2.2.size))))
  clear hb7 HS6
  go_wp2_with fail
  refine (HRP.out _ HS7.out.2.2).mono ?_
  rintro e w8 ⟨A8, c8, rfl, hx8, hb8⟩
  have HS8 := Hidden.mk (And.intro (And.intro (HS7.out.1.below hb8) (HS7.out.2.1.below hb8)) (And.intro hx8 (HS7.out.2.2.trans (hb8.mono HS7.out.2.2.size))))
  clear hx8 hb8 HS7 HRP
  go_wp2_with fail
  refine (HPP.out _ HS8.out.2.2).mono ?_
  rintro e w9 ⟨A9, c9, rfl, hx9, hb9⟩
  have HS9 := Hidden.mk (And.intro (And.intro (HS8.out.1.1.below hb9) (HS8.out.1.2.below hb9)) (And.intro (And.intro (HS8.out.2.1.below hb9) hx9) (HS8.out.2.2.trans (hb9.mono HS8.out.2.2.size))))
  clear hx9 hb9 HS8 HPP
  go_wp2_with fail
  refine (HER.out PN _ HS9.out.2.2).mono ?_
  rintro e w10 ⟨rfl, hb10⟩
  have HS10 := Hidden.mk (And.intro (And.intro (HS9.out.1.1.below hb10) (HS9.out.1.2.below hb10)) (And.intro (And.intro (HS9.out.2.1.1.below hb10) (HS9.out.2.1.2.below hb10)) (HS9.out.2.2.trans (hb10.mono HS9.out.2.2.size))))
  clear hb10 HS9
  obtain ⟨mp, hmp⟩ : ∃ q, PS.length = q := ⟨_, rfl⟩
  have HMP := Hidden.mk hmp
  rw [hmp] at HPL ⊢
  have HC := Hidden.mk (sameInts_eq A9 A8 c9 c8 mp PS w10 HMP.out (by have := HPL.out; omega) HS10.out.2.1.2 HS10.out.2.1.1)
  clear hmp
  go_wp2_with fail
  refine HC.out.mono ?_
  rintro e w11 ⟨rfl, hb11⟩
  obtain ⟨mx, hmx⟩ : ∃ q, XB.length = q := ⟨_, rfl⟩
  rw [hmx]
  have q1 := conv_text w11 A5 mx c5 XB hmx (HS10.out.1.1.below hb11)
  have q2 := conv_text w11 A6 mx c6 XB hmx (HS10.out.1.2.below hb11)
  have HB11 := Hidden.mk (HS10.out.2.2.trans (hb11.mono HS10.out.2.2.size))
  clear hb11 HC HS10 hmx
  go_wp2_with fail
  go_ret
  exact ⟨by simp, HB11.out⟩
end Go.Proofs.YtbnobjlphmkgeaaDoor
