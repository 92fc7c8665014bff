/- Contracts and plain laws, put together: Store1, EqB, LayR, SortI, SortJ, Reach2, Reach3, Store2, Store3, ReachQ, RefWP, LayN, Keys3, Reach4, Play1, Store4, Store5, Play2, StoreSafeP, StoreSafe0, Told, Told2, Told3, StoreKeeps0. -/
import Derived.Test.YtoieifphklodoaaGreatDoorStoreKeepsFrameM5
import Derived.Test.YtoieifphklodoaaGreatDoorStoreKeepsFrameM4
import Derived.StillTailTactics
import Derived.Test.YtoieifphklodoaaGreatDoorStoreKeepsFrameM1
import Derived.Deep.LoopGhost
import Derived.BigQuiet
import Derived.Shelf.SlGeneric
import Derived.Shelf.Slices.CompactI
import Derived.Shelf.Slices.Reverse
import Derived.Test.YtoieifphklodoaaGreatDoorStoreKeepsFrameM2
import Derived.Deep.RegionHeld3
import Derived.Test.YtoieifphklodoaaGreatDoorStoreKeepsFrameM3
import Derived.Deep.DeepCutAuto
import Derived.Deep.CutBlock
import Derived.LaidEql
import Derived.Stop.Asserts
import Derived.RowKitTokens
/- A store in memory, and what keeps it; Heap, Stamp, Abort. -/
namespace Go.Proofs.YtoieifphklodoaaGreatDoor
open Go.RowKit Go.Maps Go.ChangeMaps

/-- block s is a store: its pages p (of the device d), its heap h, and what it kept, in the row gk -/
structure StH (w0 w : World) (F GH : Nat → Prop) (s p d h gk ck st n : Nat) (l K : Bytes) : Prop where
  blk : w.heap[s]? = some (.cells #[.pointer (some ⟨p, 0, none⟩), .pointer (some ⟨h, 0, none⟩), .slice (some ⟨gk, 0, none⟩) K.length ck] 118 (0, 0))
  pg : PgH w F p d st n
  hp : Hp w0 w GH h l
  kep : Row w 5 gk ck K
  sf : ¬ F s
  kf : ¬ F gk
  gf : ∀ q, GH q → ¬ F q
  sg : ¬ GH s
  pgg : ¬ GH p
  kg : ¬ GH gk
  s0 : w0.heap.size ≤ s
  p0 : w0.heap.size ≤ p
  k0 : w0.heap.size ≤ gk
section
variable {w0 w w' : World} {F F' GH GH' G : Nat → Prop} {s p d h gk ck st n : Nat} {l l' K : Bytes}
theorem StH.lt (a : StH w0 w F GH s p d h gk ck st n l K) : s < w.heap.size ∧ p < w.heap.size ∧ gk < w.heap.size := ⟨(Array.getElem?_eq_some_iff.1 a.blk).1, a.pg.lt, a.kep.lt⟩
theorem StH.cells (a : StH w0 w F GH s p d h gk ck st n l K) : (w.cell? ⟨s, 0, none⟩ = some (.pointer (some ⟨p, 0, none⟩)) ∧ w.cell? ⟨s, 1, none⟩ = some (.pointer (some ⟨h, 0, none⟩)) ∧ w.cell? ⟨s, 2, none⟩ = some (.slice (some ⟨gk, 0, none⟩) K.length ck)) ∧ ∀ k, w.frozen? ⟨s, k, none⟩ = false := three a.blk
theorem StH.ne (a : StH w0 w F GH s p d h gk ck st n l K) : s ≠ p ∧ s ≠ gk ∧ p ≠ gk := ⟨ne_cells a.blk a.pg.1 (by decide), ne_row a.blk a.kep (by decide), ne_row a.pg.1 a.kep (by decide)⟩
/-- what is written elsewhere does not touch it -/
theorem StH.keep (a : StH w0 w F GH s p d h gk ck st n l K) (hk : Keep G w w') (hG : ∀ q, (GH q ∨ q = s ∨ q = p ∨ q = gk) → ¬ G q) (hn : ∀ q, G q → w0.heap.size ≤ q) (hF : ∀ q, F' q → F q ∨ w.heap.size ≤ q) : StH w0 w' F' GH s p d h gk ck st n l K := by
  obtain ⟨l1, l2, l3⟩ := a.lt
  have hno : ∀ q, q < w.heap.size → ¬ F q → ¬ F' q := fun q hq hf hf' => by rcases hF q hf' with h' | h'; exact hf h'; omega
  exact ⟨(hk.block s l1 (hG s (.inr (.inl rfl)))).trans a.blk, ⟨(hk.block p l2 (hG p (.inr (.inr (.inl rfl))))).trans a.pg.1, hno p l2 a.pg.2⟩, a.hp.keep hk (fun q hq => hG q (.inl hq)) hn, hk.row a.kep (hG gk (.inr (.inr (.inr rfl)))),
    hno s l1 a.sf, hno gk l3 a.kf, fun q hq => hno q (a.hp.flt q hq) (a.gf q hq), a.sg, a.pgg, a.kg, a.s0, a.p0, a.k0⟩
theorem StH.below (a : StH w0 w F GH s p d h gk ck st n l K) (hb : Below w.heap.size w w') : StH w0 w' F GH s p d h gk ck st n l K :=
  a.keep (G := fun _ => False) (Keep.of_below hb) (fun _ _ hf => hf) (fun _ hf => hf.elim) (fun _ hf => .inl hf)
/-- its device is written -/
theorem StH.dev (a : StH w0 w F GH s p d h gk ck st n l K) (hk : Keep F w w') (hn : ∀ q, F q → w0.heap.size ≤ q) (hF : ∀ q, F' q → F q ∨ w.heap.size ≤ q) : StH w0 w' F' GH s p d h gk ck st n l K :=
  a.keep hk (fun q hq hf => by
    rcases hq with hq | rfl | rfl | rfl
    · exact a.gf q hq hf
    · exact a.sf hf
    · exact a.pg.2 hf
    · exact a.kf hf) hn hF
/-- its heap is another -/
theorem StH.heap (a : StH w0 w F GH s p d h gk ck st n l K) (hm : HpM w0 w w' GH GH' h l') (hl : ∀ q, F q → q < w.heap.size) : StH w0 w' F GH' s p d h gk ck st n l' K := by
  obtain ⟨l1, l2, l3⟩ := a.lt
  have hno : ∀ q, q < w.heap.size → ¬ GH q → ¬ GH' q := fun q hq hf hf' => by rcases hm.nw q hf' with h' | h'; exact hf h'; omega
  exact ⟨(hm.kp.block s l1 a.sg).trans a.blk, ⟨(hm.kp.block p l2 a.pgg).trans a.pg.1, a.pg.2⟩, hm.hp, hm.kp.row a.kep a.kg, a.sf, a.kf, fun q hq hf => by
    rcases hm.nw q hq with h' | h'
    · exact a.gf q h' hf
    · have := hl q hf; omega, hno s l1 a.sg, hno p l2 a.pgg, hno gk l3 a.kg, a.s0, a.p0, a.k0⟩
theorem stheap_any (a : StH w0 w F GH s p d h gk ck st n l K) :
    Calls Tryz.prog 16 #[.pointer (some ⟨s, 0, none⟩)] w fun e w' => e = .returned (.pointer (some ⟨h, 0, none⟩)) ∧ w = w' := by
  obtain ⟨⟨c0, c1, c2⟩, -⟩ := a.cells
  clear a
  go_enter Tryz.func16, Tryz.ntmps16
  go_wp2_with fail
  go_ret
  exact ⟨rfl, rfl⟩
theorem sstamp_any (a : StH w0 w F GH s p d h gk ck st n l K) :
    Calls Tryz.prog 47 #[.pointer (some ⟨s, 0, none⟩)] w fun e w' => e = .returned (.int .i64 st) ∧ w = w' := by
  obtain ⟨⟨c0, c1, c2⟩, -⟩ := a.cells
  have HP := Hidden.mk (pstamp_any a.pg)
  clear a
  go_enter Tryz.func47, Tryz.ntmps47
  go_wp2_with fail
  refine HP.out.mono ?_
  rintro e w1 ⟨rfl, rfl⟩
  go_wp2_with fail
  go_ret
  exact ⟨rfl, rfl⟩
set_option maxRecDepth 100000 in
theorem sabort_any (a : StH w0 w F GH s p d h gk ck st n l K) (hr : rightB K.length = true) (hl : ∀ q, F q → q < w.heap.size) :
    Calls Tryz.prog 12 #[.pointer (some ⟨s, 0, none⟩)] w fun e w' => e = .returned (.tuple #[]) ∧ ∃ GH', HpM w0 w w' GH GH' h K ∧ StH w0 w' F GH' s p d h gk ck st n K K := by
  have hdr := (Below.refl w.heap.size w).drew
  have HA := Hidden.mk (And.intro (a.below hdr) (And.intro (a.hp.same hdr) hl))
  obtain ⟨⟨c0, c1, c2⟩, -⟩ := a.cells
  obtain ⟨⟨d0, d1, d2⟩, -⟩ := HA.out.1.cells
  have HP := Hidden.mk (hreset_ok gk ck K HA.out.1.hp hr HA.out.1.kep.rd)
  clear a hr hl hdr
  go_enter Tryz.func12, Tryz.ntmps12
  go_upto_region 0 with (fail)
  go_still_tail 8, (by kernel_rfl)
  change wpList _ _ _ _ _ w.drew
  clear c0 c1 c2
  generalize hw : w.drew = wd at *
  go_wp2_with fail
  refine HP.out.mono ?_
  rintro e w1 ⟨rfl, GH', hm⟩
  have HM := Hidden.mk (And.intro (HA.out.2.1.trans hm) (HA.out.1.heap hm (fun q hq => by have := HA.out.2.2 q hq; have := HA.out.2.1.kp.size; omega)))
  clear hm HP
  go_wp2_with fail
  go_end0
  exact ⟨rfl, GH', HM.out.1, HM.out.2⟩
end
end Go.Proofs.YtoieifphklodoaaGreatDoor
/- The contract of slices.Equal at bytes. -/
namespace Go.Proofs.YtoieifphklodoaaGreatDoor
open Go.RowKit

set_option maxRecDepth 100000 in
theorem eqB_any (A B : Option Addr) (n c d : Nat) (a b : Bytes) (w : World) (hn : a.length = n) (hm : b.length = n) (hl : n ≤ 100000) (ha : Rd w A a) (hb : Rd w B b) :
    Calls Tryz.prog 117 #[.slice A n c, .slice B n d] w fun e w' => e = .returned (.bool (a == b)) ∧ Below w.heap.size w w' := by
  have HA := Hidden.mk (And.intro ha hb)
  have HN := Hidden.mk (And.intro hn hm)
  clear ha hb hn hm
  have t0 : ((n : Int) != (n : Int)) = false := by simp
  go_enter Tryz.func117, Tryz.ntmps117
  go_wp2_with fail
  clear t0
  go_loopg [13] n (fun r i wr => ∃ k : Nat, k ≤ n ∧ r = n - k ∧ i = .int .i64 (k : Int) ∧ Hidden (a.take k = b.take k ∧ Below w.heap.size w wr))
  case atStart => exact ⟨0, by omega, rfl, rfl, ⟨rfl, Below.refl _ _⟩⟩
  case round =>
    obtain ⟨k, hk, rfl, rfl, hs⟩ := hrel
    have HS := Hidden.mk hs.out
    clear hs
    by_cases hlt : k < n
    · have i0 : (0 : Int) ≤ k := by omega
      have i1 : (k : Int) < n := by omega
      have s1 : IntKind.i64.wrap ((k : Int) + 1) = (k : Int) + 1 := IntWalk.i64_in _ (by omega)
      have hka : k < a.length := by rw [HN.out.1]; exact hlt
      have hkb : k < b.length := by rw [HN.out.2]; exact hlt
      obtain ⟨p, off, rfl, -⟩ := HA.out.1 k hka
      obtain ⟨q, off2, rfl, -⟩ := HA.out.2 k hkb
      have hcp := (HA.out.1.below HS.out.2).at_ k hka
      have hcq := (HA.out.2.below HS.out.2).at_ k hkb
      have HB : Hidden (Below w.heap.size w wr) := ⟨HS.out.2⟩
      by_cases he : a[k] = b[k]
      · have hbq : ((a[k].toNat : Int) != (b[k].toNat : Int)) = false := by simp [he]
        have HT : Hidden (a.take (k + 1) = b.take (k + 1)) := ⟨by rw [List.take_succ_eq_append_getElem hka, List.take_succ_eq_append_getElem hkb, HS.out.1, he]⟩
        clear he HS
        generalize a[k] = x at *
        generalize b[k] = y at *
        go_wp2_with fail
        go_quiet (fail)
        go_wp2_with fail
        go_roundg (n - (k + 1))
        case measure => omega
        case rel => exact ⟨k + 1, by omega, rfl, by go_num, ⟨HT.out, below_drewN HB.out _⟩⟩
      · have hbq : ((a[k].toNat : Int) != (b[k].toNat : Int)) = true := by
          simp only [bne_iff_ne, ne_eq]; intro h; apply he; rw [← UInt8.toNat_inj]; omega
        have HT : Hidden ((a == b) = false) := ⟨by
          rw [beq_eq_false_iff_ne]
          intro e
          subst e
          exact he rfl⟩
        clear he HS
        generalize a[k] = x at *
        generalize b[k] = y at *
        go_wp2_with fail
        go_quiet (fail)
        go_wp2_with fail
        go_ret
        exact ⟨by rw [HT.out]; rfl, below_drewN HB.out _⟩
    · have HT : Hidden ((a == b) = true) := ⟨by
        have h1 := HS.out.1
        rw [List.take_of_length_le (by rw [HN.out.1]; omega), List.take_of_length_le (by rw [HN.out.2]; omega)] at h1
        rw [beq_iff_eq]; exact h1⟩
      go_wp2_with fail
      go_ret
      exact ⟨by rw [HT.out]; rfl, HS.out.2⟩
end Go.Proofs.YtoieifphklodoaaGreatDoor
/- Laid by hand: slices.Compact and slices.Reverse at ints. -/
namespace Go.Proofs.YtoieifphklodoaaGreatDoor
open Go.Shelf
def compactI_ren : Go.Shelf.Ren := ⟨fun | 20 => 187 | n => n, fun | 0 => 0 | 3 => 3 | 4 => 4 | 22 => 78 | n => n, fun | n => n⟩
theorem compactI : Go.Proofs.Lays2.n20 Tryz.prog compactI_ren := {
  mixed := by kernel_rfl
  f20 := Tryz.func187.trans (congrArg some (by kernel_rfl))
  t0 := Tryz.underlying0
  a0 := Tryz.isAgg0
  z0 := Tryz.sizeOf0
  v0 := Tryz.zeroValue0
  t3 := Tryz.underlying3
  a3 := Tryz.isAgg3
  z3 := Tryz.sizeOf3
  v3 := Tryz.zeroValue3
  t4 := Tryz.underlying4
  a4 := Tryz.isAgg4
  z4 := Tryz.sizeOf4
  v4 := Tryz.zeroValue4
  t22 := Tryz.underlying78
  a22 := Tryz.isAgg78
  z22 := Tryz.sizeOf78
  v22 := Tryz.zeroValue78
  i3 := by kernel_rfl }
end Go.Proofs.YtoieifphklodoaaGreatDoor
/- Sorting, compacting and turning own rows of ints. -/
namespace Go.Proofs.YtoieifphklodoaaGreatDoor
open Go.RowKit Go.Sort Go.Shelf Go.Lib

theorem take_putCellsZ (enc : Int → Value) (cur : Array Value) (d : Array Int) (h : d.size ≤ cur.size) : (putCells enc 0 d cur).toList.take d.size = d.toList.map enc := by
  apply List.ext_getElem?
  intro j
  by_cases hj : j < d.size
  · rw [List.getElem?_take_of_lt hj, Array.getElem?_toList]
    simp [putCells, hj, show j < cur.size by omega]
  · rw [List.getElem?_take_eq_none (by omega), List.getElem?_eq_none (by simp; omega)]
theorem holdsZ_own {w : World} {base : Nat} {e : TypeId} {g n cap : Nat} {L : List Int} (h : w.ownsRow base e 1 (.slice (some ⟨g, 0, none⟩) n cap) n (L.map (Value.int .i64))) :
    Holds (Value.int .i64) w g 0 L.toArray ∧ g < w.heap.size := by
  rcases h.2 with ⟨h1, _⟩ | ⟨g', cap', cur, he, _, hh, _⟩
  · cases h1
  · injection he with he _ hcap
    injection he with he
    injection he with he
    subst he hcap
    refine ⟨fun j hj => ?_, (Array.getElem?_eq_some_iff.1 hh).1⟩
    have hj' : j < L.length := by simpa using hj
    have := h.cells (g := g) rfl j (.int .i64 L[j]) (by simp [hj'])
    rw [Addr.add_lit] at this
    rw [getElem!_pos _ j hj]
    exact ⟨by simpa using this, by simp [World.frozen?, hh]⟩
theorem own_putZ {w : World} {base : Nat} {e : TypeId} {g n cap m : Nat} {L : List Int} {d : Array Int} {os : Array Obj} (hd : d.size = n) (h : w.ownsRow base e 1 (.slice (some ⟨g, 0, none⟩) n cap) n (L.map (Value.int .i64))) :
    (grow (putRow (Value.int .i64) (Sort.ahead w m) g 0 d) os).ownsRow base e 1 (.slice (some ⟨g, 0, none⟩) n cap) n (d.toList.map (Value.int .i64)) ∧ w.grownBy (grow (putRow (Value.int .i64) (Sort.ahead w m) g 0 d) os) (some g) := by
  rcases h.2 with ⟨h1, _⟩ | ⟨g', cap', cur, he, hb, hh, hc, hm, hz, ht⟩
  · cases h1
  · injection he with he _ hcap
    injection he with he
    injection he with he
    subst he hcap
    have hg : g < w.heap.size := (Array.getElem?_eq_some_iff.1 hh).1
    have hheap : (grow (putRow (Value.int .i64) (Sort.ahead w m) g 0 d) os).heap[g]? = some (.cells (putCells (Value.int .i64) 0 d cur) e (0, 0)) := by
      rw [heap_grow_old _ _ (by simpa [putRow, mapBlock, Sort.ahead] using hg)]
      simp [putRow, mapBlock, Sort.ahead, Array.getElem?_modify, hh, onCells]
    refine ⟨⟨by simp [hd], .inr ⟨g, cap, _, rfl, hb, hheap, hc, hm, by simp [putCells, hz], ?_⟩⟩, ?_⟩
    · rw [Nat.mul_one, ← hd, take_putCellsZ _ _ _ (by omega)]
    · refine ⟨rfl, rfl, rfl, by simp [putRow, mapBlock, Sort.ahead], fun q hq hne => ?_⟩
      rw [heap_grow_old _ _ (by simpa [putRow, mapBlock, Sort.ahead] using hq)]
      have : g ≠ q := fun e => hne (by rw [e])
      simp [putRow, mapBlock, Sort.ahead, Array.getElem?_modify, this]
def sortZ (L : List Int) : List Int := L.mergeSort fun x y => decide (x ≤ y)
theorem sortZ_any (base g n cap : Nat) (L : List Int) (w : World) (hn : L.length = n) (hl : n ≤ 100000) (h : w.ownsRow base 3 1 (.slice (some ⟨g, 0, none⟩) n cap) n (L.map (Value.int .i64))) :
    Calls Tryz.prog 186 #[.slice (some ⟨g, 0, none⟩) n cap] w fun e w' => e = .returned (.tuple #[]) ∧ w'.ownsRow base 3 1 (.slice (some ⟨g, 0, none⟩) n cap) n ((sortZ L).map (Value.int .i64)) ∧ w.grownBy w' (some g) := by
  subst hn
  obtain ⟨hH, hg⟩ := holdsZ_own h
  have hc := AnyM.slices_Sort_int sortI g 0 cap L w hH hg (by omega)
  change Calls Tryz.prog 186 _ _ _ at hc
  refine hc.mono ?_
  rintro e w' ⟨rfl, m, os, rfl⟩
  have h2 := own_putZ (m := m) (os := os) (d := (sortZ L).toArray) (by simp [sortZ]) h
  refine ⟨rfl, ?_, h2.2⟩
  have h3 := h2.1
  rw [List.toList_toArray] at h3
  exact h3
theorem grow_none (w : World) : grow w #[] = w := by
  unfold grow; simp
theorem own_putZ0 {w : World} {base : Nat} {e : TypeId} {g n cap m : Nat} {L : List Int} {d : Array Int} (hd : d.size = n) (h : w.ownsRow base e 1 (.slice (some ⟨g, 0, none⟩) n cap) n (L.map (Value.int .i64))) :
    (putRow (Value.int .i64) (Sort.ahead w m) g 0 d).ownsRow base e 1 (.slice (some ⟨g, 0, none⟩) n cap) n (d.toList.map (Value.int .i64)) ∧ w.grownBy (putRow (Value.int .i64) (Sort.ahead w m) g 0 d) (some g) := by
  have := own_putZ (m := m) (os := #[]) hd h
  rwa [grow_none] at this
theorem own_shrinkZ {w : World} {base : Nat} {e : TypeId} {g n k cap : Nat} {L M : List Int} (hk : k ≤ n) (hM : M.length = k) (h : w.ownsRow base e 1 (.slice (some ⟨g, 0, none⟩) n cap) n ((M ++ L).map (Value.int .i64))) :
    w.ownsRow base e 1 (.slice (some ⟨g, 0, none⟩) k cap) k (M.map (Value.int .i64)) := by
  rcases h.2 with ⟨h1, _⟩ | ⟨g', cap', cur, he, hb, hh, hc, hm, hz, ht⟩
  · cases h1
  · injection he with he _ hcap
    injection he with he
    injection he with he
    subst he hcap
    refine ⟨by simp [hM], .inr ⟨g, cap, cur, rfl, hb, hh, by omega, hm, hz, ?_⟩⟩
    have h3 := congrArg (List.take k) ht
    have h4 : List.take k (M.map (Value.int .i64)) = M.map (Value.int .i64) := List.take_of_length_le (by simp [hM])
    rw [List.take_take, Nat.mul_one, Nat.min_eq_left hk, List.map_append, List.take_append_of_le_length (by simp [hM]), h4] at h3
    rw [Nat.mul_one]
    exact h3
theorem compact_le (L : List Int) : (Lib.compact L).length ≤ L.length := by
  unfold Lib.compact Lib.compactUpTo
  rw [List.length_map]
  refine Nat.le_trans (List.length_filter_le ..) ?_
  simp
theorem compactZ_any (base g n cap : Nat) (L : List Int) (w : World) (hn : L.length = n) (hl : n ≤ 100000) (hcap : n ≤ cap) (h : w.ownsRow base 3 1 (.slice (some ⟨g, 0, none⟩) n cap) n (L.map (Value.int .i64))) :
    Calls Tryz.prog 187 #[.slice (some ⟨g, 0, none⟩) n cap] w fun e w' => e = .returned (.slice (some ⟨g, 0, none⟩) (Lib.compact L).length cap) ∧ w'.ownsRow base 3 1 (.slice (some ⟨g, 0, none⟩) (Lib.compact L).length cap) (Lib.compact L).length ((Lib.compact L).map (Value.int .i64)) ∧ w.grownBy w' (some g) := by
  subst hn
  obtain ⟨hH, hg⟩ := holdsZ_own h
  have hle := compact_le L
  have hc := Any.slices_Compact_int compactI g 0 cap L w hH (by omega) hcap
  change Calls Tryz.prog 187 _ _ _ at hc
  refine hc.mono ?_
  rintro e w' ⟨rfl, q, rfl⟩
  have h2 := own_putZ0 (m := q) (d := (Lib.compact L ++ List.replicate (L.length - (Lib.compact L).length) 0).toArray) (by simp; omega) h
  refine ⟨rfl, ?_, h2.2⟩
  have h3 := h2.1
  rw [List.toList_toArray] at h3
  exact own_shrinkZ hle rfl h3
end Go.Proofs.YtoieifphklodoaaGreatDoor
/- Sorting, compacting and turning own rows of numbers. -/
namespace Go.Proofs.YtoieifphklodoaaGreatDoor
open Go.RowKit Go.Sort Go.Shelf Go.Lib

theorem ncell_map (L : List Nat) : L.flatMap ncell = (L.map fun i : Nat => (i : Int)).map (Value.int .i64) := by
  rw [List.map_map, List.map_eq_flatMap]; rfl
theorem sortZ_cast (L : List Nat) : sortZ (L.map fun i : Nat => (i : Int)) = (sortNat L).map fun i : Nat => (i : Int) := by
  unfold sortZ sortNat
  rw [List.map_mergeSort]
  intro a _ b _
  simp
theorem sortNat_any (base n : Nat) (v : Value) (L : List Nat) (w : World) (hn : L.length = n) (hl : n ≤ 100000) (h : w.ownsRow base 3 1 v n (L.flatMap ncell)) :
    Calls Tryz.prog 186 #[v] w fun e w' => e = .returned (.tuple #[]) ∧ w'.ownsRow base 3 1 v n ((sortNat L).flatMap ncell) ∧ w.grownBy w' v.ownBlock := by
  rcases h.2 with ⟨rfl, h0⟩ | ⟨g, cap, cur, rfl, -⟩
  · have hL : L = [] := List.eq_nil_of_length_eq_zero (by omega)
    subst hL h0
    have hc := AnyM.slices_Sort_int_none sortI none 0 w
    change Calls Tryz.prog 186 _ _ _ at hc
    refine hc.mono ?_
    rintro e w' ⟨rfl, rfl⟩
    exact ⟨rfl, by rw [show sortNat [] = [] by simp [sortNat]]; exact h, World.grownBy.refl _ _⟩
  · have h' := h
    rw [ncell_map] at h'
    have hc := sortZ_any base g n cap _ w (by simpa using hn) hl h'
    refine hc.mono ?_
    rintro e w' ⟨rfl, h1, h2⟩
    rw [sortZ_cast, ← ncell_map] at h1
    exact ⟨rfl, h1, h2⟩
theorem compact_none (w : World) : Calls Tryz.prog 187 #[.slice none 0 0] w fun e w' => e = .returned (.slice none 0 0) ∧ w = w' := by
  go_enter Tryz.func187, Tryz.ntmps187
  go_wp2_with fail
  go_ret
  exact ⟨rfl, rfl⟩
theorem compactNat_any (base n : Nat) (v : Value) (L : List Nat) (w : World) (hn : L.length = n) (hl : n ≤ 100000) (h : w.ownsRow base 3 1 v n ((sortNat L).flatMap ncell)) :
    Calls Tryz.prog 187 #[v] w fun e w' => ∃ v', e = .returned v' ∧ w'.ownsRow base 3 1 v' (dedup (sortNat L)).length ((dedup (sortNat L)).flatMap ncell) ∧ w.grownBy w' v.ownBlock ∧ v'.ownBlock = v.ownBlock := by
  rcases h.2 with ⟨rfl, h0⟩ | ⟨g, cap, cur, rfl, -, -, hcap, -⟩
  · have hL : L = [] := List.eq_nil_of_length_eq_zero (by omega)
    subst hL h0
    have hs : sortNat [] = [] := by unfold sortNat; simp
    rw [hs] at h ⊢
    refine (compact_none w).mono ?_
    rintro e w' ⟨rfl, rfl⟩
    exact ⟨_, rfl, h, World.grownBy.refl _ _, rfl⟩
  · have h' := h
    rw [ncell_map] at h'
    have hc := compactZ_any base g n cap _ w (by rw [List.length_map, sortNat_len]; exact hn) hl hcap h'
    refine hc.mono ?_
    rintro e w' ⟨rfl, h1, h2⟩
    rw [compact_cast] at h1 ⊢
    rw [List.length_map, ← ncell_map] at h1
    rw [List.length_map]
    exact ⟨_, rfl, h1, h2, rfl⟩
end Go.Proofs.YtoieifphklodoaaGreatDoor
/- Package reach: from: who is led to, by the least way: what its walk holds. -/
namespace Go.Proofs.YtoieifphklodoaaGreatDoor
open Go.RowKit Go.Maps Go.ChangeMaps

def pv (W : Ways) : Nat → Option Value := fun k => (W k).map fun p => .int .i64 (par p : Int)
theorem pv_upd (W : Ways) (y : Nat) (p : List Nat) : upd (pv W) y (.int .i64 (par p : Int)) = pv (wset W y p) := by
  funext q; unfold upd pv wset
  by_cases e : q = y
  · rw [if_pos e, if_pos e]; rfl
  · rw [if_neg e, if_neg e]
theorem zero_int (w : World) : (zeroValue 3).run Tryz.prog w = .ok (.int .i64 0) w := by kernel_rfl
/-- a row of one's own beside a map -/
theorem own_map {w w' : World} {base n mb : Nat} {v : Value} {xs : List Value} (h : w.ownsRow base 3 1 v n xs) (hm : ∃ es clock, w.heap[mb]? = some (.map es clock)) (hk : Keep (fun q => q = mb) w w') : w'.ownsRow base 3 1 v n xs :=
  ownsRow_block h fun q hq => by
    refine hk.block q (h.lt q hq).2 fun e => ?_
    obtain ⟨es, clock, hm⟩ := hm
    rcases h.2 with ⟨he, -⟩ | ⟨g, cap, cur, he, -, hh, -⟩
    · rw [he] at hq; cases hq
    · rw [he] at hq
      have : g = q := by simpa [Value.ownBlock] using hq
      rw [this, e, hm] at hh; cases hh
theorem own_ne {w : World} {base n mb : Nat} {v : Value} {xs : List Value} (h : w.ownsRow base 3 1 v n xs) (hm : ∃ es clock, w.heap[mb]? = some (.map es clock)) : ∀ q, v.ownBlock = some q → q ≠ mb := fun q hq e => by
  obtain ⟨es, clock, hm⟩ := hm
  rcases h.2 with ⟨he, -⟩ | ⟨g, cap, cur, he, -, hh, -⟩
  · rw [he] at hq; cases hq
  · rw [he] at hq
    have : g = q := by simpa [Value.ownBlock] using hq
    rw [this, e, hm] at hh; cases hh
theorem own_other {w w' : World} {base n : Nat} {v : Value} {xs : List Value} {b : Option Nat} (h : w.ownsRow base 3 1 v n xs) (hg : w.grownBy w' b) (hn : ∀ q, v.ownBlock = some q → b ≠ some q) : w'.ownsRow base 3 1 v n xs :=
  ownsRow_block h fun q hq => hg.block q (h.lt q hq).2 fun e => hn q hq e.symm
section
variable {w0 w wr w' : World} {F : Nat → Prop} {h mb : Nat} {l : Bytes} {W : Ways}
/-- the map of the ways so far, beside the heap -/
structure FrSt (w0 w wr : World) (F : Nat → Prop) (h mb : Nat) (l : Bytes) (W : Ways) : Prop where
  hp : Hp w0 wr F h l
  bel : Below w.heap.size w wr
  new : w.heap.size ≤ mb
  nf : ¬ F mb
  w0w : w0.heap.size ≤ w.heap.size
  im : ∃ cnt, IM Tryz.prog 3 natL wr mb (pv W) cnt ∧ cnt ≤ 41
theorem FrSt.isMap (hs : FrSt w0 w wr F h mb l W) : ∃ es clock, wr.heap[mb]? = some (.map es clock) := by
  obtain ⟨cnt, him, -⟩ := hs.im
  exact him.isMap
theorem FrSt.below (hs : FrSt w0 w wr F h mb l W) (hb : Below wr.heap.size wr w') : FrSt w0 w w' F h mb l W := by
  obtain ⟨cnt, him, hc⟩ := hs.im
  exact ⟨hs.hp.below hb, hs.bel.trans (hb.mono hs.bel.size), hs.new, hs.nf, hs.w0w, cnt, him.block (hb.block _ him.lt), hc⟩
theorem Hp.grown (hp : Hp w0 wr F h l) {b : Option Nat} (hg : wr.grownBy w' b) (hb : ∀ q, b = some q → w0.heap.size ≤ q ∧ ¬ F q) : Hp w0 w' F h l := by
  have hk : Keep (fun q => b = some q) wr w' := ⟨hg.os, hg.tape, hg.output, hg.size, fun k hk hn => hg.block k hk (fun e => hn e.symm)⟩
  exact hp.keep hk (fun k hf e => (hb k e).2 hf) (fun k e => (hb k e).1)
theorem FrSt.grown (hs : FrSt w0 w wr F h mb l W) {b : Option Nat} (hg : wr.grownBy w' b) (hb : ∀ q, b = some q → w.heap.size ≤ q ∧ ¬ F q ∧ q ≠ mb) : FrSt w0 w w' F h mb l W := by
  obtain ⟨cnt, him, hc⟩ := hs.im
  exact ⟨hs.hp.grown hg fun q hq => ⟨Nat.le_trans hs.w0w (hb q hq).1, (hb q hq).2.1⟩, hs.bel.grown hg hs.bel.size (fun q hq => (hb q hq).1), hs.new, hs.nf, hs.w0w, cnt, him.block (hg.block _ him.lt (fun e => (hb _ e.symm).2.2 rfl)), hc⟩
theorem FrSt.store (hs : FrSt w0 w wr F h mb l W) {y x : Nat} {p : List Nat} (hy : y < 41) (hx : par p = x) (hW : ∀ k, (wset W y p k).isSome = true → k < 41) :
    ∃ w', (Instr.mapUpdate 210 (.map (some mb)) (.int .i64 (y : Int)) (.int .i64 (x : Int))).run Tryz.prog wr = .ok () w' ∧ FrSt w0 w w' F h mb l (wset W y p) ∧ Keep (fun q => q = mb) wr w' ∧ w'.heap.size = wr.heap.size := by
  obtain ⟨cnt, him, hc⟩ := hs.im
  obtain ⟨w', hrun, him', hg, hsz⟩ := him.store int_keyed natL_inj (T := 210) Tryz.underlying210 (by simp only [maxLen]; omega) (int_key (n := y) (by omega)) (.int .i64 (par p : Int))
  rw [pv_upd] at him'
  rw [hx] at hrun
  have hk : Keep (fun q => q = mb) wr w' := ⟨hg.os, hg.tape, hg.output, hg.size, fun k hk hn => hg.block k hk (fun e => hn (Option.some.inj e))⟩
  refine ⟨w', hrun, ⟨hs.hp.keep hk (fun k hf e => hs.nf (e ▸ hf)) (fun k e => e ▸ Nat.le_trans hs.w0w hs.new), hs.bel.grown hg hs.bel.size (fun q hq => by rw [← Option.some.inj hq]; exact hs.new), hs.new, hs.nf, hs.w0w, _, him', ?_⟩, hk, hsz⟩
  exact him'.size_le Tryz.underlying3 41 fun k hk' => by
    refine hW k ?_
    unfold pv at hk'
    cases e : wset W y p k with
    | none => rw [e] at hk'; cases hk'
    | some q => rfl
theorem FrSt.look (hs : FrSt w0 w wr F h mb l W) {y : Nat} (hy : y < 41) :
    (W y = none → (Instr.lookup 210 (.map (some mb)) (.int .i64 (y : Int)) true).run Tryz.prog wr = .ok (.tuple #[.int .i64 0, .bool false]) wr) ∧
    (∀ p, W y = some p → (Instr.lookup 210 (.map (some mb)) (.int .i64 (y : Int)) true).run Tryz.prog wr = .ok (.tuple #[.int .i64 (par p : Int), .bool true]) wr ∧ (Instr.lookup 210 (.map (some mb)) (.int .i64 (y : Int)) false).run Tryz.prog wr = .ok (.int .i64 (par p : Int)) wr) := by
  obtain ⟨cnt, him, -⟩ := hs.im
  constructor
  · intro hn
    exact (him.look_none int_keyed (T := 210) Tryz.underlying210 (zero_int wr) (int_key (n := y) (by omega)) (by unfold pv; rw [hn]; rfl)).1
  · intro p hp
    exact him.look_some int_keyed (T := 210) Tryz.underlying210 (zero_int wr) (int_key (n := y) (by omega)) (by unfold pv; rw [hp]; rfl)
/-- the roots laid so far -/
def partW (S : List Nat) : Ways := fun q => if q ∈ S then some [q] else none
theorem partW_succ (S : List Nat) (k : Nat) (hk : k < S.length) : wset (partW (S.take k)) S[k] [S[k]] = partW (S.take (k + 1)) := by
  funext q
  unfold wset partW
  rw [List.take_succ_eq_append_getElem hk]
  simp only [List.mem_append, List.mem_singleton]
  by_cases e : q = S[k]
  · subst e; rw [if_pos rfl, if_pos (.inr rfl)]
  · rw [if_neg e]
    by_cases hm : q ∈ S.take k
    · rw [if_pos hm, if_pos (.inl hm)]
    · rw [if_neg hm, if_neg (fun h => h.elim hm e)]
theorem partW_all (l : Bytes) : partW (sortNat (rootsH l)) = startW l := by
  funext q; unfold partW startW; simp only [sortNat_mem]
/-- within a level: the refs of one -/
theorem mid_ok {l : Bytes} {s : Ways × List Nat} {D : List Nat} (h : LvOk l s D) (i : Nat) (_hi : i ≤ s.2.length) : ∃ D', LOk l ((s.2.take i).foldl (stepX l) (s.1, [])) D' s.1 D := by
  obtain ⟨D', h1, -⟩ := LOk.foldX (l := l) (D0 := D) (W0 := s.1) (s.2.take i) (s.1, []) D ⟨h.ok, by simp, fun _ _ => rfl⟩ (fun x hx => h.row x (List.mem_of_mem_take hx))
  exact ⟨D', h1⟩
theorem mid_succ (l : Bytes) (s : Ways × List Nat) (i : Nat) (hi : i < s.2.length) : (s.2.take (i + 1)).foldl (stepX l) (s.1, []) = stepX l ((s.2.take i).foldl (stepX l) (s.1, [])) s.2[i] := by
  rw [List.take_succ_eq_append_getElem hi, List.foldl_append]; rfl
theorem in_ok {l : Bytes} {s : Ways × List Nat} {D D0 : List Nat} {W0 : Ways} (h : LOk l s D W0 D0) {x : Nat} (hx : x ∈ D0) (j : Nat) : ∃ D', LOk l (((sortNat (refsL l (x : Int))).take j).foldl (stepY x) s) D' W0 D0 := by
  obtain ⟨D', h1, -⟩ := LOk.foldY hx ((sortNat (refsL l (x : Int))).take j) s D h (fun y hy => sortNat_mem.1 (List.mem_of_mem_take hy))
  exact ⟨D', h1⟩
theorem in_succ (x : Nat) (L : List Nat) (s : Ways × List Nat) (j : Nat) (hj : j < L.length) : (L.take (j + 1)).foldl (stepY x) s = stepY x ((L.take j).foldl (stepY x) s) L[j] := by
  rw [List.take_succ_eq_append_getElem hj, List.foldl_append]; rfl
theorem LOk.next_le {l : Bytes} {s : Ways × List Nat} {D D0 : List Nat} {W0 : Ways} (h : LOk l s D W0 D0) : s.2.length ≤ 40 := by
  have := h.ok.le; rw [h.spl, List.length_append] at this; omega
theorem lvl_len {l : Bytes} (hg : Good l) : ∀ k, (lvlN l k).2.length ≤ 40
  | 0 => (startW_ok hg).le
  | k + 1 => by
    obtain ⟨D, h, -⟩ := LvOk.at_ hg k
    obtain ⟨D', h'⟩ := mid_ok h (lvlN l k).2.length (Nat.le_refl _)
    rw [List.take_length] at h'
    exact h'.next_le
/-- what a new one is led to by -/
theorem LOk.par_new {l : Bytes} {s : Ways × List Nat} {D D0 : List Nat} {W0 : Ways} (h : LOk l s D W0 D0) {x : Nat} (hx : x ∈ D0) (y : Nat) : par (wayOf s.1 x ++ [y]) = x := by
  have hxD : x ∈ D := by rw [h.spl]; exact List.mem_append_left _ hx
  obtain ⟨p, hp⟩ := Option.isSome_iff_exists.1 ((h.ok.dk x).2 hxD)
  obtain ⟨q, e, -⟩ := h.ok.ways x p hp
  unfold wayOf; rw [hp, e]
  show par (q ++ [x] ++ [y]) = x
  rw [List.append_assoc]; exact par_two q x y
theorem WOk.lt41 {l : Bytes} {W : Ways} {D : List Nat} (h : WOk l W D) {k : Nat} (hk : (W k).isSome = true) : k < 41 := by
  have := hE_nat (h.dh k ((h.dk k).1 hk)); omega
end
end Go.Proofs.YtoieifphklodoaaGreatDoor
/- Package reach: from, the walk. -/
namespace Go.Proofs.YtoieifphklodoaaGreatDoor
open Go.RowKit Go.Maps Go.ChangeMaps

section
variable {w0 w : World} {F : Nat → Prop} {h : Nat} {l : Bytes}
/-- within a level -/
structure LvSt (w0 w wX wr : World) (F : Nat → Prop) (h mb : Nat) (l : Bytes) (s : Ways × List Nat) (v : Value) : Prop where
  fr : FrSt w0 w wr F h mb l s.1
  nx : wr.ownsRow wX.heap.size 3 1 v s.2.length (s.2.flatMap ncell)
  kp : Keep (fun q => q = mb) wX wr
set_option maxRecDepth 100000 in
set_option maxHeartbeats 1000000 in
theorem from_any (hp : Hp w0 w F h l) (hg : Good l) :
    Calls Tryz.prog 155 #[.pointer (some ⟨h, 0, none⟩)] w fun e w' => ∃ mb, e = .returned (.map (some mb)) ∧ FrSt w0 w w' F h mb l (fromW l) := by
  obtain ⟨i0', hi0, hz0, hz1, hz2⟩ := info_parts int_infoC
  have HI := Hidden.mk (And.intro hi0 (And.intro hz0 (And.intro hz1 hz2)))
  have hmm := @run_makeMap Tryz.prog
  have HG := Hidden.mk hg
  have hal := (Below.refl w.heap.size w).alloc (Nat.le_refl _) (.map #[] 0)
  have HFL : Hidden (∀ q, F q → q < w.heap.size) := ⟨hp.flt⟩
  have HST : Hidden (FrSt w0 w (w.alloc (.map #[] 0)) F h w.heap.size l (fun _ => none)) := ⟨⟨hp.below hal, hal, Nat.le_refl _, fun hk => by have := hp.flt _ hk; omega, hp.bel.size, 0, IM.made w, by omega⟩⟩
  have HRT := Hidden.mk (hroots_any (hp.below hal))
  have hR8 : (rootsL l).length ≤ 8 := rootsF_len _ _
  have HRH : Hidden (rootsH l = (rootsL l).map (·.2)) := ⟨rfl⟩
  generalize rootsL l = R at *
  clear hp hal hi0 hz0 hz1 hz2 hg
  go_enter Tryz.func155, Tryz.ntmps155
  go_wp2_with fail
  clear hmm
  generalize w.alloc (.map #[] 0) = wA at *
  generalize hmb : w.heap.size = mb at HST ⊢
  clear hmb
  refine HRT.out.mono ?_
  rintro e w1 ⟨v1, rfl, hown1, hb1⟩
  have HST1 := Hidden.mk (HST.out.below hb1)
  obtain ⟨A1, c1, rfl, -, -⟩ := own_split hown1
  have HR := Hidden.mk (own_rdX3 (f := rcells) (fun _ => rfl) rfl hown1)
  generalize hm : R.length = m at *
  have HM := Hidden.mk hm
  clear hown1 hb1 HRT HST hm
  go_wp2_with fail
  go_loopg [4, 21] m (fun q v i wr => ∃ k : Nat, k ≤ m ∧ q = m - k ∧ i = .int .i64 (k : Int) ∧ Hidden (FrSt w0 w wr F h mb l (fun _ => none) ∧ Below w1.heap.size w1 wr ∧ wr.ownsRow w1.heap.size 3 1 v k (((R.map (·.2)).take k).flatMap ncell)))
  case atStart => exact ⟨0, by omega, rfl, rfl, ⟨HST1.out, Below.refl _ _, World.ownsRow_nil _ _ _ _⟩⟩
  case round =>
    obtain ⟨k, hk, rfl, rfl, hst⟩ := hrel
    by_cases hlt : k < m
    · have hkR : k < R.length := by rw [HM.out]; exact hlt
      obtain ⟨pb, ob, rfl, hcx⟩ := (HR.out.below hst.out.2.1) k hkR
      have x0 := hcx 0 _ rfl
      have x1 := hcx 1 _ rfl
      rw [Nat.add_zero] at x0
      have HS : Hidden ((R.map (·.2)).take (k + 1) = (R.map (·.2)).take k ++ [R[k].2]) := ⟨by rw [List.take_succ_eq_append_getElem (by simpa using hkR)]; simp⟩
      generalize R[k].2 = q0 at *
      generalize R[k].1 = s0 at *
      have i0 : (0 : Int) ≤ k := by omega
      have i1 : (k : Int) < m := by omega
      have s3 : IntKind.i64.wrap ((k : Int) + 1) = (k : Int) + 1 := IntWalk.i64_in _ (by omega)
      have hal : Below wr.heap.size wr (wr.alloc (.cells #[.string ⟨s0.toArray⟩, .int .i64 (q0 : Int)] 150)) := (Below.refl _ _).alloc (Nat.le_refl _) _
      have HN := Hidden.mk (And.intro (hst.out.1.below hal) (And.intro (hst.out.2.1.trans (hal.mono hst.out.2.1.size)) (own_below hst.out.2.2 hal)))
      obtain ⟨hi0, hz0, hz1, hz2⟩ := HI.out
      clear hcx hal hst
      go_wp2_with (at_builtin; refine wpList_append_lies _ rfl (.tmp 25) (.tmp 28) _ rfl w1.heap.size 3 i0' _ 1 8 Tryz.underlying78 hi0 hz0 hz1 hz2 rfl (by decide) u4 k (((R.map (·.2)).take k).flatMap ncell) rfl (own_below HN.out.2.2 ((Below.refl _ _).alloc (Nat.le_refl _) _)) ⟨wr.heap.size + 1, 0, none⟩ 1 1 [.int .i64 (q0 : Int)] rfl rfl (World.news_of_block (cs := #[.int .i64 (q0 : Int)]) (t := 3) (fr := (0, 0)) (by have hq_ := heap_alloc_new ((wr.alloc (.cells #[.string ⟨s0.toArray⟩, .int .i64 (q0 : Int)] 150))) (.cells #[.int .i64 (q0 : Int)] 3); rwa [World.size_alloc] at hq_)) (by simp [Value.oneCell']) (by omega) (by simp only [maxLen]; omega) (by omega) (by have hz_ := HN.out.2.1.size; rw [World.size_alloc]; omega) (wr.heap.size + 1 + 1) (by simp) ?_; intro g8 cap8 w8 hown8 hg8 hat8 hlt8)
      have hgW := grown_trans' ((Below.refl (wr.alloc (.cells #[.string ⟨s0.toArray⟩, .int .i64 (q0 : Int)] 150)).heap.size (wr.alloc (.cells #[.string ⟨s0.toArray⟩, .int .i64 (q0 : Int)] 150))).alloc (Nat.le_refl _) _) hg8
      have hlo : ∀ q, u4.ownBlock = some q → w1.heap.size ≤ q := fun q hq => (HN.out.2.2.lt q hq).1
      have hF8 : FrSt w0 w w8 F h mb l (fun _ => none) := HN.out.1.grown hgW fun q hq => by
        have h1 := hlo q hq
        refine ⟨Nat.le_trans HST1.out.bel.size h1, fun hf => ?_, own_ne HN.out.2.2 HN.out.1.isMap q hq⟩
        have := HST1.out.hp.flt q hf; omega
      have HF : Hidden (FrSt w0 w w8 F h mb l (fun _ => none) ∧ Below w1.heap.size w1 w8 ∧ w8.ownsRow w1.heap.size 3 1 (.slice (some ⟨g8, 0, none⟩) (k + 1) cap8) (k + 1) (((R.map (·.2)).take (k + 1)).flatMap ncell)) := ⟨hF8, HN.out.2.1.grown hgW HN.out.2.1.size hlo, by rw [HS.out]; simpa [ncell] using hown8⟩
      clear hgW hlo hF8 hown8 hg8 hat8 hlt8 hi0 hz0 hz1 hz2
      go_roundg (m - (k + 1))
      case measure => omega
      case rel => exact ⟨k + 1, by omega, rfl, by go_num, HF⟩
    · obtain rfl : m = k := by omega
      have hT := hst.out.2.2
      rw [List.take_of_length_le (by rw [List.length_map, HM.out]; exact Nat.le_refl _), ← HRH.out] at hT
      have hlen : (rootsH l).length = m := by rw [HRH.out, List.length_map]; exact HM.out
      have HSO := Hidden.mk (sortNat_any w1.heap.size m u4 (rootsH l) wr hlen (by omega) hT)
      have HO := Hidden.mk hT
      have HFR := Hidden.mk hst.out.1
      have HLN := Hidden.mk hlen
      clear hT hst hlen HRH HR
      go_wp2_with fail
      refine HSO.out.mono ?_
      rintro e w3 ⟨rfl, hown3, hg3⟩
      have hF3 : FrSt w0 w w3 F h mb l (partW ((sortNat (rootsH l)).take 0)) := by
        have := HFR.out.grown hg3 fun q hq => by
          have h1 := (HO.out.lt q hq).1
          refine ⟨Nat.le_trans HST1.out.bel.size h1, fun hf => ?_, own_ne HO.out HFR.out.isMap q hq⟩
          have := HST1.out.hp.flt q hf; omega
        have e : partW ((sortNat (rootsH l)).take 0) = fun _ => none := by funext q; simp [partW]
        rw [e]; exact this
      have HF3 := Hidden.mk hF3
      have HB1 := Hidden.mk HST1.out.bel
      obtain ⟨A3, c3, hu4, hc3, -⟩ := own_split hown3
      rw [hu4] at hown3 ⊢
      have HO3 := Hidden.mk hown3
      have HSL : Hidden ((sortNat (rootsH l)).length = m) := ⟨by rw [sortNat_len]; exact HLN.out⟩
      have HSE : Hidden (∀ x ∈ sortNat (rootsH l), x < 41) := ⟨fun x hx => by have := hE_nat (rootsH_mem HG.out (sortNat_mem.1 hx)); omega⟩
      generalize hS : sortNat (rootsH l) = S at *
      have HS := Hidden.mk hS
      clear hF3 hown3 hg3 HSO HO HFR HST1 HLN hS hu4
      go_wp2_with fail
      go_loopg [35] m (fun q i wr => ∃ k : Nat, k ≤ m ∧ q = m - k ∧ i = .int .i64 (k : Int) ∧ Hidden (FrSt w0 w wr F h mb l (partW (S.take k)) ∧ Keep (fun q => q = mb) w3 wr))
      case atStart => exact ⟨0, by omega, rfl, rfl, ⟨HF3.out, Keep.refl _ _⟩⟩
      case round =>
        obtain ⟨k, hk, rfl, rfl, hst⟩ := hrel
        by_cases hlt : k < m
        · have hkS : k < S.length := by rw [HSL.out]; exact hlt
          have hown := own_map HO3.out HF3.out.isMap hst.out.2
          obtain ⟨pb, ob, hA3, hcx⟩ := (own_rdX3 (f := ncell) (fun _ => rfl) HSL.out hown) k hkS
          have x0 : wr.cell? ⟨pb, ob + k, none⟩ = some (.int .i64 (S[k] : Int)) := by simpa using hcx 0 _ rfl
          have h41 := HSE.out S[k] (List.getElem_mem hkS)
          obtain ⟨w5, hrun, hF5, hk5, -⟩ := hst.out.1.store (y := S[k]) (x := S[k]) (p := [S[k]]) h41 rfl (fun z hz => by
            rw [partW_succ S k hkS] at hz
            unfold partW at hz
            split at hz
            · rename_i hm; exact HSE.out z (List.mem_of_mem_take hm)
            · cases hz)
          rw [partW_succ S k hkS] at hF5
          have HF5 := Hidden.mk (And.intro hF5 (hst.out.2.trans hk5 (fun _ hx => .inl hx)))
          generalize S[k] = q0 at *
          have i0 : (0 : Int) ≤ k := by omega
          have i1 : (k : Int) < m := by omega
          have s3 : IntKind.i64.wrap ((k : Int) + 1) = (k : Int) + 1 := IntWalk.i64_in _ (by omega)
          subst hA3
          clear hcx hst hown hF5 hk5
          go_wp2_with fail
          go_roundg (m - (k + 1))
          case measure => omega
          case rel => exact ⟨k + 1, by omega, rfl, by go_num, HF5⟩
        · obtain rfl : m = k := by omega
          have hown := own_map HO3.out HF3.out.isMap hst.out.2
          have hF6 := hst.out.1
          rw [List.take_of_length_le (by rw [HSL.out]; exact Nat.le_refl _), ← HS.out, partW_all] at hF6
          rw [← HS.out] at hown
          have HLN : Hidden ((rootsH l).length = m) := ⟨by rw [← sortNat_len, HS.out]; exact HSL.out⟩
          have HCP := Hidden.mk (compactNat_any w1.heap.size m (.slice A3 m c3) (rootsH l) wr HLN.out (by omega) hown)
          have HO6 := Hidden.mk hown
          have HF6 := Hidden.mk hF6
          clear hown hF6 hst HO3 HF3 HSL HSE HS
          go_wp2_with fail
          refine HCP.out.mono ?_
          rintro e w7 ⟨v7, rfl, hown7, hg7, -⟩
          have hF7 : FrSt w0 w w7 F h mb l (startW l) := HF6.out.grown hg7 fun q hq => by
            have h1 := (HO6.out.lt q hq).1
            refine ⟨Nat.le_trans HB1.out.size h1, fun hf => ?_, own_ne HO6.out HF6.out.isMap q hq⟩
            have := HFL.out q hf; have := HB1.out.size; omega
          have HL0 : Hidden (FrSt w0 w w7 F h mb l (lvlN l 0).1 ∧ w7.ownsRow w.heap.size 3 1 v7 (lvlN l 0).2.length ((lvlN l 0).2.flatMap ncell)) := ⟨hF7, own_base hown7 HB1.out.size⟩
          clear hF7 hown7 hg7 HCP HO6 HF6 HLN
          go_wp2_with fail
          go_loopg [4] 41 (fun q v wr => ∃ k : Nat, k ≤ 41 ∧ q = 41 - k ∧ Hidden (FrSt w0 w wr F h mb l (lvlN l k).1 ∧ wr.ownsRow w.heap.size 3 1 v (lvlN l k).2.length ((lvlN l k).2.flatMap ncell)))
          case atStart => exact ⟨0, by omega, rfl, HL0⟩
          case round =>
            obtain ⟨k, hk, rfl, hst⟩ := hrel
            generalize wr = wx at *
            obtain ⟨D, hLv, -⟩ := LvOk.at_ HG.out k
            obtain ⟨A4, c4, rfl, hc4, -⟩ := own_split hst.out.2
            by_cases hnil : (lvlN l k).2 = []
            · have hF := hst.out.1
              rw [fromW_of hk hnil] at hF
              have HF := Hidden.mk hF
              have e0 : (lvlN l k).2.length = 0 := by rw [hnil]; rfl
              have d0 : decide (0 < (lvlN l k).2.length) = false := decide_eq_false (by omega)
              generalize (lvlN l k).2.length = n0 at *
              clear hst hF hnil hLv e0
              go_wp2_with fail
              go_ret
              exact ⟨_, rfl, HF.out⟩
            · have hk41 : k < 41 := by
                rcases Nat.lt_or_eq_of_le hk with h | h
                · exact h
                · subst h; exact absurd (lvlN_end HG.out) hnil
              have hpos : 0 < (lvlN l k).2.length := List.length_pos_iff.2 hnil
              have d0 : decide (0 < (lvlN l k).2.length) = true := decide_eq_true hpos
              have hle := lvl_len HG.out k
              have HLS : Hidden (lvlN l (k + 1) = (lvlN l k).2.foldl (stepX l) ((lvlN l k).1, [])) := ⟨rfl⟩
              have HLV := Hidden.mk hLv
              have HST := Hidden.mk hst.out
              generalize hs : lvlN l k = s at *
              obtain ⟨W, L⟩ := s
              dsimp only at *
              clear hst hnil hLv hs hpos
              go_wp2_with fail
              go_loopg [9, 50] L.length (fun q v i ws => ∃ i0 : Nat, i0 ≤ L.length ∧ q = L.length - i0 ∧ i = .int .i64 (i0 : Int) ∧ Hidden (LvSt w0 w wx ws F h mb l ((L.take i0).foldl (stepX l) (W, [])) v))
              case atStart => exact ⟨0, by omega, rfl, rfl, ⟨HST.out.1, World.ownsRow_nil _ _ _ _, Keep.refl _ _⟩⟩
              case round =>
                obtain ⟨i, hi, rfl, rfl, hst⟩ := hrel
                generalize wr = ws at *
                by_cases hlt : i < L.length
                · have hown4 := own_map HST.out.2 HST.out.1.isMap hst.out.kp
                  obtain ⟨pb, ob, hA4, hcx⟩ := (own_rdX3 (f := ncell) (fun _ => rfl) rfl hown4) i hlt
                  have x0 : ws.cell? ⟨pb, ob + i, none⟩ = some (.int .i64 (L[i] : Int)) := by simpa using hcx 0 _ rfl
                  obtain ⟨D1, hL1⟩ := mid_ok HLV.out i hi
                  have HL1 := Hidden.mk hL1
                  have HMS := Hidden.mk (mid_succ l (W, L) i hlt)
                  have HXD := Hidden.mk (HLV.out.row L[i] (List.getElem_mem hlt))
                  have HLS1 := Hidden.mk hst.out
                  dsimp only at HL1 HMS
                  generalize L[i] = x at *
                  generalize (L.take i).foldl (stepX l) (W, []) = s1 at *
                  have i0 : (0 : Int) ≤ i := by omega
                  have i1 : (i : Int) < L.length := by omega
                  have s3 : IntKind.i64.wrap ((i : Int) + 1) = (i : Int) + 1 := IntWalk.i64_in _ (by omega)
                  have HRF := Hidden.mk (refs_any (x : Int) hst.out.fr.hp HG.out)
                  have HRL : Hidden ((refsL l (x : Int)).length ≤ 100000) := ⟨by
                    unfold refsL
                    have h1 := refsB_len l (readL l (x : Int) 0 (min (gL l (x : Int)) (gT l (x : Int)))) _ (Nat.le_refl _)
                    rw [List.take_length] at h1
                    refine Nat.le_trans h1 ?_
                    unfold readL
                    split
                    · rename_i hz
                      have := some_in HG.out hz
                      simp; omega
                    · simp⟩
                  subst hA4
                  clear hcx hst hown4 hL1
                  go_wp2_with fail
                  refine HRF.out.mono ?_
                  rintro e w5 ⟨v12, rfl, hown5, hb5⟩
                  have HSO := Hidden.mk (sortNat_any ws.heap.size _ v12 (refsL l (x : Int)) w5 rfl HRL.out hown5)
                  have HF5 := Hidden.mk (HLS1.out.fr.below hb5)
                  have HN5 := Hidden.mk (own_below HLS1.out.nx hb5)
                  have HK5 := Hidden.mk (HLS1.out.kp.trans (Keep.of_below (F := fun q => q = mb) hb5) (fun _ hx => .inl hx))
                  have HO5 := Hidden.mk hown5
                  have HSZ : Hidden (w.heap.size ≤ ws.heap.size) := ⟨HLS1.out.fr.bel.size⟩
                  have HNL : Hidden (∀ q, u9.ownBlock = some q → q < ws.heap.size) := ⟨fun q hq => (HLS1.out.nx.lt q hq).2⟩
                  have HWX : Hidden (wx.heap.size ≤ ws.heap.size) := ⟨HLS1.out.kp.size⟩
                  clear hown5 hb5 HRF HLS1
                  go_wp2_with fail
                  refine HSO.out.mono ?_
                  rintro e w6 ⟨rfl, hown6, hg6⟩
                  have hF6 : FrSt w0 w w6 F h mb l s1.1 := HF5.out.grown hg6 fun q hq => by
                    have h1 := (HO5.out.lt q hq).1
                    refine ⟨Nat.le_trans HSZ.out h1, fun hf => ?_, own_ne HO5.out HF5.out.isMap q hq⟩
                    have := HFL.out q hf; have := HSZ.out; omega
                  have hN6 := own_other HN5.out hg6 fun q hq e => by
                    have := HNL.out q hq; have := (HO5.out.lt q e).1; omega
                  have hK6 : Keep (fun q => q = mb) wx w6 := HK5.out.trans ⟨hg6.os, hg6.tape, hg6.output, hg6.size, fun k hk hn => hg6.block k hk (fun e => hn e)⟩ (fun q hq => .inr (by
                    have := (HO5.out.lt q hq.symm).1; have := HWX.out; omega))
                  obtain ⟨A12, c12, hv12, hc12, -⟩ := own_split hown6
                  have HL6 : Hidden (LvSt w0 w wx w6 F h mb l s1 u9) := ⟨hF6, hN6, hK6⟩
                  have HV12 : Hidden (∀ q, u9.ownBlock = some q → v12.ownBlock ≠ some q) := ⟨fun q hq e => by have := HNL.out q hq; have := (HO5.out.lt q e).1; omega⟩
                  have HSE : Hidden (∀ y ∈ sortNat (refsL l (x : Int)), y < 41) := ⟨fun y hy => by have := hE_nat (refsL_mem (_y := 0) (sortNat_mem.1 hy)); omega⟩
                  have HSS : Hidden (stepX l s1 x = (sortNat (refsL l (x : Int))).foldl (stepY x) s1) := ⟨rfl⟩
                  have HIN : Hidden (∀ j, ∃ D', LOk l (((sortNat (refsL l (x : Int))).take j).foldl (stepY x) s1) D' W D) := ⟨fun j => in_ok HL1.out HXD.out j⟩
                  have hll : (sortNat (refsL l (x : Int))).length = (refsL l (x : Int)).length := sortNat_len _
                  rw [← hll] at hown6 hv12 HRL
                  rw [hv12] at hown6 HV12 ⊢
                  have HO6 := Hidden.mk hown6
                  generalize refsL l (x : Int) = RL at *
                  generalize hLL : sortNat RL = LL at *
                  clear hown6 hg6 hF6 hN6 hK6 HSO HF5 HN5 HK5 HO5 HSZ HNL hv12 hll hLL
                  go_wp2_with fail
                  go_loopg [9, 61] LL.length (fun q v i wq => ∃ j : Nat, j ≤ LL.length ∧ q = LL.length - j ∧ i = .int .i64 (j : Int) ∧ Hidden (LvSt w0 w wx wq F h mb l ((LL.take j).foldl (stepY x) s1) v ∧ wq.ownsRow ws.heap.size 3 1 (.slice A12 LL.length c12) LL.length (LL.flatMap ncell) ∧ ∀ q, v.ownBlock = some q → (Value.slice A12 LL.length c12).ownBlock ≠ some q))
                  case atStart => exact ⟨0, by omega, rfl, rfl, ⟨HL6.out, HO6.out, HV12.out⟩⟩
                  case round =>
                    obtain ⟨j, hj, rfl, rfl, hsq⟩ := hrel
                    generalize wr = wq at *
                    by_cases hjt : j < LL.length
                    · obtain ⟨pb2, ob2, hA12, hcx2⟩ := (own_rdX3 (f := ncell) (fun _ => rfl) rfl hsq.out.2.1) j hjt
                      have y0 : wq.cell? ⟨pb2, ob2 + j, none⟩ = some (.int .i64 (LL[j] : Int)) := by simpa using hcx2 0 _ rfl
                      obtain ⟨D2, hL2⟩ := HIN.out j
                      have HIS := Hidden.mk (in_succ x LL s1 j hjt)
                      obtain ⟨D3, hL3⟩ := HIN.out (j + 1)
                      rw [HIS.out] at hL3
                      have h41 := HSE.out LL[j] (List.getElem_mem hjt)
                      generalize LL[j] = y at *
                      generalize (LL.take j).foldl (stepY x) s1 = t at *
                      have j0 : (0 : Int) ≤ j := by omega
                      have j1 : (j : Int) < LL.length := by omega
                      have s4 : IntKind.i64.wrap ((j : Int) + 1) = (j : Int) + 1 := IntWalk.i64_in _ (by have := HRL.out; omega)
                      obtain ⟨lk0, lk1⟩ := hsq.out.1.fr.look (y := y) h41
                      have HQ := Hidden.mk hsq.out
                      subst hA12
                      clear hcx2 hsq
                      cases hty : t.1 y with
                      | some p =>
                        have lk := (lk1 p hty).1
                        have HTT : Hidden (stepY x t y = t) := ⟨by unfold stepY; rw [if_pos (by rw [hty]; rfl)]⟩
                        generalize (par p : Int) = pp at *
                        clear lk0 lk1 hty hL2 hL3
                        go_wp2_with fail
                        go_roundg (LL.length - (j + 1))
                        case measure => omega
                        case rel => exact ⟨j + 1, by omega, rfl, by go_num, ⟨by rw [HIS.out, HTT.out]; exact HQ.out⟩⟩
                      | none =>
                        have lk := lk0 hty
                        have hTT : stepY x t y = (wset t.1 y (wayOf t.1 x ++ [y]), t.2 ++ [y]) := by unfold stepY; rw [if_neg (by rw [hty]; simp)]
                        rw [hTT] at hL3
                        have hpar := hL2.par_new HXD.out y
                        have hnl := hL2.next_le
                        obtain ⟨w7, hrun, hF7, hk7, hs7⟩ := HQ.out.1.fr.store h41 hpar (fun z hz => hL3.ok.lt41 hz)
                        have HTT := Hidden.mk hTT
                        have HM := HQ.out.1.fr.isMap
                        have hN7 := own_map HQ.out.1.nx HM hk7
                        have hO7 := own_map HQ.out.2.1 HM hk7
                        have HK7 := Hidden.mk (HQ.out.1.kp.trans hk7 (fun _ hx => .inl hx))
                        have HF7 := Hidden.mk hF7
                        have HN7 := Hidden.mk hN7
                        have HO7 := Hidden.mk hO7
                        have HLQ : Hidden (∀ q, u9.ownBlock = some q → q < w7.heap.size) := ⟨fun q hq => (hN7.lt q hq).2⟩
                        have HXS : Hidden (wx.heap.size ≤ w7.heap.size) := ⟨HK7.out.size⟩
                        have HWS : Hidden (w.heap.size ≤ wx.heap.size) := ⟨HST.out.1.bel.size⟩
                        obtain ⟨hi0, hz0, hz1, hz2⟩ := HI.out
                        generalize wset t.1 y (wayOf t.1 x ++ [y]) = W2 at *
                        generalize t.2 = N at *
                        clear lk0 lk1 hty hL2 hL3 hpar hF7 hk7 hN7 hO7 hTT HM hs7
                        go_wp2_with (at_builtin; refine wpList_append_lies _ rfl (.tmp 76) (.tmp 78) _ rfl wx.heap.size 3 i0' _ 1 8 Tryz.underlying78 hi0 hz0 hz1 hz2 rfl (by decide) u9 N.length (N.flatMap ncell) rfl (own_below HN7.out ((Below.refl _ _).alloc (Nat.le_refl _) _)) ⟨(w7).heap.size, 0, none⟩ 1 1 [.int .i64 (y : Int)] rfl rfl (World.news_of_block (cs := #[.int .i64 (y : Int)]) (t := 3) (fr := (0, 0)) (heap_alloc_new (w7) _)) (by simp [Value.oneCell']) (by omega) (by simp only [maxLen]; omega) (by omega) (by have hz_ := HK7.out.size; rw [World.size_alloc]; omega) ((w7).heap.size + 1) (by simp) ?_; intro g8 cap8 w8 hown8 hg8 hat8 hlt8)
                        have hgW := grown_trans' ((Below.refl w7.heap.size w7).alloc (Nat.le_refl _) _) hg8
                        have hlo : ∀ q, u9.ownBlock = some q → wx.heap.size ≤ q := fun q hq => (HN7.out.lt q hq).1
                        have hF8 : FrSt w0 w w8 F h mb l W2 := HF7.out.grown hgW fun q hq => by
                          have h1 := hlo q hq
                          refine ⟨Nat.le_trans HWS.out h1, fun hf => ?_, own_ne HN7.out HF7.out.isMap q hq⟩
                          have := HFL.out q hf; have := HWS.out; omega
                        have hK8 : Keep (fun q => q = mb) wx w8 := HK7.out.trans (F' := fun q => u9.ownBlock = some q) ⟨hgW.os, hgW.tape, hgW.output, hgW.size, fun k hk hn => hgW.block k hk (fun e => hn e.symm)⟩ (fun q hq => .inr (hlo q hq))
                        have hO8 := own_other HO7.out hgW fun q hq e => HQ.out.2.2 q e hq
                        have HF : Hidden (LvSt w0 w wx w8 F h mb l (stepY x t y) (.slice (some ⟨g8, 0, none⟩) (N.length + 1) cap8) ∧ w8.ownsRow ws.heap.size 3 1 (.slice (some ⟨pb2, ob2, none⟩) LL.length c12) LL.length (LL.flatMap ncell) ∧ ∀ q, (Value.slice (some ⟨g8, 0, none⟩) (N.length + 1) cap8).ownBlock = some q → (Value.slice (some ⟨pb2, ob2, none⟩) LL.length c12).ownBlock ≠ some q) := ⟨by
                          rw [HTT.out]
                          exact ⟨hF8, by rw [List.length_append, List.flatMap_append]; simpa [ncell] using hown8, hK8⟩, hO8, fun q hq e => by
                          have hq' : g8 = q := by simpa [Value.ownBlock] using hq
                          subst hq'
                          rcases hat8 with h8 | h8
                          · exact HQ.out.2.2 _ h8 e
                          · have := (HO7.out.lt _ e).2; omega⟩
                        clear hgW hlo hF8 hK8 hO8 hown8 hg8 hat8 hlt8 hi0 hz0 hz1 hz2
                        go_roundg (LL.length - (j + 1))
                        case measure => omega
                        case rel => exact ⟨j + 1, by omega, rfl, by go_num, ⟨by rw [HIS.out]; exact HF.out⟩⟩
                    · obtain rfl : j = LL.length := by omega
                      have hT := hsq.out.1
                      rw [List.take_length, ← HSS.out, ← HMS.out] at hT
                      have HT := Hidden.mk hT
                      have d8 : decide ((LL.length : Int) < LL.length) = false := decide_eq_false (by omega)
                      clear hT hsq
                      go_wp2_with fail
                      go_roundg (L.length - (i + 1))
                      case measure => omega
                      case rel => exact ⟨i + 1, by omega, rfl, by go_num, HT⟩
                · obtain rfl : i = L.length := by omega
                  have hT := hst.out
                  rw [List.take_length, ← HLS.out] at hT
                  have HT : Hidden (FrSt w0 w ws F h mb l (lvlN l (k + 1)).1 ∧ ws.ownsRow w.heap.size 3 1 u9 (lvlN l (k + 1)).2.length ((lvlN l (k + 1)).2.flatMap ncell)) := ⟨hT.fr, own_base hT.nx HST.out.1.bel.size⟩
                  clear hT hst
                  go_wp2_with fail
                  go_roundg (41 - (k + 1))
                  case measure => omega
                  case rel => exact ⟨k + 1, by omega, rfl, HT⟩
end
end Go.Proofs.YtoieifphklodoaaGreatDoor
/- Package store: Dirty. -/
namespace Go.Proofs.YtoieifphklodoaaGreatDoor
open Go.RowKit Go.Maps Go.ChangeMaps

section
variable {w0 w w' : World} {F F' GH GH' G : Nat → Prop} {s p d h gk ck st n : Nat} {l l' K : Bytes}
set_option maxRecDepth 100000 in
theorem sdirty_any (a : StH w0 w F GH s p d h gk ck st n l K) (hl : l.length = 32 * n) (hK : K.length = 32 * n) (hn : n ≤ 200) :
    Calls Tryz.prog 48 #[.pointer (some ⟨s, 0, none⟩)] w fun e w' => ∃ v, e = .returned v ∧ w'.ownsRow w.heap.size 3 1 v (dL l K n).length ((dL l K n).flatMap ncell) ∧ Below w.heap.size w w' := by
  obtain ⟨i0', hi0, hz0, hz1, hz2⟩ := info_parts int_infoC
  have HI := Hidden.mk (And.intro hi0 (And.intro hz0 (And.intro hz1 hz2)))
  obtain ⟨⟨c0, c1, c2⟩, -⟩ := a.cells
  have HA := Hidden.mk a
  have HB := Hidden.mk (hbytes_ok w0 w GH h l a.hp)
  have HL := Hidden.mk (And.intro hl hK)
  have hkc := a.kep.le.1
  rw [hK] at c2 hkc
  rw [hl] at HB
  clear a hi0 hz0 hz1 hz2 hl hK
  go_enter Tryz.func48, Tryz.ntmps48
  go_wp2_with fail
  refine HB.out.mono ?_
  rintro e w1 ⟨gb, cb, rfl, hgb, hrb, hb1⟩
  have HA1 := Hidden.mk (HA.out.below hb1)
  have hbc := hrb.le.1
  rw [HL.out.1] at hbc
  have HRB := Hidden.mk (And.intro hgb (And.intro hrb hb1))
  obtain ⟨⟨x0, x1, x2⟩, -⟩ := HA1.out.cells
  rw [HL.out.2] at x2
  clear c0 c1 c2 HB hgb hrb hb1
  go_wp2_with fail
  refine (plen_any HA1.out.pg).mono ?_
  rintro e w1' ⟨rfl, rfl⟩
  go_wp2_with fail
  clear x0 x1 x2
  go_loopg [3, 16] n (fun q v i wr => ∃ k : Nat, k ≤ n ∧ q = n - k ∧ i = .int .i64 (k : Int) ∧ Hidden (Below w1.heap.size w1 wr ∧ wr.ownsRow w1.heap.size 3 1 v (dL l K k).length ((dL l K k).flatMap ncell)))
  case atStart => exact ⟨0, by omega, rfl, rfl, ⟨Below.refl _ _, World.ownsRow_nil _ _ _ _⟩⟩
  case round =>
    obtain ⟨k, hk, rfl, rfl, hst⟩ := hrel
    by_cases hlt : k < n
    · have i0 : (0 : Int) ≤ k := by omega
      have i1 : (k : Int) < n := by omega
      have s1 : IntKind.i64.wrap ((k : Int) * 32) = (k : Int) * 32 := IntWalk.i64_in _ (by omega)
      have s2 : IntKind.i64.wrap ((k : Int) + 1) = (k : Int) + 1 := IntWalk.i64_in _ (by omega)
      have s3 : IntKind.i64.wrap (((k : Int) + 1) * 32) = ((k : Int) + 1) * 32 := IntWalk.i64_in _ (by omega)
      have hcut1 := fun W => run_cut gb 0 (32 * n) cb (k * 32) ((k + 1) * 32) (by omega) (by omega) (by omega) W
      have hcut2 := fun W => run_cut gk 0 (32 * n) ck (k * 32) ((k + 1) * 32) (by omega) (by omega) (by omega) W
      rw [show (((k * 32 : Nat)) : Int) = (k : Int) * 32 by omega, show ((((k + 1) * 32 : Nat)) : Int) = ((k : Int) + 1) * 32 by omega, show (k + 1) * 32 - k * 32 = 32 by omega, Nat.zero_add] at hcut1 hcut2
      have HAr := Hidden.mk (HA1.out.below hst.out.1)
      obtain ⟨⟨x0, x1, x2⟩, -⟩ := HAr.out.cells
      rw [HL.out.2] at x2
      have hr1 := (HRB.out.2.1.below hst.out.1 HRB.out.2.1.lt).rd.cut (k * 32) 32 (by rw [HL.out.1]; omega)
      have hr2 := HAr.out.kep.rd.cut (k * 32) 32 (by rw [HL.out.2]; omega)
      rw [Option.map_some, Addr.add_lit, Nat.zero_add] at hr1 hr2
      have HE := Hidden.mk (fun W (hW : Below wr.heap.size wr W) => eqB_any (some ⟨gb, k * 32, none⟩) (some ⟨gk, k * 32, none⟩) 32 (cb - k * 32) (ck - k * 32) (pgB l k) (pgB K k) W (pgB_len HL.out.1 hlt) (pgB_len HL.out.2 hlt) (by omega) (hr1.below hW) (hr2.below hW))
      have HD := Hidden.mk (dL_succ l K k)
      have hdl := dL_le l K k
      have HN := Hidden.mk (And.intro hst.out.1 hst.out.2)
      have hdf : difB l K k = !(pgB l k == pgB K k) := rfl
      have HDF := Hidden.mk hdf
      generalize hDe : dL l K k = DE at *
      have HK : Hidden (∀ W, Below wr.heap.size wr W → W.cell? ⟨s, 2, none⟩ = some (.slice (some ⟨gk, 0, none⟩) (32 * n) ck)) := ⟨fun W hW => (hW.cell (p := ⟨s, 2, none⟩) HAr.out.lt.1).trans x2⟩
      clear hst hr1 hr2 hDe HAr hdf
      go_upto_region 6 with (fail)
      go_region_held3 (fun W => W.cell? ⟨s, 2, none⟩ = some (.slice (some ⟨gk, 0, none⟩) (32 * n) ck)) (first | exact x2 | exact HK.out _ hB3) ((go_at_call 117; refine (HE.out _ ((Below.refl _ wr).drew)).mono ?_; rintro e w3 ⟨rfl, hb3⟩; have hB3 : Below wr.heap.size wr w3 := ((Below.refl _ wr).drew).trans hb3))
      have HN3 : Hidden (Below w1.heap.size w1 w3 ∧ w3.ownsRow w1.heap.size 3 1 u3 DE.length (DE.flatMap ncell)) := ⟨HN.out.1.trans (hB3.mono HN.out.1.size), own_below HN.out.2 hB3⟩
      clear hb3 hB3 x0 x1 x2 HE HK
      cases hq : (pgB l k == pgB K k) with
      | true =>
        have HSS : Hidden (dL l K (k + 1) = DE) := ⟨by rw [HD.out, HDF.out, hq]; simp⟩
        clear HD HDF hq
        go_wp2_with fail
        go_roundg (n - (k + 1))
        case measure => omega
        case rel => exact ⟨k + 1, by omega, rfl, by go_num, ⟨by rw [HSS.out]; exact HN3.out⟩⟩
      | false =>
        have HSS : Hidden (dL l K (k + 1) = DE ++ [k]) := ⟨by rw [HD.out, HDF.out, hq]; simp⟩
        obtain ⟨hi0, hz0, hz1, hz2⟩ := HI.out
        clear HD HDF hq
        go_wp2_with (at_builtin; refine wpList_append_lies _ rfl (.tmp 38) (.tmp 40) _ rfl w1.heap.size 3 i0' _ 1 8 Tryz.underlying78 hi0 hz0 hz1 hz2 rfl (by decide) u3 DE.length (DE.flatMap ncell) rfl (own_below HN3.out.2 ((Below.refl _ _).alloc (Nat.le_refl _) _)) ⟨(w3).heap.size, 0, none⟩ 1 1 [.int .i64 (k : Int)] rfl rfl (World.news_of_block (cs := #[.int .i64 (k : Int)]) (t := 3) (fr := (0, 0)) (heap_alloc_new (w3) _)) (by simp [Value.oneCell']) (by omega) (by simp only [maxLen]; omega) (by omega) (by have hz_ := HN3.out.1.size; rw [World.size_alloc]; omega) ((w3).heap.size + 1) (by simp) ?_; intro g8 cap8 w8 hown8 hg8 hat8 hlt8)
        have hgW := grown_trans' ((Below.refl w3.heap.size w3).alloc (Nat.le_refl _) _) hg8
        have hB8 : Below w1.heap.size w1 w8 := HN3.out.1.grown hgW HN3.out.1.size (fun q hq => (HN3.out.2.lt q hq).1)
        have HF : Hidden (Below w1.heap.size w1 w8 ∧ w8.ownsRow w1.heap.size 3 1 (.slice (some ⟨g8, 0, none⟩) (DE.length + 1) cap8) (DE ++ [k]).length ((DE ++ [k]).flatMap ncell)) := ⟨hB8, by
          rw [List.length_append, List.flatMap_append]
          simpa [ncell] using hown8⟩
        clear hgW hB8 hown8 hg8 hat8 hlt8 hi0 hz0 hz1 hz2
        go_roundg (n - (k + 1))
        case measure => omega
        case rel => exact ⟨k + 1, by omega, rfl, by go_num, ⟨by rw [HSS.out]; exact HF.out⟩⟩
    · obtain rfl : n = k := by omega
      have HF : Hidden (wr.ownsRow w.heap.size 3 1 u3 (dL l K n).length ((dL l K n).flatMap ncell) ∧ Below w.heap.size w wr) := ⟨own_base hst.out.2 HRB.out.2.2.size, HRB.out.2.2.trans (hst.out.1.mono HRB.out.2.2.size)⟩
      clear hst
      go_wp2_with fail
      go_ret
      exact ⟨_, rfl, HF.out.1, HF.out.2⟩
end
end Go.Proofs.YtoieifphklodoaaGreatDoor
/- Package store: Commit. -/
namespace Go.Proofs.YtoieifphklodoaaGreatDoor
open Go.RowKit Go.Maps Go.ChangeMaps

section
variable {w0 w w' : World} {F F' GH GH' G : Nat → Prop} {s p d h gk ck st n : Nat} {D : Dv} {l l' K : Bytes}
/-- what a call leaves of a store and its device -/
structure StM (w0 w w' : World) (F F' GH GH' : Nat → Prop) (s p d h gk ck st n : Nat) (D : Dv) (l K : Bytes) : Prop where
  dev : DevB w0 w' F' d D
  st : StH w0 w' F' GH' s p d h gk ck st n l K
  kp : Keep (fun q => (F q ∨ GH q) ∨ (q = s ∨ q = p)) w w'
  sub : ∀ q, F' q → F q ∨ w.heap.size ≤ q
  nw : ∀ q, GH' q → GH q ∨ w.heap.size ≤ q
/-- what is said of a commit -/
def ScAns (w0 w : World) (F GH : Nat → Prop) (s p d h _gk _ck st n : Nat) (D : Dv) (l K : Bytes) (e : Ending) (w' : World) : Prop :=
  e = .returned (errV (cmS n st D l K).2) ∧ ∃ F' gk' ck',
    ((cmS n st D l K).2 ≠ 0 → StM w0 w w' F F' GH GH s p d h gk' ck' st n (cmS n st D l K).1 l K) ∧
    ((cmS n st D l K).2 = 0 → StM w0 w w' F F' GH GH s p d h gk' ck' (if (dL l K n).length ≠ 0 then st + 1 else st) n (cmS n st D l K).1 l l)
theorem StH.types (a : StH w0 w F GH s p d h gk ck st n l K) {g c : Nat} {x : Bytes} (hr : Row w 5 g c x) : g ≠ s ∧ g ≠ p := ⟨(ne_row a.blk hr (by decide)).symm, (ne_row a.pg.1 hr (by decide)).symm⟩
/-- its pages are committed -/
theorem StH.cm {st' : Nat} {D' : Dv} (a : StH w0 w F GH s p d h gk ck st n l K) (hm : CmM w0 w w' F F' p d st' n D') (hn : ∀ q, F q → w0.heap.size ≤ q) : StH w0 w' F' GH s p d h gk ck st' n l K := by
  obtain ⟨l1, l2, l3⟩ := a.lt
  have hno : ∀ q, q < w.heap.size → ¬ F q → ¬ F' q := fun q hq hf hf' => by rcases hm.sub q hf' with h' | h'; exact hf h'; omega
  refine ⟨(hm.kp.block s l1 (fun e => e.elim a.sf a.ne.1)).trans a.blk, hm.pg, a.hp.keep hm.kp (fun q hq e => e.elim (a.gf q hq) (fun e => a.pgg (e ▸ hq))) (fun q e => e.elim (hn q) (fun e => e ▸ a.p0)), hm.kp.row a.kep (fun e => e.elim a.kf (fun e => a.ne.2.2 e.symm)), hno s l1 a.sf, hno gk l3 a.kf, fun q hq => hno q (a.hp.flt q hq) (a.gf q hq), a.sg, a.pgg, a.kg, a.s0, a.p0, a.k0⟩
/-- what is kept is another row -/
theorem StH.setK (a : StH w0 w F GH s p d h gk ck st n l K) {g c : Nat} {x : Bytes} (hr : Row w 5 g c x) (hf : ¬ F g) (hg : ¬ GH g) (h0 : w0.heap.size ≤ g) : StH w0 (w.setCell ⟨s, 2, none⟩ (.slice (some ⟨g, 0, none⟩) x.length c)) F GH s p d h g c st n l x := by
  have hne := a.types hr
  have hk : Keep (fun q => q = s) w (w.setCell ⟨s, 2, none⟩ (.slice (some ⟨g, 0, none⟩) x.length c)) := Keep.setCell (F := fun q => q = s) (Keep.refl _ _) (p := ⟨s, 2, none⟩) (.inl rfl) _
  have hsg : ∀ q, GH q → ¬ q = s := fun q hq e => a.sg (e ▸ hq)
  have hblk := heap_setK (k := 2) a.blk (.slice (some ⟨g, 0, none⟩) x.length c)
  exact ⟨hblk, ⟨(hk.block p a.lt.2.1 (fun e => a.ne.1 e.symm)).trans a.pg.1, a.pg.2⟩, a.hp.keep hk hsg (fun q e => e ▸ a.s0), hk.row hr hne.1, a.sf, hf, a.gf, a.sg, a.pgg, hg, a.s0, a.p0, h0⟩
set_option maxRecDepth 100000 in
set_option maxHeartbeats 1000000 in
theorem scommit_any (a : StH w0 w F GH s p d h gk ck st n l K) (hd : DevB w0 w F d D) (hl : l.length = 32 * n) (hK : K.length = 32 * n) (hn : n ≤ 200) (hst : st ≤ 4294967295) :
    Calls Tryz.prog 46 #[.pointer (some ⟨s, 0, none⟩)] w (ScAns w0 w F GH s p d h gk ck st n D l K) := by
  obtain ⟨⟨c0, c1, c2⟩, -⟩ := a.cells
  have HA := Hidden.mk (And.intro a hd)
  have HB := Hidden.mk (hbytes_ok w0 w GH h l a.hp)
  have HL := Hidden.mk (And.intro hl hK)
  have HST := Hidden.mk hst
  rw [hl] at HB
  clear a hd hl hK hst c2
  go_enter Tryz.func46, Tryz.ntmps46
  go_upto_region 1 with (fail)
  go_wp2_with fail
  refine HB.out.mono ?_
  rintro e w1 ⟨gb, cb, rfl, hgb, hrb, hb1⟩
  have HA1 := Hidden.mk (And.intro (HA.out.1.below hb1) (HA.out.2.below hb1))
  have HRB := Hidden.mk (And.intro hgb (And.intro hrb hb1))
  obtain ⟨⟨x0, x1, -⟩, -⟩ := HA1.out.1.cells
  have HDR := Hidden.mk (sdirty_any (w := w1.drew) (HA1.out.1.below ((Below.refl _ w1).drew)) HL.out.1 HL.out.2 hn)
  have KC := Hidden.mk x0
  have KB : Hidden (∀ W, Below w1.heap.size w1 W → W.cell? ⟨s, 0, none⟩ = some (.pointer (some ⟨p, 0, none⟩))) := ⟨fun W hW => (hW.cell (p := ⟨s, 0, none⟩) HA1.out.1.lt.1).trans KC.out⟩
  have KE : Hidden (∀ W W' : World, Below w1.heap.size w1 W → Keep (fun q => F q ∨ q = p) W W' → W'.cell? ⟨s, 0, none⟩ = some (.pointer (some ⟨p, 0, none⟩))) := ⟨fun W W' hW hk => by
    have e := hk.block s (Nat.lt_of_lt_of_le HA1.out.1.lt.1 hW.size) (fun h => h.elim HA1.out.1.sf HA1.out.1.ne.1)
    exact (World.cell?_of_block (w := W) (a := ⟨s, 0, none⟩) e).trans (KB.out W hW)⟩
  clear c0 c1 HB hgb hrb hb1 x1
  go_upto_region 2 with (fail)
  go_region_held3 (fun W => W.cell? ⟨s, 0, none⟩ = some (.pointer (some ⟨p, 0, none⟩))) (first | exact KC.out | exact KE.out _ _ hB3 hm3.kp | exact KB.out _ hB3 | exact KB.out _ hB2)
    (first
      | (go_at_call 48; refine HDR.out.mono ?_; rintro e w2 ⟨u, rfl, hown, hb2⟩; obtain ⟨A1, c1, rfl, hAc1, -⟩ := own_split hown; have hx1 := own_rdX3 (f := ncell) (fun _ => rfl) rfl hown; have hB2 : Below w1.heap.size w1 w2 := ((Below.refl _ w1).drew).trans hb2)
      | (go_at_call 115; refine (cut_ok gb (32 * n) cb l A1 (dL l K n).length c1 (dL l K n) w2 HL.out.1 (by omega) (HRB.out.2.1.below hB2 HRB.out.2.1.lt) rfl (Nat.le_trans (dL_le _ _ _) hn) hx1 (fun i hi => by have := (dL_mem.1 hi).1; omega)).mono ?_; rintro e w3 ⟨u2, X, rfl, hX⟩; obtain ⟨A2, c2, rfl, hAc2, -⟩ := own_split hX.own; have hB3 : Below w1.heap.size w1 w3 := hB2.trans (hX.bel.mono hB2.size))
      | (go_at_call 18; refine (pcommit_any (HA1.out.2.below hB3) (HA1.out.1.below hB3).pg hn HST.out HA.out.1.p0 A2 (dL l K n).length c2 X hX.len hAc2 (hX.pgsR (fun q hq => Nat.lt_of_lt_of_le (HA1.out.2.flt q hq) hB2.size))).mono ?_; rintro e w4 ⟨rfl, F4, hm3⟩))
  all_goals
    rename_i hheld
    clear hheld
    rw [hX.eq] at hm3
    rw [hX.eq]
  rw [hX.len] at hm3
  have hst4 := (HA1.out.1.below hB3).cm hm3 HA1.out.2.new
  have hkp : Keep (fun q => (F q ∨ GH q) ∨ (q = s ∨ q = p)) w w4 := (Keep.of_below (F := fun q => (F q ∨ GH q) ∨ (q = s ∨ q = p)) (HRB.out.2.2.trans (hB3.mono HRB.out.2.2.size))).trans (hm3.kp.wide (G := fun q => (F q ∨ GH q) ∨ (q = s ∨ q = p)) (fun q hq => hq.elim (fun h => .inl (.inl h)) (fun h => .inr (.inr h)))) (fun q hq => .inl hq)
  have hsub : ∀ q, F4 q → F q ∨ w.heap.size ≤ q := fun q hq => by
    rcases hm3.sub q hq with h' | h'
    · exact .inl h'
    · have := HRB.out.2.2.size
      have := hB3.size
      exact .inr (by omega)
  have hng : ¬ F4 gb ∧ ¬ GH gb ∧ w0.heap.size ≤ gb := by
    have h1 := HRB.out.1
    have h2 := HRB.out.2.1.lt
    have h3 := hB3.size
    refine ⟨fun hf => ?_, fun hg => ?_, Nat.le_trans HA.out.2.bel.size h1⟩
    · rcases hm3.sub gb hf with h' | h'
      · have := HA.out.2.flt gb h'; omega
      · omega
    · have := HA.out.1.hp.flt gb hg; omega
  have hrb4 : Row w4 5 gb cb l := hm3.kp.row ((HRB.out.2.1.below hB3 HRB.out.2.1.lt)) (fun hf => by
    rcases hf with hf | hf
    · have := HA.out.2.flt gb hf
      have := HRB.out.1
      omega
    · have := HA.out.1.lt.2.1
      have := HRB.out.1
      omega)
  have HM := Hidden.mk (And.intro hm3.dev (And.intro hst4 (And.intro hkp (And.intro hsub (And.intro hng hrb4)))))
  obtain ⟨r, hr⟩ : ∃ r, commitP st n (cutL l (dL l K n)) D = r := ⟨_, rfl⟩
  have HQ := Hidden.mk (show cmS n st D l K = r from hr)
  rw [hr] at HM
  rw [hr]
  clear hkp hsub hng hrb4 hm3 hst4 hr hX hB2 hB3 hb2 hown hx1 hAc1 hAc2 KB KE KC HDR x0
  by_cases hr0 : r.2 = 0
  · have HR0 := Hidden.mk hr0
    rw [hr0, errV0]
    rw [hr0] at HM
    clear hr0
    have e1 : (if (0 : Nat) = 0 ∧ (dL l K n).length ≠ 0 then st + 1 else st) = (if (dL l K n).length ≠ 0 then st + 1 else st) := by
      by_cases h : (dL l K n).length ≠ 0
      · rw [if_pos ⟨rfl, h⟩, if_pos h]
      · rw [if_neg (fun x => h x.2), if_neg h]
    rw [e1] at HM
    clear e1
    have HF : Hidden (StM w0 w (w4.setCell ⟨s, 2, none⟩ (.slice (some ⟨gb, 0, none⟩) (32 * n) cb)) F F4 GH GH s p d h gb cb (if (dL l K n).length ≠ 0 then st + 1 else st) n r.1 l l) := ⟨by
      obtain ⟨a1, a2, a3, a4, ⟨b1, b2, b3⟩, b4⟩ := HM.out
      have hk : Keep (fun q => q = s) w4 (w4.setCell ⟨s, 2, none⟩ (.slice (some ⟨gb, 0, none⟩) (32 * n) cb)) := Keep.setCell (F := fun q => q = s) (Keep.refl _ _) (p := ⟨s, 2, none⟩) (.inl rfl) _
      have hs := a2.setK b4 b1 b2 b3
      rw [HL.out.1] at hs
      exact ⟨a1.keep hk (fun q hq e => a2.sf (e ▸ hq)) (fun q e => e ▸ a2.s0), hs, a3.trans (hk.wide (G := fun q => (F q ∨ GH q) ∨ (q = s ∨ q = p)) (fun q hq => .inr (.inl hq))) (fun q hq => .inl hq), a4, fun q hq => .inl hq⟩⟩
    obtain ⟨⟨y0, y1, y2⟩, yf⟩ := HM.out.2.1.cells
    have f2 := yf 2
    clear yf
    go_wp2_with fail
    go_ret
    refine ⟨by rw [HQ.out, HR0.out]; rfl, F4, gb, cb, fun h => absurd (by rw [HQ.out]; exact HR0.out) h, fun _ => ?_⟩
    rw [HQ.out]
    exact HF.out
  · have HR0 := Hidden.mk hr0
    rw [errV_pos hr0]
    clear hr0
    go_wp2_with fail
    go_ret
    refine ⟨by rw [HQ.out, errV_pos HR0.out]; rfl, F4, gk, ck, fun _ => ?_, fun h => absurd (by rw [HQ.out] at h; exact h) HR0.out⟩
    rw [HQ.out]
    obtain ⟨a1, a2, a3, a4, -⟩ := HM.out
    rw [if_neg (fun x => HR0.out x.1)] at a2
    exact ⟨a1, a2, a3, a4, fun q hq => .inl hq⟩
end
end Go.Proofs.YtoieifphklodoaaGreatDoor
/- Package reach, plain: of all ways the least one. -/
namespace Go.Proofs.YtoieifphklodoaaGreatDoor
open Go.RowKit

end Go.Proofs.YtoieifphklodoaaGreatDoor
/- The reference on ways, plain: what is found by asking again and again is the least. -/
namespace Go.Proofs.YtoieifphklodoaaGreatDoor
open Go.RowKit

end Go.Proofs.YtoieifphklodoaaGreatDoor
/- Laid: maps.Keys at maps from numbers to numbers. -/
namespace Go.Proofs.YtoieifphklodoaaGreatDoor
open Go.Shelf
end Go.Proofs.YtoieifphklodoaaGreatDoor
/- slices.Sorted(maps.Keys(m)) of maps from numbers to numbers. -/
namespace Go.Proofs.YtoieifphklodoaaGreatDoor
open Go.RowKit Go.Maps Go.ChangeMaps Go.Sort Go.Shelf

end Go.Proofs.YtoieifphklodoaaGreatDoor
/- Package reach: Live, Dead, Sweep. -/
namespace Go.Proofs.YtoieifphklodoaaGreatDoor
open Go.RowKit Go.Maps Go.ChangeMaps

section
variable {w0 w : World} {F : Nat → Prop} {h : Nat} {l : Bytes}
set_option maxRecDepth 100000 in
theorem dead_any (hp : Hp w0 w F h l) (hg : Good l) :
    Calls Tryz.prog 112 #[.pointer (some ⟨h, 0, none⟩)] w fun e w' => ∃ v, e = .returned v ∧ w'.ownsRow w.heap.size 3 1 v (deadL l).length ((deadL l).flatMap ncell) ∧ Below w.heap.size w w' := by
  obtain ⟨i0', hi0, hz0, hz1, hz2⟩ := info_parts int_infoC
  have HI := Hidden.mk (And.intro hi0 (And.intro hz0 (And.intro hz1 hz2)))
  have HC := Hidden.mk (from_any hp hg)
  have HEN : Hidden (∀ e ∈ entriesL l, ∃ k : Nat, k < 40 ∧ e = ((k : Int) + 1, rawE l k)) := ⟨fun e he => by
    obtain ⟨k, h1, -, h2⟩ := entL_mem.1 he
    exact ⟨k, h1, h2⟩⟩
  have hle : (entriesL l).length ≤ 40 := entsL_len _ _ 40
  have HD : Hidden (deadL l = deadE l (entriesL l)) := ⟨rfl⟩
  generalize deadL l = DL at *
  clear hp hg hi0 hz0 hz1 hz2
  go_enter Tryz.func112, Tryz.ntmps112
  go_wp2_with fail
  refine HC.out.mono ?_
  rintro e w1 ⟨mb, rfl, hf⟩
  have HF1 := Hidden.mk hf
  have HEC := Hidden.mk (hentries_any hf.hp)
  generalize entriesL l = E at *
  clear hf HC
  go_wp2_with fail
  refine HEC.out.mono ?_
  rintro e w2 ⟨v, rfl, hown, hb2⟩
  obtain ⟨A1, c1, rfl, hc1, -⟩ := own_split hown
  have HR := Hidden.mk (own_rdX3 (f := ecells) (fun _ => rfl) rfl hown)
  have HF2 := Hidden.mk (HF1.out.below hb2)
  generalize hm : E.length = m at *
  have HM := Hidden.mk hm
  clear hown hb2 HEC HF1 hm
  go_wp2_with fail
  go_loopg [2, 13] m (fun q v i wr => ∃ k : Nat, k ≤ m ∧ q = m - k ∧ i = .int .i64 (k : Int) ∧ Hidden (Below w2.heap.size w2 wr ∧ wr.ownsRow w2.heap.size 3 1 v (deadE l (E.take k)).length ((deadE l (E.take k)).flatMap ncell)))
  case atStart => exact ⟨0, by omega, rfl, rfl, ⟨Below.refl _ _, World.ownsRow_nil _ _ _ _⟩⟩
  case round =>
    obtain ⟨k, hk, rfl, rfl, hst⟩ := hrel
    by_cases hlt : k < m
    · have hkE : k < E.length := by rw [HM.out]; exact hlt
      obtain ⟨p, off, rfl, hcx⟩ := (HR.out.below hst.out.1) k hkE
      have x0 := hcx 0 _ rfl
      have x1 := hcx 1 _ rfl
      have x2 := hcx 2 _ rfl
      have x3 := hcx 3 _ rfl
      rw [Nat.add_zero] at x0
      have HS := Hidden.mk (deadE_succ l E k hkE)
      obtain ⟨j, hj, hej⟩ := HEN.out E[k] (List.getElem_mem hkE)
      have hdl : (deadE l (E.take k)).length ≤ 40 := Nat.le_trans (deadE_len _ _) (by rw [List.length_take]; omega)
      rw [hej] at x0 x1 x2 x3 HS
      dsimp only at x0 x1 x2 x3 HS
      rw [show ((j : Int) + 1).toNat = j + 1 by omega] at HS
      generalize rAt (rawE l j) = e1 at *
      generalize rLen (rawE l j) = e2 at *
      generalize rTag (rawE l j) = e3 at *
      have i0 : (0 : Int) ≤ k := by omega
      have i1 : (k : Int) < m := by omega
      have s3 : IntKind.i64.wrap ((k : Int) + 1) = (k : Int) + 1 := IntWalk.i64_in _ (by omega)
      have hal : Below wr.heap.size wr (wr.alloc (.cells #[.int .i64 ((j : Int) + 1), .int .i64 e1, .int .i64 e2, .int .i64 e3] 89)) := (Below.refl _ _).alloc (Nat.le_refl _) _
      have hFW := (HF2.out.below hst.out.1).below hal
      obtain ⟨lk0, lk1⟩ := hFW.look (y := j + 1) (by omega)
      rw [show ((j + 1 : Nat) : Int) = (j : Int) + 1 from by omega] at lk0 lk1
      have HN := Hidden.mk (And.intro (hst.out.1.trans (hal.mono hst.out.1.size)) (own_below hst.out.2 hal))
      generalize hDe : deadE l (E.take k) = DE at *
      clear hcx hst hej hFW hDe
      cases hw : fromW l (j + 1) with
      | some pp =>
        have lk := (lk1 pp hw).1
        rw [hw] at HS
        have HSS : Hidden (deadE l (E.take (k + 1)) = DE) := ⟨by rw [HS.out]; simp⟩
        generalize (par pp : Int) = pz at *
        clear lk0 lk1 hw HS hal
        go_wp2_with fail
        go_roundg (m - (k + 1))
        case measure => omega
        case rel => exact ⟨k + 1, by omega, rfl, by go_num, ⟨by rw [HSS.out]; exact HN.out⟩⟩
      | none =>
        have lk := lk0 hw
        rw [hw] at HS
        have HSS : Hidden (deadE l (E.take (k + 1)) = DE ++ [j + 1]) := ⟨by rw [HS.out]; simp⟩
        obtain ⟨hi0, hz0, hz1, hz2⟩ := HI.out
        clear lk0 lk1 hw HS hal
        go_wp2_with (at_builtin; refine wpList_append_lies _ rfl (.tmp 26) (.tmp 29) _ rfl w2.heap.size 3 i0' _ 1 8 Tryz.underlying78 hi0 hz0 hz1 hz2 rfl (by decide) u2 DE.length (DE.flatMap ncell) rfl (own_below HN.out.2 ((Below.refl _ _).alloc (Nat.le_refl _) _)) ⟨wr.heap.size + 1, 0, none⟩ 1 1 [.int .i64 ((j : Int) + 1)] rfl rfl (World.news_of_block (cs := #[.int .i64 ((j : Int) + 1)]) (t := 3) (fr := (0, 0)) (by have hq_ := heap_alloc_new ((wr.alloc (.cells #[.int .i64 ((j : Int) + 1), .int .i64 e1, .int .i64 e2, .int .i64 e3] 89))) (.cells #[.int .i64 ((j : Int) + 1)] 3); rwa [World.size_alloc] at hq_)) (by simp [Value.oneCell']) (by omega) (by simp only [maxLen]; omega) (by omega) (by have hz_ := HN.out.1.size; rw [World.size_alloc]; omega) (wr.heap.size + 1 + 1) (by simp) ?_; intro g8 cap8 w8 hown8 hg8 hat8 hlt8)
        have hgW := grown_trans' ((Below.refl (wr.alloc (.cells #[.int .i64 ((j : Int) + 1), .int .i64 e1, .int .i64 e2, .int .i64 e3] 89)).heap.size (wr.alloc (.cells #[.int .i64 ((j : Int) + 1), .int .i64 e1, .int .i64 e2, .int .i64 e3] 89))).alloc (Nat.le_refl _) _) hg8
        have hB8 : Below w2.heap.size w2 w8 := HN.out.1.grown hgW HN.out.1.size (fun q hq => (HN.out.2.lt q hq).1)
        have HF : Hidden (Below w2.heap.size w2 w8 ∧ w8.ownsRow w2.heap.size 3 1 (.slice (some ⟨g8, 0, none⟩) (DE.length + 1) cap8) (DE ++ [j + 1]).length ((DE ++ [j + 1]).flatMap ncell)) := ⟨hB8, by
          rw [List.length_append, List.flatMap_append]
          simpa [ncell] using hown8⟩
        clear hgW hB8 hown8 hg8 hat8 hlt8 hi0 hz0 hz1 hz2
        go_roundg (m - (k + 1))
        case measure => omega
        case rel => exact ⟨k + 1, by omega, rfl, by go_num, ⟨by rw [HSS.out]; exact HF.out⟩⟩
    · obtain rfl : m = k := by omega
      have hT := hst.out.2
      rw [List.take_of_length_le (by rw [HM.out]; exact Nat.le_refl _), ← HD.out] at hT
      have HF : Hidden (wr.ownsRow w.heap.size 3 1 u2 DL.length (DL.flatMap ncell) ∧ Below w.heap.size w wr) := ⟨own_base hT HF2.out.bel.size, HF2.out.bel.trans (hst.out.1.mono HF2.out.bel.size)⟩
      clear hT hst HD
      go_wp2_with fail
      go_ret
      exact ⟨_, rfl, HF.out.1, HF.out.2⟩
set_option maxRecDepth 100000 in
theorem sweep_any (hp : Hp w0 w F h l) (hg : Good l) :
    Calls Tryz.prog 39 #[.pointer (some ⟨h, 0, none⟩)] w fun e w' => e = .returned (.tuple #[.int .i64 ((deadL l).length : Int), .nilIface]) ∧ ∃ F', HpM w0 w w' F F' h (sweepL l) := by
  have HC := Hidden.mk (dead_any hp hg)
  have HP := Hidden.mk hp
  have HG := Hidden.mk hg
  have hle : (deadL l).length ≤ 40 := Nat.le_trans (deadE_len _ _) (entsL_len _ _ 40)
  have HSF : Hidden (∀ i (hi : i < (deadL l).length), freeE (sweepT l ((deadL l).take i)) ((deadL l)[i] : Int) = 0) := ⟨fun i hi => sweep_free HG.out hi⟩
  have HSS : Hidden (∀ i (hi : i < (deadL l).length), sweepT l ((deadL l).take (i + 1)) = freeL (sweepT l ((deadL l).take i)) ((deadL l)[i] : Int)) := ⟨fun i hi => sweepT_succ l _ i hi⟩
  have HSW : Hidden (sweepL l = sweepT l (deadL l)) := ⟨rfl⟩
  generalize deadL l = D at *
  clear hp hg
  go_enter Tryz.func39, Tryz.ntmps39
  go_wp2_with fail
  refine HC.out.mono ?_
  rintro e w1 ⟨v, rfl, hown, hb1⟩
  obtain ⟨A1, c1, rfl, hc1, -⟩ := own_split hown
  have HO := Hidden.mk hown
  have HP1 := Hidden.mk (HP.out.same hb1)
  have HNF : Hidden (∀ q, (Value.slice A1 D.length c1).ownBlock = some q → ¬ F q) := ⟨fun q hq hf => by
    have := (hown.lt q hq).1; have := HP.out.flt q hf; omega⟩
  clear hown hb1 HC HP
  go_wp2_with fail
  go_loopg [12] D.length (fun q i wr => ∃ (k : Nat) (F' : Nat → Prop), k ≤ D.length ∧ q = D.length - k ∧ i = .int .i64 (k : Int) ∧ Hidden (HpM w0 w1 wr F F' h (sweepT l (D.take k))))
  case atStart => exact ⟨0, F, by omega, rfl, rfl, ⟨HP1.out.hp.same (Below.refl _ _)⟩⟩
  case round =>
    obtain ⟨k, F', hk, rfl, rfl, hst⟩ := hrel
    by_cases hlt : k < D.length
    · have hkD : k < D.length := hlt
      have hown := ownsRow_block HO.out (w' := wr) fun q hq => hst.out.kp.block q (HO.out.lt q hq).2 (HNF.out q hq)
      obtain ⟨pb, ob, rfl, hcx⟩ := (own_rdX3 (f := ncell) (fun _ => rfl) rfl hown) k hkD
      have x0 : wr.cell? ⟨pb, ob + k, none⟩ = some (.int .i64 (D[k] : Int)) := by simpa using hcx 0 _ rfl
      have HFR := Hidden.mk (hfree_any (D[k] : Int) hst.out.hp)
      rw [HSF.out k hkD, ← HSS.out k hkD, show errV 0 = Value.nilIface from rfl] at HFR
      have HST := Hidden.mk hst.out
      generalize D[k] = q0 at *
      have i0 : (0 : Int) ≤ k := by omega
      have i1 : (k : Int) < D.length := by omega
      have s3 : IntKind.i64.wrap ((k : Int) + 1) = (k : Int) + 1 := IntWalk.i64_in _ (by omega)
      clear hcx hst hown
      go_wp2_with fail
      refine HFR.out.mono ?_
      rintro e w5 ⟨rfl, F5, hm5⟩
      have HM5 := Hidden.mk (HST.out.trans hm5)
      clear hm5 HFR
      go_wp2_with fail
      go_roundg (D.length - (k + 1))
      case measure => omega
      case rel => exact ⟨k + 1, F5, by omega, rfl, by go_num, HM5⟩
    · obtain rfl : k = D.length := by omega
      have hT := hst.out
      rw [List.take_length, ← HSW.out] at hT
      have HF := Hidden.mk (HP1.out.trans hT)
      clear hT hst
      go_wp2_with fail
      go_ret2
      exact ⟨rfl, _, HF.out⟩
end
end Go.Proofs.YtoieifphklodoaaGreatDoor
/- The contract of play.Do. -/
namespace Go.Proofs.YtoieifphklodoaaGreatDoor
open Go.RowKit Go.Maps Go.ChangeMaps

def opV (x : OpX) : Value := .agg #[.int .i64 x.what, .int .i64 x.handle, .int .i64 x.at_, .int .i64 x.len, sv x.name, .slice x.A x.body.length x.cap]
section
variable {w0 w w1 w' : World} {F F' GH GH' G : Nat → Prop} {s p d h gk ck st n : Nat} {D : Dv} {l l' K : Bytes}
theorem StM.heap (a : StH w0 w1 F GH s p d h gk ck st n l K) (hd : DevB w0 w1 F d D) (hb : Below w.heap.size w w1) (hm : HpM w0 w1 w' GH GH' h l') : StM w0 w w' F F GH GH' s p d h gk ck st n D l' K where
  dev := hd.keep hm.kp (fun q hq hg => a.gf q hg hq) a.hp.new
  st := a.heap hm hd.flt
  kp := (Keep.of_below (F := fun q => (F q ∨ GH q) ∨ (q = s ∨ q = p)) hb).trans (hm.kp.wide (G := fun q => (F q ∨ GH q) ∨ (q = s ∨ q = p)) (fun q hq => .inl (.inr hq))) (fun q hq => .inl hq)
  sub := fun q hq => .inl hq
  nw := fun q hq => by
    rcases hm.nw q hq with h' | h'
    · exact .inl h'
    · have := hb.size
      exact .inr (by omega)
theorem StM.from_ {D' : Dv} {gk' ck' st' : Nat} (hb : Below w.heap.size w w1) (hm : StM w0 w1 w' F F' GH GH' s p d h gk' ck' st' n D' l' K) : StM w0 w w' F F' GH GH' s p d h gk' ck' st' n D' l' K where
  dev := hm.dev
  st := hm.st
  kp := (Keep.of_below (F := fun q => (F q ∨ GH q) ∨ (q = s ∨ q = p)) hb).trans hm.kp (fun q hq => .inl hq)
  sub := fun q hq => by
    rcases hm.sub q hq with h' | h'
    · exact .inl h'
    · have := hb.size
      exact .inr (by omega)
  nw := fun q hq => by
    rcases hm.nw q hq with h' | h'
    · exact .inl h'
    · have := hb.size
      exact .inr (by omega)
/-- what is said of an op -/
def DoAns (w0 w : World) (F GH : Nat → Prop) (s p d h n : Nat) (r : Sto × Nat) (e : Ending) (w' : World) : Prop :=
  e = .returned (errV r.2) ∧ ∃ F' GH' gk' ck', StM w0 w w' F F' GH GH' s p d h gk' ck' r.1.st n r.1.D r.1.l r.1.K
theorem doAns_mk {r : Sto × Nat} {e : Ending} {gk' ck' st' k : Nat} {D' : Dv} {l' K' : Bytes} (hr : r = (⟨D', st', l', K'⟩, k)) (he : e = .returned (errV k)) (hm : StM w0 w w' F F' GH GH' s p d h gk' ck' st' n D' l' K') : DoAns w0 w F GH s p d h n r e w' := by
  subst hr
  exact ⟨he, F', GH', gk', ck', hm⟩
theorem doS_hop {n : Nat} {D : Dv} {st : Nat} {l K : Bytes} {o : OpX} (h6 : o.what ≠ 6) (h7 : o.what ≠ 7) : doS n ⟨D, st, l, K⟩ o = (⟨D, st, hopL l o, K⟩, hopE l o) := by
  unfold doS
  rw [if_neg h6, if_neg h7]
def Six6 (w : World) (a : Nat) (v0 v1 v2 v3 v4 v5 : Value) : Prop := w.cell? ⟨a, 0, none⟩ = some v0 ∧ w.cell? ⟨a, 1, none⟩ = some v1 ∧ w.cell? ⟨a, 2, none⟩ = some v2 ∧ w.cell? ⟨a, 3, none⟩ = some v3 ∧ w.cell? ⟨a, 4, none⟩ = some v4 ∧ w.cell? ⟨a, 5, none⟩ = some v5
theorem six6_cells (w : World) (v0 v1 v2 v3 v4 v5 : Value) (T : TypeId) : Six6 (w.alloc (.cells #[v0, v1, v2, v3, v4, v5] T)) w.heap.size v0 v1 v2 v3 v4 v5 := by
  unfold Six6
  simp only [World.cell?]
  rw [heap_alloc_new w _]
  exact ⟨rfl, rfl, rfl, rfl, rfl, rfl⟩
set_option maxRecDepth 100000 in
set_option maxHeartbeats 1000000 in
theorem sdo_any (o : OpX) (a : StH w0 w F GH s p d h gk ck st n l K) (hd : DevB w0 w F d D) (hgl : Good l) (hgk : Good K) (hl : l.length = 32 * n) (hK : K.length = 32 * n) (hn : n ≤ 200) (hst : st ≤ 4294967295) (ho : OpOk w o) :
    Calls Tryz.prog 11 #[.pointer (some ⟨s, 0, none⟩), opV o] w (DoAns w0 w F GH s p d h n (doS n ⟨D, st, l, K⟩ o)) := by
  obtain ⟨what, handle, at_, len, name, OA, oc, body⟩ := o
  have hal := (Below.refl w.heap.size w).alloc (Nat.le_refl _) (.cells #[.int .i64 what, .int .i64 handle, .int .i64 at_, .int .i64 len, sv name, .slice OA body.length oc] 36)
  have h6 := six6_cells w (.int .i64 what) (.int .i64 handle) (.int .i64 at_) (.int .i64 len) (sv name) (.slice OA body.length oc) 36
  have HAL := Hidden.mk hal
  have HA := Hidden.mk (And.intro (a.below hal) (And.intro (hd.below hal) (ho.below hal)))
  have HL := Hidden.mk (And.intro hgl (And.intro hgk (And.intro hl (And.intro hK hst))))
  have HO : Hidden (∀ x : OpX, x = ⟨what, handle, at_, len, name, OA, oc, body⟩ → x.what = what ∧ x.handle = handle ∧ x.at_ = at_ ∧ x.len = len ∧ x.name = name ∧ x.body = body) := ⟨fun x e => by subst e; exact ⟨rfl, rfl, rfl, rfl, rfl, rfl⟩⟩
  have HE : Hidden (hopE l ⟨what, handle, at_, len, name, OA, oc, body⟩ = if what = 1 then allocE l len at_ else if what = 2 then freeE l handle else if what = 3 then someE l handle at_ body.length else if what = 4 then setE l name handle else if what = 5 then unE l name else if what = 8 ∨ what = 9 then 0 else 1) := ⟨rfl⟩
  have HH : Hidden (hopL l ⟨what, handle, at_, len, name, OA, oc, body⟩ = if what = 1 then allocL l len at_ else if what = 2 then freeL l handle else if what = 3 then writeL l handle at_ body else if what = 4 then setL l name handle else if what = 5 then unL l name else if what = 8 then stepL l else if what = 9 then sweepL l else l) := ⟨rfl⟩
  have HDO : Hidden (what ≠ 6 → what ≠ 7 → doS n ⟨D, st, l, K⟩ ⟨what, handle, at_, len, name, OA, oc, body⟩ = (⟨D, st, hopL l ⟨what, handle, at_, len, name, OA, oc, body⟩, K⟩, hopE l ⟨what, handle, at_, len, name, OA, oc, body⟩)) := ⟨fun x y => doS_hop x y⟩
  have HD6 : Hidden (what = 6 → doS n ⟨D, st, l, K⟩ ⟨what, handle, at_, len, name, OA, oc, body⟩ = if (cmS n st D l K).2 = 0 then (⟨(cmS n st D l K).1, if (dL l K n).length ≠ 0 then st + 1 else st, l, l⟩, 0) else (⟨(cmS n st D l K).1, st, l, K⟩, (cmS n st D l K).2)) := ⟨fun e => by unfold doS; rw [if_pos e]⟩
  have HD7 : Hidden (what = 7 → doS n ⟨D, st, l, K⟩ ⟨what, handle, at_, len, name, OA, oc, body⟩ = (⟨D, st, K, K⟩, 0)) := ⟨fun e => by unfold doS; rw [if_neg (by show ¬ what = 6; omega), if_pos e]⟩
  generalize doS n ⟨D, st, l, K⟩ ⟨what, handle, at_, len, name, OA, oc, body⟩ = r at *
  generalize hopE l ⟨what, handle, at_, len, name, OA, oc, body⟩ = he at *
  generalize hopL l ⟨what, handle, at_, len, name, OA, oc, body⟩ = hh at *
  obtain ⟨c0, c1, c2, c3, c4, c5⟩ := h6
  have HOK := Hidden.mk ho
  unfold opV
  dsimp only
  clear a hd hgl hgk hl hK hst ho hal
  go_enter Tryz.func11, Tryz.ntmps11
  go_upto_region 1 with (fail)
  generalize w.alloc (.cells #[.int .i64 what, .int .i64 handle, .int .i64 at_, .int .i64 len, sv name, .slice OA body.length oc] 36) = W1 at *
  generalize w.heap.size = bx at c0 c1 c2 c3 c4 c5 ⊢
  go_wp2_with fail
  refine (stheap_any HA.out.1).mono ?_
  rintro e W2 ⟨rfl, rfl⟩
  by_cases h1 : what = 1
  · have hee : he = allocE l len at_ := HE.out.trans (by rw [if_pos h1])
    have hhe : hh = allocL l len at_ := HH.out.trans (by rw [if_pos h1])
    have HR : Hidden (r = (⟨D, st, allocL l len at_, K⟩, allocE l len at_)) := ⟨by rw [HDO.out (by omega) (by omega), hee, hhe]⟩
    clear hee hhe
    subst h1
    have HC := Hidden.mk (halloc_any len at_ HA.out.1.hp)
    clear HDO HE HH HD6 HD7 HO
    go_wp2_with fail
    refine HC.out.mono ?_
    rintro e w3 ⟨rfl, GH3, hm⟩
    have HM := Hidden.mk (StM.heap HA.out.1 HA.out.2.1 HAL.out hm)
    clear hm HC
    go_wp2_with fail
    go_ret
    exact doAns_mk HR.out rfl HM.out
  by_cases h2 : what = 2
  · have hee : he = freeE l handle := HE.out.trans (by rw [if_neg (by omega), if_pos h2])
    have hhe : hh = freeL l handle := HH.out.trans (by rw [if_neg (by omega), if_pos h2])
    have HR : Hidden (r = (⟨D, st, freeL l handle, K⟩, freeE l handle)) := ⟨by rw [HDO.out (by omega) (by omega), hee, hhe]⟩
    clear hee hhe
    subst h2
    have HC := Hidden.mk (hfree_any handle HA.out.1.hp)
    clear HDO HE HH HD6 HD7 HO
    go_wp2_with fail
    refine HC.out.mono ?_
    rintro e w3 ⟨rfl, GH3, hm⟩
    have HM := Hidden.mk (StM.heap HA.out.1 HA.out.2.1 HAL.out hm)
    clear hm HC
    go_wp2_with fail
    go_ret
    exact doAns_mk HR.out rfl HM.out
  by_cases h3 : what = 3
  · have hee : he = someE l handle at_ body.length := HE.out.trans (by rw [if_neg (by omega), if_neg (by omega), if_pos h3])
    have hhe : hh = writeL l handle at_ body := HH.out.trans (by rw [if_neg (by omega), if_neg (by omega), if_pos h3])
    have HR : Hidden (r = (⟨D, st, writeL l handle at_ body, K⟩, someE l handle at_ body.length)) := ⟨by rw [HDO.out (by omega) (by omega), hee, hhe]⟩
    clear hee hhe
    subst h3
    have HC := Hidden.mk (hwrite_any handle at_ OA body.length oc body HA.out.1.hp HL.out.1 rfl (Nat.le_trans HOK.out.cap HOK.out.le) HA.out.2.2.rd)
    clear HDO HE HH HD6 HD7 HO
    go_wp2_with fail
    refine HC.out.mono ?_
    rintro e w3 ⟨rfl, hm⟩
    have HM := Hidden.mk (StM.heap HA.out.1 HA.out.2.1 HAL.out hm)
    clear hm HC
    go_wp2_with fail
    go_ret
    exact doAns_mk HR.out rfl HM.out
  by_cases h4 : what = 4
  · have hee : he = setE l name handle := HE.out.trans (by rw [if_neg (by omega), if_neg (by omega), if_neg (by omega), if_pos h4])
    have hhe : hh = setL l name handle := HH.out.trans (by rw [if_neg (by omega), if_neg (by omega), if_neg (by omega), if_pos h4])
    have HR : Hidden (r = (⟨D, st, setL l name handle, K⟩, setE l name handle)) := ⟨by rw [HDO.out (by omega) (by omega), hee, hhe]⟩
    clear hee hhe
    subst h4
    have HC := Hidden.mk (rset_any name handle HA.out.1.hp HL.out.1 HOK.out.name)
    clear HDO HE HH HD6 HD7 HO
    go_wp2_with fail
    refine HC.out.mono ?_
    rintro e w3 ⟨rfl, GH3, hm⟩
    have HM := Hidden.mk (StM.heap HA.out.1 HA.out.2.1 HAL.out hm)
    clear hm HC
    go_wp2_with fail
    go_ret
    exact doAns_mk HR.out rfl HM.out
  by_cases h5 : what = 5
  · have hee : he = unE l name := HE.out.trans (by rw [if_neg (by omega), if_neg (by omega), if_neg (by omega), if_neg (by omega), if_pos h5])
    have hhe : hh = unL l name := HH.out.trans (by rw [if_neg (by omega), if_neg (by omega), if_neg (by omega), if_neg (by omega), if_pos h5])
    have HR : Hidden (r = (⟨D, st, unL l name, K⟩, unE l name)) := ⟨by rw [HDO.out (by omega) (by omega), hee, hhe]⟩
    clear hee hhe
    subst h5
    have HC := Hidden.mk (runset_any name HA.out.1.hp HL.out.1 HOK.out.name)
    clear HDO HE HH HD6 HD7 HO
    go_wp2_with fail
    refine HC.out.mono ?_
    rintro e w3 ⟨rfl, GH3, hm⟩
    have HM := Hidden.mk (StM.heap HA.out.1 HA.out.2.1 HAL.out hm)
    clear hm HC
    go_wp2_with fail
    go_ret
    exact doAns_mk HR.out rfl HM.out
  by_cases h8 : what = 8
  · have hee : he = 0 := HE.out.trans (by rw [if_neg (by omega), if_neg (by omega), if_neg (by omega), if_neg (by omega), if_neg (by omega), if_pos (by omega)])
    have hhe : hh = stepL l := HH.out.trans (by rw [if_neg (by omega), if_neg (by omega), if_neg (by omega), if_neg (by omega), if_neg (by omega), if_pos h8])
    have HR : Hidden (r = (⟨D, st, stepL l, K⟩, 0)) := ⟨by rw [HDO.out (by omega) (by omega), hee, hhe]⟩
    clear hee hhe
    subst h8
    have HC := Hidden.mk (mstep_any HA.out.1.hp HL.out.1)
    clear HDO HE HH HD6 HD7 HO
    go_wp2_with fail
    refine HC.out.mono ?_
    rintro e w3 ⟨rfl, GH3, hm⟩
    have HM := Hidden.mk (StM.heap HA.out.1 HA.out.2.1 HAL.out hm)
    clear hm HC
    go_wp2_with fail
    go_ret
    exact doAns_mk HR.out rfl HM.out
  by_cases h9 : what = 9
  · have hee : he = 0 := HE.out.trans (by rw [if_neg (by omega), if_neg (by omega), if_neg (by omega), if_neg (by omega), if_neg (by omega), if_pos (by omega)])
    have hhe : hh = sweepL l := HH.out.trans (by rw [if_neg (by omega), if_neg (by omega), if_neg (by omega), if_neg (by omega), if_neg (by omega), if_neg (by omega), if_pos h9])
    have HR : Hidden (r = (⟨D, st, sweepL l, K⟩, 0)) := ⟨by rw [HDO.out (by omega) (by omega), hee, hhe]⟩
    clear hee hhe
    subst h9
    have HC := Hidden.mk (sweep_any HA.out.1.hp HL.out.1)
    clear HDO HE HH HD6 HD7 HO
    go_wp2_with fail
    refine HC.out.mono ?_
    rintro e w3 ⟨rfl, GH3, hm⟩
    have HM := Hidden.mk (StM.heap HA.out.1 HA.out.2.1 HAL.out hm)
    clear hm HC
    go_wp2_with fail
    go_ret
    exact doAns_mk HR.out rfl HM.out
  by_cases h6 : what = 6
  · have HR := Hidden.mk (HD6.out h6)
    subst h6
    have HC := Hidden.mk (scommit_any HA.out.1 HA.out.2.1 HL.out.2.2.1 HL.out.2.2.2.1 hn HL.out.2.2.2.2)
    obtain ⟨R, hRR⟩ : ∃ R, cmS n st D l K = R := ⟨_, rfl⟩
    unfold ScAns at HC
    rw [hRR] at HR HC
    clear HDO HE HH HD6 HD7 HO hRR
    go_wp2_with fail
    refine HC.out.mono ?_
    rintro e w3 ⟨rfl, F3, gk3, ck3, hm1, hm0⟩
    have HM := Hidden.mk (And.intro hm1 hm0)
    clear hm1 hm0 HC
    go_wp2_with fail
    go_ret
    by_cases hz : R.2 = 0
    · exact doAns_mk (HR.out.trans (if_pos hz)) (by rw [hz]; rfl) ((HM.out.2 hz).from_ HAL.out)
    · exact doAns_mk (HR.out.trans (if_neg hz)) rfl ((HM.out.1 hz).from_ HAL.out)
  by_cases h7 : what = 7
  · have HR := Hidden.mk (HD7.out h7)
    subst h7
    have HC := Hidden.mk (sabort_any HA.out.1 HL.out.2.1.len HA.out.2.1.flt)
    clear HDO HE HH HD6 HD7 HO
    go_wp2_with fail
    refine HC.out.mono ?_
    rintro e w3 ⟨rfl, GH3, hm, -⟩
    have HM := Hidden.mk (StM.heap HA.out.1 HA.out.2.1 HAL.out hm)
    clear hm HC
    go_wp2_with fail
    go_ret
    exact doAns_mk HR.out rfl HM.out
  have hee : he = 1 := HE.out.trans (by rw [if_neg h1, if_neg h2, if_neg h3, if_neg h4, if_neg h5, if_neg (by omega)])
  have hhe : hh = l := HH.out.trans (by rw [if_neg h1, if_neg h2, if_neg h3, if_neg h4, if_neg h5, if_neg h8, if_neg h9])
  have HR : Hidden (r = (⟨D, st, l, K⟩, 1)) := ⟨by rw [HDO.out h6 h7, hee, hhe]⟩
  clear hee hhe
  have HM := Hidden.mk (StM.heap HA.out.1 HA.out.2.1 HAL.out (HA.out.1.hp.same (Below.refl _ _)))
  have q1 : (what == 1) = false := by simpa using h1
  have q2 : (what == 2) = false := by simpa using h2
  have q3 : (what == 3) = false := by simpa using h3
  have q4 : (what == 4) = false := by simpa using h4
  have q5 : (what == 5) = false := by simpa using h5
  have q6 : (what == 6) = false := by simpa using h6
  have q7 : (what == 7) = false := by simpa using h7
  have q8 : (what == 8) = false := by simpa using h8
  have q9 : (what == 9) = false := by simpa using h9
  clear h1 h2 h3 h4 h5 h6 h7 h8 h9 HDO HE HH HD6 HD7 HO
  go_wp2_with fail
  go_ret
  exact doAns_mk HR.out rfl HM.out
end
end Go.Proofs.YtoieifphklodoaaGreatDoor
/- Package store: of, Open, Create. -/
namespace Go.Proofs.YtoieifphklodoaaGreatDoor
open Go.RowKit Go.Maps Go.ChangeMaps

/-- a store that a call has made -/
structure SnM (w0 w w' : World) (F F' GH : Nat → Prop) (s p d h gk ck st n : Nat) (D : Dv) (N : Bytes) : Prop where
  dev : DevB w0 w' F' d D
  st : StH w0 w' F' GH s p d h gk ck st n N N
  kp : Keep F w w'
  sub : ∀ q, F' q → F q ∨ w.heap.size ≤ q
  ns : w.heap.size ≤ s ∧ w.heap.size ≤ p ∧ w.heap.size ≤ gk
  ng : ∀ q, GH q → w.heap.size ≤ q
section
variable {w0 w w' : World} {F F' GH GH' G : Nat → Prop} {s p d h gk ck st n : Nat} {D : Dv} {l l' K : Bytes}
set_option maxRecDepth 100000 in
theorem sof_ok (hd : DevB w0 w F d D) (hp : PgH w F p d st n) (hn : n = nP D) (hdn : D.down = false) (hl : ∀ i, i < n → (readD D (48 + i)).length = 32) (N : Bytes) (hN : allB D n = N) (hg : Good N) (h0 : w0.heap.size ≤ p) :
    Calls Tryz.prog 62 #[.pointer (some ⟨p, 0, none⟩)] w fun e w' => ∃ s h gk ck GH, e = .returned (.tuple #[.pointer (some ⟨s, 0, none⟩), .nilIface]) ∧ StH w0 w' F GH s p d h gk ck st n N N ∧ Below w.heap.size w w' ∧ w.heap.size ≤ s ∧ w.heap.size ≤ gk ∧ ∀ q, GH q → w.heap.size ≤ q := by
  have hlen : (allB D n).length = 32 * n := allB_len n hl
  rw [hN] at hlen
  have hb := hg.bd
  have HV := Hidden.mk (vall_ok hd (by rw [← hn]; exact hp) hdn (by rw [← hn]; exact hl) n hn)
  rw [hN] at HV
  have HP := Hidden.mk (And.intro hp (And.intro hd (And.intro hlen (And.intro hg h0))))
  have hn9 : 0 < 32 * n := by omega
  clear hd hp hn hdn hl hN hg h0 hlen hb
  go_enter Tryz.func62, Tryz.ntmps62
  go_wp2_with fail
  refine HV.out.mono ?_
  rintro e w1 ⟨v, rfl, hown, hb1⟩
  obtain ⟨g, cap, rfl, hbg, hrow⟩ := row_of_owns hown HP.out.2.2.1 hn9
  have HR := Hidden.mk (And.intro hbg (And.intro hrow hb1))
  have HLD := Hidden.mk (hload_ok (some ⟨g, 0, none⟩) (32 * n) cap N w0 w1 HP.out.2.2.1 HP.out.2.2.2.1 (by rw [← HP.out.2.2.1]; exact hrow.le.1) hrow.rd (HP.out.2.1.below hb1).bel)
  clear hown hbg hrow hb1 HV
  go_wp2_with fail
  refine HLD.out.mono ?_
  rintro e w2 ⟨h, GH, rfl, hp2, hb2, hg2⟩
  have hal := (Below.refl w2.heap.size w2).alloc (Nat.le_refl _) (.cells #[.pointer (some ⟨p, 0, none⟩), .pointer (some ⟨h, 0, none⟩), .slice (some ⟨g, 0, none⟩) (32 * n) cap] 118)
  have HF : Hidden (StH w0 (w2.alloc (.cells #[.pointer (some ⟨p, 0, none⟩), .pointer (some ⟨h, 0, none⟩), .slice (some ⟨g, 0, none⟩) (32 * n) cap] 118)) F GH w2.heap.size p d h g cap st n N N ∧ Below w.heap.size w (w2.alloc (.cells #[.pointer (some ⟨p, 0, none⟩), .pointer (some ⟨h, 0, none⟩), .slice (some ⟨g, 0, none⟩) (32 * n) cap] 118)) ∧ w.heap.size ≤ w2.heap.size ∧ w.heap.size ≤ g ∧ ∀ q, GH q → w.heap.size ≤ q) := ⟨by
    obtain ⟨a1, a2, a3⟩ := HR.out
    obtain ⟨b1, b2, b3, b4, b5⟩ := HP.out
    have hB2 : Below w.heap.size w w2 := a3.trans (hb2.mono a3.size)
    have hB3 := hB2.trans (hal.mono hB2.size)
    have s1 := a3.size
    have s2 := hb2.size
    have s0 := b2.bel.size
    have hnF : ∀ q, w.heap.size ≤ q → ¬ F q := fun q hq hf => by have := b2.flt q hf; omega
    have hr2 : Row w2 5 g cap N := a2.below hb2 a2.lt
    have hglt := a2.lt
    have hplt := b1.lt
    refine ⟨⟨by rw [b3]; exact heap_alloc_new w2 _, b1.below hB3, hp2.below hal, hr2.below hal hr2.lt, hnF _ (by omega), hnF _ a1, fun q hq => hnF q (Nat.le_trans s1 (hg2 q hq)), fun hq => by have := hp2.flt _ hq; omega, fun hq => by have := hg2 _ hq; omega, fun hq => by have := hg2 _ hq; omega, by omega, b5, Nat.le_trans s0 a1⟩, hB3, by omega, a1, fun q hq => Nat.le_trans s1 (hg2 q hq)⟩⟩
  clear hp2 hb2 hg2 hal HLD
  go_wp2_with fail
  go_ret2
  exact ⟨_, h, g, cap, GH, rfl, HF.out.1, HF.out.2.1, HF.out.2.2.1, HF.out.2.2.2.1, HF.out.2.2.2.2⟩
theorem sopen_ok (hd : DevB w0 w F d D) (h0 : (openP D).2 = 0) (hst : (openMk D).1 = st) (hn : n = nP D) (hn2 : n = nP (openP D).1) (hdn : (openP D).1.down = false) (hl : ∀ i, i < n → (readD (openP D).1 (48 + i)).length = 32) (N : Bytes) (hN : allB (openP D).1 n = N) (hg : Good N) :
    Calls Tryz.prog 19 #[.pointer (some ⟨d, 0, none⟩)] w fun e w' => ∃ s p h gk ck F' GH, e = .returned (.tuple #[.pointer (some ⟨s, 0, none⟩), .nilIface]) ∧ SnM w0 w w' F F' GH s p d h gk ck st n (openP D).1 N := by
  have HO := Hidden.mk (popen_any hd)
  have HZ := Hidden.mk (And.intro hd.bel hst)
  have HNP := Hidden.mk hn
  have HQ := Hidden.mk (And.intro h0 (And.intro hn (And.intro hn2 (And.intro hdn (And.intro hl (And.intro hN hg))))))
  rw [hst] at HO
  generalize openP D = r at *
  clear hd h0 hn hn2 hdn hl hN hg hst
  go_enter Tryz.func19, Tryz.ntmps19
  go_wp2_with fail
  refine HO.out.mono ?_
  rintro e w1 hop
  obtain ⟨v, F', rfl, hm, hpp⟩ := hop.uni
  obtain ⟨q1, q2, q3, q4, q5, q6, q7⟩ := HQ.out
  obtain ⟨p, rfl, hp, hpn⟩ := hpp q1
  have hw := HZ.out.1.size
  have HOF := Hidden.mk (sof_ok hm.dev (by rw [← HNP.out] at hp; exact hp) q3 q4 q5 N q6 q7 (by omega))
  have HM := Hidden.mk (And.intro hm hpn)
  rw [q1, errV0]
  clear hm hop hpp hp hpn q1 q2 q3 q4 q5 q6 q7 HO
  go_wp2_with fail
  refine HOF.out.mono ?_
  rintro e w2 ⟨s, h, gk, ck, GH, rfl, hs, hb, h1, h2, h3⟩
  have HF : Hidden (SnM w0 w w2 F F' GH s p d h gk ck st n r.1 N) := ⟨by
    obtain ⟨a1, a2⟩ := HM.out
    have a3 := a1.below hb
    have hz := a1.kp.size
    exact ⟨a3.dev, hs, a3.kp, a3.sub, ⟨by omega, a2, by omega⟩, fun q hq => Nat.le_trans hz (h3 q hq)⟩⟩
  clear hs hb h1 h2 h3 HOF
  go_wp2_with fail
  go_ret2
  exact ⟨s, p, h, gk, ck, F', GH, rfl, HF.out⟩
end
end Go.Proofs.YtoieifphklodoaaGreatDoor
/- Package store: Create. -/
namespace Go.Proofs.YtoieifphklodoaaGreatDoor
open Go.RowKit Go.Maps Go.ChangeMaps

section
variable {w0 w w' : World} {F F' : Nat → Prop} {d : Nat}
theorem newD_len (nn : Nat) : (newD nn).S.length = nn := by simp [newD]
set_option maxRecDepth 100000 in
theorem screate_e1 (nn : Nat) (hd : DevB w0 w F d (newD nn)) (h1 : 1 ≤ nn) (h57 : nn < 57) :
    Calls Tryz.prog 10 #[.pointer (some ⟨d, 0, none⟩)] w fun e w' => e = .returned (.tuple #[.pointer none, .iface 110 (.int .i64 1)]) ∧ w = w' := by
  have HL := Hidden.mk hd.len
  rw [newD_len] at HL
  have s1 : IntKind.i64.wrap ((nn : Int) - 48) = (nn : Int) - 48 := IntWalk.i64_in _ (by omega)
  clear hd
  go_enter Tryz.func10, Tryz.ntmps10
  go_upto_region 1 with (fail)
  go_cut [4] (fun v wx => v = .int .i64 ((nn : Int) - 48) ∧ w = wx)
  case first =>
    go_wp2_with fail
    refine HL.out.mono ?_
    rintro e w1 ⟨rfl, rfl⟩
    go_wp2_with fail
    all_goals
      go_meet
      refine ⟨?_, rfl⟩
      first
        | rfl
        | (congr 1; omega)
  case rest =>
  obtain ⟨rfl, rfl⟩ := hcut
  obtain ⟨z, hz⟩ : ∃ z : Int, (nn : Int) - 48 = z := ⟨_, rfl⟩
  have hz9 : z < 9 := by omega
  have hzl : -48 ≤ z := by omega
  rw [hz]
  clear s1 hz
  have s2 : IntKind.i64.wrap (z * 32) = z * 32 := IntWalk.i64_in _ (by omega)
  by_cases hz1 : z < 1
  · have d1 : decide (z < 1) = true := by simpa using hz1
    clear hz1
    go_wp2_with fail
    go_ret2
    exact ⟨rfl, rfl⟩
  · have d1 : decide (z < 1) = false := by simpa using hz1
    have HR := Hidden.mk (right_any (z * 32) w)
    rw [rightB_false.2 (.inl (by omega))] at HR
    clear hz1
    go_wp2_with fail
    refine HR.out.mono ?_
    rintro e w1 ⟨rfl, rfl⟩
    go_wp2_with fail
    go_ret2
    exact ⟨rfl, rfl⟩
set_option maxRecDepth 100000 in
set_option maxHeartbeats 1000000 in
theorem screate_ok (nn n : Nat) (hd : DevB w0 w F d (newD nn)) (h57 : 57 ≤ nn) (h3 : nn ≤ 300) (hn : n = nP (newD nn)) :
    Calls Tryz.prog 10 #[.pointer (some ⟨d, 0, none⟩)] w fun e w' => ∃ s p h gk ck F' GH, e = .returned (.tuple #[.pointer (some ⟨s, 0, none⟩), .nilIface]) ∧ SnM w0 w w' F F' GH s p d h gk ck 2 n (madeD nn) (List.replicate (32 * n) 0) := by
  have HL := Hidden.mk hd.len
  rw [newD_len] at HL
  obtain ⟨mk0, mkn, mkp, mkd, mko⟩ := made_ok nn h57 h3 n hn
  have HMD := Hidden.mk (And.intro mk0 (And.intro mkp (And.intro mkd mko)))
  have HME : Hidden (madeD nn = (flD (zsD nn n)).1) := ⟨by unfold madeD; rw [hn]⟩
  have HZS : Hidden (∀ k, k ≤ n → MdS nn n (zsD nn k)) := ⟨fun k hk => by have := zs_ok nn (by omega) h3 k (by rw [← hn]; exact hk); rwa [← hn] at this⟩
  have HPF := Hidden.mk (pformat_ok hd (⟨rfl, rfl⟩ : Up (newD nn)) (by rw [newD_len]; omega))
  rw [← hn] at HPF
  have s1 : IntKind.i64.wrap ((nn : Int) - 48) = (nn : Int) - 48 := IntWalk.i64_in _ (by omega)
  have HB0 := Hidden.mk hd.bel
  have HZ0 : Hidden (zsD nn 0 = formatD (newD nn)) := ⟨rfl⟩
  have HZK : Hidden (∀ k, zsD nn (k + 1) = (wrD (zsD nn k) (48 + (k : Int)) (List.replicate 32 0)).1) := ⟨fun _ => rfl⟩
  have hn9 : 9 ≤ n ∧ n ≤ 200 := by omega
  have hnz : min ((nn : Int) - 48) 200 = (n : Int) := by omega
  generalize madeD nn = Dm at *
  generalize formatD (newD nn) = Df at *
  clear hd mk0 mkp mkd mko mkn hn
  go_enter Tryz.func10, Tryz.ntmps10
  go_upto_region 1 with (fail)
  go_cut [4] (fun v wx => v = .int .i64 (n : Int) ∧ w = wx)
  case first =>
    go_wp2_with fail
    refine HL.out.mono ?_
    rintro e w1 ⟨rfl, rfl⟩
    go_wp2_with fail
    all_goals
      go_meet
      refine ⟨?_, rfl⟩
      first
        | (congr 1; omega)
  case rest =>
  obtain ⟨rfl, rfl⟩ := hcut
  clear s1 hnz HL
  have s2 : IntKind.i64.wrap ((n : Int) * 32) = (n : Int) * 32 := IntWalk.i64_in _ (by omega)
  have d1 : decide ((n : Int) < 1) = false := by simp; omega
  have HR := Hidden.mk (right_any ((n : Int) * 32) w)
  rw [rightB_true.2 (by omega)] at HR
  go_wp2_with fail
  refine HR.out.mono ?_
  rintro e w1 ⟨rfl, rfl⟩
  clear d1 s2 HR
  go_wp2_with fail
  refine HPF.out.mono ?_
  rintro e w1 ⟨p, F1, rfl, hm1, hp1, hpn⟩
  have HP1 := Hidden.mk hp1
  have HPN := Hidden.mk hpn
  have HST : Hidden (PdM w0 w w1 F F1 d (zsD nn 0) ∧ PgH w1 F1 p d 2 n) := ⟨by rw [HZ0.out]; exact ⟨hm1, hp1⟩⟩
  clear hm1 hp1 hpn HPF HZ0
  go_wp2_with fail
  refine (plen_any HP1.out).mono ?_
  rintro e w2 ⟨rfl, rfl⟩
  go_wp2_with fail
  clear HP1
  go_loopg [33] n (fun r i wr => ∃ (k : Nat) (Fk : Nat → Prop), k ≤ n ∧ r = n - k ∧ i = .int .i64 (k : Int) ∧ Hidden (PdM w0 w wr F Fk d (zsD nn k) ∧ PgH wr Fk p d 2 n))
  case atStart => exact ⟨0, F1, by omega, rfl, rfl, HST⟩
  case round =>
    obtain ⟨k, Fk, hk, rfl, rfl, hst⟩ := hrel
    by_cases hlt : k < n
    · have i0 : (0 : Int) ≤ k := by omega
      have i1 : (k : Int) < n := by omega
      have s1 : IntKind.i64.wrap ((k : Int) + 1) = (k : Int) + 1 := IntWalk.i64_in _ (by omega)
      have s2 : IntKind.i64.wrap (48 + (k : Int)) = 48 + (k : Int) := IntWalk.i64_in _ (by omega)
      have hmz := fun W => mk_bytes 32 32 rfl (by omega) W
      have hal := (Below.refl wr.heap.size wr).alloc (Nat.le_refl _) (.cells (zeroRow 32) 5)
      have HM4 := Hidden.mk (hst.out.1.below hal)
      have HP4 := Hidden.mk (hst.out.2.below hal)
      have hgF : ¬ Fk wr.heap.size := fun hf => by have := hst.out.1.dev.flt _ hf; omega
      have HW2 := Hidden.mk (HM4.out.dev.write_all (48 + (k : Int)) (some ⟨wr.heap.size, 0, none⟩) 32 32 (List.replicate 32 0) (by simp) (row_zeros wr 32 (by simp [maxLen])).rd (fun _ ad e hf => hgF (by obtain rfl := Option.some.inj e; exact hf)))
      have hz := ((HZS.out k hk).zero k hlt).1
      rw [hz, errV0, ← HZK.out k] at HW2
      clear hst hal hgF hz HST
      go_wp2_with fail
      refine HW2.out.mono ?_
      rintro e w5 ⟨rfl, hh⟩
      obtain ⟨F5, hm5⟩ := pdm_write _ hh
      have HN : Hidden (PdM w0 w w5 F F5 d (zsD nn (k + 1)) ∧ PgH w5 F5 p d 2 n) := ⟨HM4.out.next hm5, HP4.out.mod hm5⟩
      clear hh hm5 HW2 HM4 HP4 hmz
      go_wp2_with fail
      go_roundg (n - (k + 1))
      case measure => omega
      case rel => exact ⟨k + 1, F5, by omega, rfl, by go_num, HN⟩
    · obtain rfl : k = n := by omega
      have t4 : decide ((k : Int) < k) = false := by simp
      have HFL := Hidden.mk hst.out.1.dev.flush_all
      rw [HMD.out.1, errV0, ← HME.out] at HFL
      clear HST
      go_wp2_with fail
      refine HFL.out.mono ?_
      rintro e w6 ⟨rfl, hd6, hk6⟩
      have hm6 : PdM w0 wr w6 Fk Fk d Dm := ⟨hd6, hk6, fun _ hq => .inl hq⟩
      have HM7 := Hidden.mk (And.intro (hst.out.1.next hm6) (hst.out.2.mod hm6))
      obtain ⟨a1, a2, a3⟩ := HMD.out.2
      have hsz := HB0.out.size
      have hpg := a3.sf
      obtain ⟨pg, hsf⟩ := hpg
      have HOF := Hidden.mk (sof_ok HM7.out.1.dev HM7.out.2 a1 a2 (fun i hi => by rw [(hsf.page i hi).1]; exact (hsf.page i hi).2) _ a3.kb.symm a3.gl (by have := HPN.out; omega))
      dsimp only at HOF
      clear hd6 hk6 hm6 HFL a1 a2 a3 hsf hst
      go_wp2_with fail
      refine HOF.out.mono ?_
      rintro e w8 ⟨s, h, gk, ck, GH, rfl, hs, hb, h1, h2, h3⟩
      have HF : Hidden (SnM w0 w w8 F Fk GH s p d h gk ck 2 k Dm (List.replicate (32 * k) 0)) := ⟨by
        have a3 := HM7.out.1.below hb
        have hz := HM7.out.1.kp.size
        exact ⟨a3.dev, hs, a3.kp, a3.sub, ⟨by omega, HPN.out, by omega⟩, fun q hq => Nat.le_trans hz (h3 q hq)⟩⟩
      clear hs hb h1 h2 h3 HOF
      go_wp2_with fail
      go_ret2
      exact ⟨s, p, h, gk, ck, Fk, GH, rfl, HF.out⟩
end
end Go.Proofs.YtoieifphklodoaaGreatDoor
/- A store that is played with, the power there: what is kept; a second store beside it; a region's condition made stronger on the way. -/
namespace Go.Proofs.YtoieifphklodoaaGreatDoor
open Go.RowKit Go.Maps Go.ChangeMaps

section
variable {P : Program} {ops : Array Oper} {Q : Exit → Act → World → Prop} {md : Region.Mode} {S S' : World → Prop}
/-- a stronger condition does -/
theorem wpAnyH_strong (h : ∀ w, S' w → S w) : ∀ (fuel : Nat) (listed : Array Bool) (a : Act) (w : World), wpAnyH P md ops Q S' fuel listed a w → wpAnyH P md ops Q S fuel listed a w
  | 0, _, _, _, k => k
  | fuel + 1, _, _, _, k => ⟨k.1, fun i hi => wpOp_mono (fun a' w' k' => ⟨h w' k'.1, wpAnyH_strong h fuel _ a' w' k'.2⟩) (k.2 i hi)⟩
end
/-- a store, its device, the power there -/
structure PlSt (w0 w : World) (F GH : Nat → Prop) (s p d h nn n : Nat) (S : Sto) : Prop where
  dev : DevB w0 w F d S.D
  st : ∃ gk ck, StH w0 w F GH s p d h gk ck S.st n S.l S.K
  ok : StOk nn n S
/-- what an op leaves -/
structure PlM (w0 w w' : World) (F F' GH GH' : Nat → Prop) (s p d h nn n : Nat) (S : Sto) : Prop where
  pl : PlSt w0 w' F' GH' s p d h nn n S
  kp : Keep (fun q => (F q ∨ GH q) ∨ (q = s ∨ q = p)) w w'
  sub : ∀ q, F' q → F q ∨ w.heap.size ≤ q
  nw : ∀ q, GH' q → GH q ∨ w.heap.size ≤ q
section
variable {w0 w w' w1 : World} {F F' GH GH' GA : Nat → Prop} {s p d h nn n sa pa ha gka cka sta : Nat} {S : Sto} {la Ka : Bytes}
theorem PlSt.below (a : PlSt w0 w F GH s p d h nn n S) (hb : Below w.heap.size w w') : PlSt w0 w' F GH s p d h nn n S := by
  obtain ⟨gk, ck, hs⟩ := a.st
  exact ⟨a.dev.below hb, ⟨gk, ck, hs.below hb⟩, a.ok⟩
theorem PlSt.do_ (a : PlSt w0 w F GH s p d h nn n S) (hst : S.st < 4294967295) (o : OpX) (ho : OpOk w0 o) :
    Calls Tryz.prog 11 #[.pointer (some ⟨s, 0, none⟩), opV o] w fun e w' => e = .returned (errV (doS n S o).2) ∧ ∃ F' GH', PlM w0 w w' F F' GH GH' s p d h nn n (doS n S o).1 := by
  obtain ⟨gk, ck, hs⟩ := a.st
  obtain ⟨D, st, l, K⟩ := S
  refine (sdo_any o hs a.dev a.ok.gl a.ok.gk a.ok.ll a.ok.lk a.ok.n2 (Nat.le_of_lt hst) (ho.below a.dev.bel)).mono ?_
  rintro e w1 ⟨he, F', GH', gk', ck', hm⟩
  exact ⟨he, F', GH', ⟨hm.dev, ⟨gk', ck', hm.st⟩, (a.ok.do hst o).1⟩, hm.kp, hm.sub, hm.nw⟩
/-- Commit by itself -/
theorem PlSt.commit (a : PlSt w0 w F GH s p d h nn n S) (hst : S.st < 4294967295) :
    Calls Tryz.prog 46 #[.pointer (some ⟨s, 0, none⟩)] w fun e w' => e = .returned (errV (cmS n S.st S.D S.l S.K).2) ∧ Below w0.heap.size w0 w' ∧ ((cmS n S.st S.D S.l S.K).2 = 0 → ∃ F', PlM w0 w w' F F' GH GH s p d h nn n ⟨(cmS n S.st S.D S.l S.K).1, if (dL S.l S.K n).length ≠ 0 then S.st + 1 else S.st, S.l, S.l⟩) := by
  obtain ⟨gk, ck, hs⟩ := a.st
  obtain ⟨D, st, l, K⟩ := S
  refine (scommit_any hs a.dev a.ok.ll a.ok.lk a.ok.n2 (Nat.le_of_lt hst)).mono ?_
  rintro e w1 ⟨he, F', gk', ck', hn, hm⟩
  refine ⟨he, ?_, fun h0 => ⟨F', ⟨(hm h0).dev, ⟨gk', ck', (hm h0).st⟩, ?_⟩, (hm h0).kp, (hm h0).sub, (hm h0).nw⟩⟩
  · by_cases h0 : (cmS n st D l K).2 = 0
    · exact (hm h0).dev.bel
    · exact (hn h0).dev.bel
  have hd := (a.ok.do hst ⟨6, 0, 0, 0, [], none, 0, []⟩).1
  unfold doS at hd
  rw [if_pos rfl, if_pos h0] at hd
  exact hd
/-- another store, of which no block is one of these -/
structure Beside (w0 w : World) (F GH GA : Nat → Prop) (s p sa pa d ha gka cka sta n : Nat) (la Ka : Bytes) : Prop where
  st : StH w0 w F GA sa pa d ha gka cka sta n la Ka
  ap : ∀ q, (GA q ∨ q = sa ∨ q = pa ∨ q = gka) → ¬ GH q ∧ q ≠ s ∧ q ≠ p
theorem StH.lt4 (a : StH w0 w F GA sa pa d ha gka cka sta n la Ka) : ∀ q, (GA q ∨ q = sa ∨ q = pa ∨ q = gka) → q < w.heap.size ∧ ¬ F q := fun q hq => by
  obtain ⟨l1, l2, l3⟩ := a.lt
  rcases hq with hq | rfl | rfl | rfl
  · exact ⟨a.hp.flt q hq, a.gf q hq⟩
  · exact ⟨l1, a.sf⟩
  · exact ⟨l2, a.pg.2⟩
  · exact ⟨l3, a.kf⟩
theorem Beside.below (a : Beside w0 w F GH GA s p sa pa d ha gka cka sta n la Ka) (hb : Below w.heap.size w w') : Beside w0 w' F GH GA s p sa pa d ha gka cka sta n la Ka := ⟨a.st.below hb, a.ap⟩
theorem Beside.turn (a : Beside w0 w F GH GA s p sa pa d ha gka cka sta n la Ka) (hF : ∀ q, F q → w0.heap.size ≤ q) (hG : ∀ q, GH q → w0.heap.size ≤ q) (hs : w0.heap.size ≤ s) (hp : w0.heap.size ≤ p) (hk : Keep (fun q => (F q ∨ GH q) ∨ (q = s ∨ q = p)) w w') (hsub : ∀ q, F' q → F q ∨ w.heap.size ≤ q) (hnw : ∀ q, GH' q → GH q ∨ w.heap.size ≤ q) : Beside w0 w' F' GH' GA s p sa pa d ha gka cka sta n la Ka :=
  ⟨a.st.keep hk (fun q hq hf => by
    obtain ⟨h1, h2, h3⟩ := a.ap q hq
    rcases hf with (hf | hf) | hf | hf
    · exact (a.st.lt4 q hq).2 hf
    · exact h1 hf
    · exact h2 hf
    · exact h3 hf) (fun q hf => by
    rcases hf with (hf | hf) | hf | hf
    · exact hF q hf
    · exact hG q hf
    · exact hf ▸ hs
    · exact hf ▸ hp) hsub, fun q hq => ⟨fun hg => by
    rcases hnw q hg with h' | h'
    · exact (a.ap q hq).1 h'
    · have := (a.st.lt4 q hq).1; omega, (a.ap q hq).2⟩⟩
theorem Beside.dev (a : Beside w0 w F GH GA s p sa pa d ha gka cka sta n la Ka) (hk : Keep F w w') (hn : ∀ q, F q → w0.heap.size ≤ q) (hF : ∀ q, F' q → F q ∨ w.heap.size ≤ q) : Beside w0 w' F' GH GA s p sa pa d ha gka cka sta n la Ka := ⟨a.st.dev hk hn hF, a.ap⟩
/-- the store is played with, a device of its own is opened -/
theorem PlSt.opened (a : PlSt w0 w F GH s p d h nn n S) {D' : Dv} (hd : DevB w0 w' F' d D') (hk : Keep F w w') (hF : ∀ q, F' q → F q ∨ w.heap.size ≤ q) (ho : StOk nn n ⟨D', S.st, S.l, S.K⟩) : PlSt w0 w' F' GH s p d h nn n ⟨D', S.st, S.l, S.K⟩ := by
  obtain ⟨gk, ck, hs⟩ := a.st
  exact ⟨hd, ⟨gk, ck, hs.dev hk a.dev.new hF⟩, ho⟩
theorem PlSt.open_ (a : PlSt w0 w F GH s p d h nn n S) :
    Calls Tryz.prog 19 #[.pointer (some ⟨d, 0, none⟩)] w fun e w' => ∃ sa pa ha gka cka F' GA, e = .returned (.tuple #[.pointer (some ⟨sa, 0, none⟩), .nilIface]) ∧ SnM w0 w w' F F' GA sa pa d ha gka cka S.st n (openP S.D).1 S.K ∧ PlSt w0 w' F' GH s p d h nn n ⟨(openP S.D).1, S.st, S.l, S.K⟩ ∧ Beside w0 w' F' GH GA s p sa pa d ha gka cka S.st n S.K S.K := by
  obtain ⟨o1, o2, o3, o4, o5, o6, o7, o8⟩ := a.ok.opened
  refine (sopen_ok a.dev o1 o4 o7 o8 o5 o6 S.K o2.kb.symm a.ok.gk).mono ?_
  rintro e w1 ⟨sa, pa, ha, gka, cka, F', GA, he, hm⟩
  obtain ⟨gk, ck, hs⟩ := id a.st
  refine ⟨sa, pa, ha, gka, cka, F', GA, he, hm, a.opened hm.dev hm.kp hm.sub o3, hm.st, fun q hq => ?_⟩
  have hq : w.heap.size ≤ q := by
    rcases hq with hq | rfl | rfl | rfl
    · exact hm.ng q hq
    · exact hm.ns.1
    · exact hm.ns.2.1
    · exact hm.ns.2.2
  obtain ⟨l1, l2, l3⟩ := hs.lt
  exact ⟨fun hg => by have := hs.hp.flt q hg; omega, by omega, by omega⟩
end
/-- the store's dirty pages -/
theorem PlSt.dirty {w0 w : World} {F GH : Nat → Prop} {s p d h nn n : Nat} {S : Sto} (a : PlSt w0 w F GH s p d h nn n S) :
    Calls Tryz.prog 48 #[.pointer (some ⟨s, 0, none⟩)] w fun e w' => ∃ A c, e = .returned (.slice A (dL S.l S.K n).length c) ∧ RdX ncell 1 w' A (dL S.l S.K n) ∧ Below w.heap.size w w' := by
  obtain ⟨gk, ck, hs⟩ := a.st
  refine (sdirty_any hs a.ok.ll a.ok.lk a.ok.n2).mono ?_
  rintro e w1 ⟨v, he, ho, hb⟩
  obtain ⟨A, c, rfl, -, -⟩ := own_split ho
  exact ⟨A, c, he, own_rdX3 (f := ncell) (fun _ => rfl) rfl ho, hb⟩
theorem PlSt.heap_ {w0 w : World} {F GH : Nat → Prop} {s p d h nn n : Nat} {S : Sto} (a : PlSt w0 w F GH s p d h nn n S) :
    Calls Tryz.prog 16 #[.pointer (some ⟨s, 0, none⟩)] w fun e w' => e = .returned (.pointer (some ⟨h, 0, none⟩)) ∧ w = w' := by
  obtain ⟨gk, ck, hs⟩ := a.st
  exact stheap_any hs
theorem PlSt.stamp_ {w0 w : World} {F GH : Nat → Prop} {s p d h nn n : Nat} {S : Sto} (a : PlSt w0 w F GH s p d h nn n S) :
    Calls Tryz.prog 47 #[.pointer (some ⟨s, 0, none⟩)] w fun e w' => e = .returned (.int .i64 S.st) ∧ w = w' := by
  obtain ⟨gk, ck, hs⟩ := a.st
  exact sstamp_any hs
theorem PlSt.bytes_ {w0 w : World} {F GH : Nat → Prop} {s p d h nn n : Nat} {S : Sto} (a : PlSt w0 w F GH s p d h nn n S) :
    Calls Tryz.prog 17 #[.pointer (some ⟨h, 0, none⟩)] w fun e w' => ∃ g cap, e = .returned (.slice (some ⟨g, 0, none⟩) S.l.length cap) ∧ w.heap.size ≤ g ∧ Row w' 5 g cap S.l ∧ Below w.heap.size w w' := by
  obtain ⟨gk, ck, hs⟩ := a.st
  exact hbytes_ok _ _ _ _ _ hs.hp
end Go.Proofs.YtoieifphklodoaaGreatDoor
/- StoreSafe: the plain law: what is kept of a store, wherever the power goes. No program in sight. -/
namespace Go.Proofs.YtoieifphklodoaaGreatDoor
open Go.RowKit Go.Maps Go.ChangeMaps

section
variable {nn n : Nat} {s : Sto} {nx : Bytes}
end
section
variable {nn n st : Nat} {D : Dv} {N : Bytes}
end
end Go.Proofs.YtoieifphklodoaaGreatDoor
/- StoreSafe: what the law keeps. -/
namespace Go.Proofs.YtoieifphklodoaaGreatDoor
open Go.RowKit Go.Maps Go.ChangeMaps

/-- a row of the law's own, beside the device and a heap -/
structure RowO (w0 w : World) (F GH : Nat → Prop) (g c : Nat) (x : Bytes) : Prop where
  row : Row w 5 g c x
  nf : ¬ F g
  ng : ¬ GH g
  base : w0.heap.size ≤ g
section
variable {w0 w w' : World} {F F' GH GH' : Nat → Prop} {s p d h nn n g c g1 c1 g2 c2 gw cw : Nat} {S : Sto} {nx x : Bytes}
theorem RowO.below (a : RowO w0 w F GH g c x) (hb : Below w.heap.size w w') : RowO w0 w' F GH g c x := ⟨a.row.below hb a.row.lt, a.nf, a.ng, a.base⟩
theorem RowO.dev (a : RowO w0 w F GH g c x) (hk : Keep F w w') (hF : ∀ q, F' q → F q ∨ w.heap.size ≤ q) : RowO w0 w' F' GH g c x :=
  ⟨hk.row a.row a.nf, fun hf => by
    rcases hF _ hf with h' | h'
    · exact a.nf h'
    · have := a.row.lt; omega, a.ng, a.base⟩
theorem RowO.turn {gk ck st : Nat} {l K : Bytes} (a : RowO w0 w F GH g c x) (hs : StH w0 w F GH s p d h gk ck st n l K) (hk : Keep (fun q => (F q ∨ GH q) ∨ (q = s ∨ q = p)) w w') (hF : ∀ q, F' q → F q ∨ w.heap.size ≤ q) (hG : ∀ q, GH' q → GH q ∨ w.heap.size ≤ q) : RowO w0 w' F' GH' g c x := by
  have hne := hs.types a.row
  have hl := a.row.lt
  refine ⟨hk.row a.row (fun hf => ?_), fun hf => ?_, fun hf => ?_, a.base⟩
  · rcases hf with (hf | hf) | hf | hf
    · exact a.nf hf
    · exact a.ng hf
    · exact hne.1 hf
    · exact hne.2 hf
  · rcases hF _ hf with h' | h'
    · exact a.nf h'
    · omega
  · rcases hG _ hf with h' | h'
    · exact a.ng h'
    · omega
/-- another heap's blocks -/
theorem RowO.other (a : RowO w0 w F GH g c x) (hG : ¬ GH' g) : RowO w0 w F GH' g c x := ⟨a.row, a.nf, hG, a.base⟩
theorem RowO.cong (a : RowO w0 w F GH g c x) {y : Bytes} (e : x = y) : RowO w0 w F GH g c y := e ▸ a
end
section
variable {w0 w w' : World} {F F' GH GH' : Nat → Prop} {s p d h nn n st b g c g1 c1 g2 c2 gw cw : Nat} {S : Sto} {D D' : Dv} {K nx N x : Bytes}
end
end Go.Proofs.YtoieifphklodoaaGreatDoor
/- The contracts of errors.As at a target that points to an api.Errno, of plain.Told and of vaultsame.Error. After the guide's worked example on errors.As at a concrete target. -/
namespace Go.Proofs.YtoieifphklodoaaGreatDoor
open Go.RowKit Go.Extern.Stop Go.Stop Go.Extern

theorem rl_valueOfP (t : Addr) (w : World) : (ReflectliteValue.unpack (.iface 194 (.pointer (some t)))).run Tryz.prog w
    = .ok (.agg #[.pointer (some ⟨1, 194, none⟩), .pointer (some ⟨w.heap.size, 0, none⟩), .int .u64 150]) (w.alloc (.cells #[.pointer (some t)] 194)) := by kernel_rfl
theorem rl_typeP (a : Addr) (w : World) : (ReflectliteValue.methodAny (ReflectliteValue.valueError "reflectlite.Value.Type" 0) (fun t _ _ _ => ReflectliteType.toType t) #[.agg #[.pointer (some ⟨1, 194, none⟩), .pointer (some a), .int .u64 150]]).run Tryz.prog w
    = .ok (.iface 253 (.agg #[.pointer (some ⟨1, 194, none⟩)])) w := by kernel_rfl
theorem rl_kindP (w : World) : ((ReflectliteType.abiMethod fun t => (fun a : Nat => Value.int IntKind.u8 (a : Int)) <$> Rtype.kind t) #[.pointer (some ⟨1, 194, none⟩)]).run Tryz.prog w = .ok (.int .u8 22) w := by kernel_rfl
theorem rl_kindE (w : World) : ((ReflectliteType.abiMethod fun t => (fun a : Nat => Value.int IntKind.u8 (a : Int)) <$> Rtype.kind t) #[.pointer (some ⟨1, 110, none⟩)]).run Tryz.prog w = .ok (.int .u8 2) w := by kernel_rfl
theorem rl_m (z : Sem Value) (f : TypeId → Addr → Nat → Nat → Sem Value) (v : Value) :
    ReflectliteValue.method z f #[v] = (do match ← ReflectliteValue.parts v with | none => z | some (t, a, fl) => f t a fl (fl % 32)) := rfl
theorem rl_partsP (a : Addr) (w : World) : (ReflectliteValue.parts (.agg #[.pointer (some ⟨1, 194, none⟩), .pointer (some a), .int .u64 150])).run Tryz.prog w = .ok (some (194, a, 150)) w := by kernel_rfl
theorem rl_isNilP (a p : Addr) (W : World) (ha : W.cell? a = some (.pointer (some p))) :
    (ReflectliteValue.method (ReflectliteValue.valueError "reflectlite.Value.IsNil" 0) ReflectliteValue.isNil #[.agg #[.pointer (some ⟨1, 194, none⟩), .pointer (some a), .int .u64 150]]).run Tryz.prog W = .ok (.bool false) W := by
  rw [rl_m]
  simp only [Sem.run_bind, rl_partsP, Result.andThen]
  simp [ReflectliteValue.isNil, loadVar, isAgg, underlying, Tryz.underlying194, ha, Result.andThen]
theorem rl_elemP (w : World) : (ReflectliteType.method ReflectliteType.elem #[.agg #[.pointer (some ⟨1, 194, none⟩)]]).run Tryz.prog w = .ok (.iface 253 (.agg #[.pointer (some ⟨1, 110, none⟩)])) w := by kernel_rfl
theorem rl_implE (w : World) : (ReflectliteType.relation "Implements" ReflectliteType.implements_ #[.agg #[.pointer (some ⟨1, 110, none⟩)], .iface 253 (.agg #[.pointer (some ⟨1, 27, none⟩)])]).run Tryz.prog w = .ok (.bool true) w := by kernel_rfl
theorem rl_typeOfE (v : Value) (w : World) : (ReflectliteType.typeOf #[.iface 110 v]).run Tryz.prog w = .ok (.iface 253 (.agg #[.pointer (some ⟨1, 110, none⟩)])) w := by kernel_rfl
theorem rl_assignE (w : World) : (ReflectliteType.relation "AssignableTo" ReflectliteType.assignableTo #[.agg #[.pointer (some ⟨1, 110, none⟩)], .iface 253 (.agg #[.pointer (some ⟨1, 110, none⟩)])]).run Tryz.prog w = .ok (.bool true) w := by kernel_rfl
theorem rl_valueOfE (k : Int) (w : World) : (ReflectliteValue.unpack (.iface 110 (.int .i64 k))).run Tryz.prog w
    = .ok (.agg #[.pointer (some ⟨1, 110, none⟩), .pointer (some ⟨w.heap.size, 0, none⟩), .int .u64 130]) (w.alloc (.cells #[.int .i64 k] 110)) := by kernel_rfl
theorem rl_elemOfP (w : World) : (Rtype.elem? 194).run Tryz.prog w = .ok (some 110) w := by kernel_rfl
theorem rl_mkE (p : Addr) (w : World) : (ReflectliteValue.mk 110 p ReflectliteValue.flagAddr).run Tryz.prog w = .ok (.agg #[.pointer (some ⟨1, 110, none⟩), .pointer (some p), .int .u64 386]) w := by kernel_rfl
theorem rl_elemVP (a p : Addr) (W : World) (ha : W.cell? a = some (.pointer (some p))) :
    (ReflectliteValue.method (ReflectliteValue.valueError "reflectlite.Value.Elem" 0) ReflectliteValue.elem #[.agg #[.pointer (some ⟨1, 194, none⟩), .pointer (some a), .int .u64 150]]).run Tryz.prog W
      = .ok (.agg #[.pointer (some ⟨1, 110, none⟩), .pointer (some p), .int .u64 386]) W := by
  rw [rl_m]
  simp only [Sem.run_bind, rl_partsP, Result.andThen]
  simp [ReflectliteValue.elem, loadVar, isAgg, underlying, Tryz.underlying194, ha, Result.andThen, rl_elemOfP, rl_mkE]
theorem rl_s (v x : Value) : ReflectliteValue.set #[v, x] = (do
    let (some (dst, a, fl), some (src, b, _)) := (← ReflectliteValue.parts v, ← ReflectliteValue.parts x)
      | unsupported (.noEntry "extern/(internal/reflectlite.Value).Set.zeroValue")
    if fl / ReflectliteValue.flagAddr % 2 == 0 then unsupported (.noEntry "extern/(internal/reflectlite.Value).Set.unaddressable")
    let val ← loadVar src b
    if ← Rtype.directlyAssignable dst src then storeVar dst a val
    else if ← Rtype.implements dst src then
      if (← Rtype.kind src) == 20 then
        match val with
        | .nilIface => unsupported (.noEntry "extern/reflectlite: a nil value of one interface type handed on as a value of another")
        | _ => storeVar dst a val
      else storeVar dst a (.iface src val)
    else panicString ("reflectlite.Set: value of type " ++ (← Rtype.spelt src) ++ " is not assignable to type " ++ (← Rtype.spelt dst))
    pure (.tuple #[])) := rfl
theorem rl_partsEa (a : Addr) (w : World) : (ReflectliteValue.parts (.agg #[.pointer (some ⟨1, 110, none⟩), .pointer (some a), .int .u64 386])).run Tryz.prog w = .ok (some (110, a, 386)) w := by kernel_rfl
theorem rl_partsE (a : Addr) (w : World) : (ReflectliteValue.parts (.agg #[.pointer (some ⟨1, 110, none⟩), .pointer (some a), .int .u64 130])).run Tryz.prog w = .ok (some (110, a, 130)) w := by kernel_rfl
theorem rl_directE (w : World) : (Rtype.directlyAssignable 110 110).run Tryz.prog w = .ok true w := by kernel_rfl
theorem rl_setE (ta b : Addr) (k : Int) (old : Value) (W : World) (hb : W.cell? b = some (.int .i64 k)) (ht : W.cell? ta = some old) (hf : W.frozen? ta = false) :
    (ReflectliteValue.set #[.agg #[.pointer (some ⟨1, 110, none⟩), .pointer (some ta), .int .u64 386], .agg #[.pointer (some ⟨1, 110, none⟩), .pointer (some b), .int .u64 130]]).run Tryz.prog W
      = .ok (.tuple #[]) (W.setCell ta (.int .i64 k)) := by
  rw [rl_s]
  simp only [Sem.run_bind, rl_partsEa, rl_partsE, Result.andThen]
  simp [ReflectliteValue.flagAddr, loadVar, isAgg, underlying, Tryz.underlying110, hb, Result.andThen, rl_directE, storeVar, Value.cells, storeCells, Addr.add]
  rw [run_store Tryz.prog W ta _ _ (by rfl)]
  simp [ht, hf]

/-- what the row's condition gives: the variable errors.errorType -/
def HasType (w : World) : Prop := w.cell? ⟨0, 0, none⟩ = some (.iface 253 (.agg #[.pointer (some ⟨1, 27, none⟩)]))
theorem HasType.below {B : Nat} {w w' : World} (h : HasType w) (hB : 0 < B) (hb : Below B w w') : HasType w' := (hb.cell (p := ⟨0, 0, none⟩) hB).trans h
theorem HasType.lt {w : World} (h : HasType w) : 0 < w.heap.size := block_lt_of_cell h
end Go.Proofs.YtoieifphklodoaaGreatDoor
/- The contracts of errors.As at a target that points to an api.Errno, of plain.Told and of vaultsame.Error. -/
namespace Go.Proofs.YtoieifphklodoaaGreatDoor
open Go.RowKit Go.Extern.Stop Go.Stop Go.Extern

theorem rl_methKind (n : Nat) (h : Value) (w : World) : (Go.method (n + 1) 253 (.agg #[h]) "Kind").run Tryz.prog w = .ok (243, h) w := by kernel_rfl
theorem rl_methElem (n : Nat) (h : Value) (w : World) : (Go.method (n + 1) 253 (.agg #[h]) "Elem").run Tryz.prog w = .ok (253, .agg #[h]) w := by kernel_rfl
theorem rl_methImpl (n : Nat) (h : Value) (w : World) : (Go.method (n + 1) 253 (.agg #[h]) "Implements").run Tryz.prog w = .ok (254, .agg #[h]) w := by kernel_rfl
theorem rl_methAssign (n : Nat) (h : Value) (w : World) : (Go.method (n + 1) 253 (.agg #[h]) "AssignableTo").run Tryz.prog w = .ok (251, .agg #[h]) w := by kernel_rfl

set_option maxRecDepth 100000 in
set_option maxHeartbeats 4000000 in
theorem as_errno (k : Int) (t : Addr) (old : Value) (w : World) (hg : HasType w) (ht0 : w.cell? t = some old) (hf0 : w.frozen? t = false) :
    Calls Tryz.prog 136 #[.iface 110 (.int .i64 k), .iface 194 (.pointer (some t))] w fun ev w' => ev = .returned (.bool true) ∧ w' = ((((w.alloc (.cells #[.pointer (some t)] 194)).alloc (.cells #[.pointer (some ⟨1, 194, none⟩), .pointer (some ⟨w.heap.size, 0, none⟩), .int .u64 150] 222)).alloc (.cells #[.pointer (some ⟨1, 194, none⟩), .pointer (some ⟨w.heap.size, 0, none⟩), .int .u64 150] 222)).alloc (.cells #[.int .i64 k] 110)).setCell t (.int .i64 k) := by
  have h6 := @run_callFunc_extern Tryz.prog 165 _ (fun args => ReflectliteValue.unpack (args.getD 0 (.tuple #[]))) Tryz.func165 (by kernel_rfl) (by kernel_rfl) (by kernel_rfl) (by kernel_rfl)
  have h7 := @run_callFunc_extern Tryz.prog 166 _ (ReflectliteValue.methodAny (ReflectliteValue.valueError "reflectlite.Value.Type" 0) (fun t _ _ _ => ReflectliteType.toType t)) Tryz.func166 (by kernel_rfl) (by kernel_rfl) (by kernel_rfl) (by kernel_rfl)
  have h8 := @run_callFunc_extern Tryz.prog 167 _ (ReflectliteValue.method (ReflectliteValue.valueError "reflectlite.Value.IsNil" 0) ReflectliteValue.isNil) Tryz.func167 (by kernel_rfl) (by kernel_rfl) (by kernel_rfl) (by kernel_rfl)
  have h27 := @run_callFunc_extern Tryz.prog 243 _ (ReflectliteType.abiMethod fun t => do pure (.int .u8 (← Rtype.kind t))) Tryz.func243 (by kernel_rfl) (by kernel_rfl) (by kernel_rfl) (by kernel_rfl)
  have h37 := @run_callFunc_extern Tryz.prog 253 _ (ReflectliteType.method ReflectliteType.elem) Tryz.func253 (by kernel_rfl) (by kernel_rfl) (by kernel_rfl) (by kernel_rfl)
  have h38 := @run_callFunc_extern Tryz.prog 254 _ (ReflectliteType.relation "Implements" ReflectliteType.implements_) Tryz.func254 (by kernel_rfl) (by kernel_rfl) (by kernel_rfl) (by kernel_rfl)
  have h10 := @run_callFunc_extern Tryz.prog 190 _ ReflectliteType.typeOf Tryz.func190 (by kernel_rfl) (by kernel_rfl) (by kernel_rfl) (by kernel_rfl)
  have h35 := @run_callFunc_extern Tryz.prog 251 _ (ReflectliteType.relation "AssignableTo" ReflectliteType.assignableTo) Tryz.func251 (by kernel_rfl) (by kernel_rfl) (by kernel_rfl) (by kernel_rfl)
  have h11 := @run_callFunc_extern Tryz.prog 191 _ (ReflectliteValue.method (ReflectliteValue.valueError "reflectlite.Value.Elem" 0) ReflectliteValue.elem) Tryz.func191 (by kernel_rfl) (by kernel_rfl) (by kernel_rfl) (by kernel_rfl)
  have h12 := @run_callFunc_extern Tryz.prog 192 _ ReflectliteValue.set Tryz.func192 (by kernel_rfl) (by kernel_rfl) (by kernel_rfl) (by kernel_rfl)
  have tO := rl_typeOfE
  have aE := rl_assignE
  have vE := rl_valueOfE
  have f6 := rl_valueOfP
  have f7 := rl_typeP
  have mK := rl_methKind
  have mE := rl_methElem
  have mI := rl_methImpl
  have mA := rl_methAssign
  have kP := rl_kindP
  have kE := rl_kindE
  have eP := rl_elemP
  have iE := rl_implE
  have n8 := rl_isNilP ⟨w.heap.size, 0, none⟩ t ((w.alloc (.cells #[.pointer (some t)] 194)).alloc (.cells #[.pointer (some ⟨1, 194, none⟩), .pointer (some ⟨w.heap.size, 0, none⟩), .int .u64 150] 222)) (by simp)
  have hlt : 0 < w.heap.size := hg.lt
  unfold HasType at hg
  have hg2 : ((w.alloc (.cells #[.pointer (some t)] 194)).alloc (.cells #[.pointer (some ⟨1, 194, none⟩), .pointer (some ⟨w.heap.size, 0, none⟩), .int .u64 150] 222)).cell? ⟨0, 0, none⟩ = some (.iface 253 (.agg #[.pointer (some ⟨1, 27, none⟩)])) := by
    rw [World.cell?_alloc_lt _ _ ⟨0, 0, none⟩ (by simp), World.cell?_alloc_lt _ _ ⟨0, 0, none⟩ hlt]; exact hg
  have htl : t.block < w.heap.size := by
    rcases Nat.lt_or_ge t.block w.heap.size with h | h
    · exact h
    · simp [World.cell?, Array.getElem?_eq_none h] at ht0
  have el := rl_elemVP ⟨w.heap.size, 0, none⟩ t (((w.alloc (.cells #[.pointer (some t)] 194)).alloc (.cells #[.pointer (some ⟨1, 194, none⟩), .pointer (some ⟨w.heap.size, 0, none⟩), .int .u64 150] 222)).alloc (.cells #[.pointer (some ⟨1, 194, none⟩), .pointer (some ⟨w.heap.size, 0, none⟩), .int .u64 150] 222)) (by rw [World.cell?_alloc_lt _ _ ⟨w.heap.size, 0, none⟩ (by simp; omega)]; simp)
  have st := rl_setE t ⟨w.heap.size + 1 + 1 + 1, 0, none⟩ k old ((((w.alloc (.cells #[.pointer (some t)] 194)).alloc (.cells #[.pointer (some ⟨1, 194, none⟩), .pointer (some ⟨w.heap.size, 0, none⟩), .int .u64 150] 222)).alloc (.cells #[.pointer (some ⟨1, 194, none⟩), .pointer (some ⟨w.heap.size, 0, none⟩), .int .u64 150] 222)).alloc (.cells #[.int .i64 k] 110))
    (by rw [World.cell?_alloc_at _ _ _ _ (by simp)]; rfl)
    (by rw [World.cell?_alloc_lt _ _ t (by simp; omega), World.cell?_alloc_lt _ _ t (by simp; omega), World.cell?_alloc_lt _ _ t (by simp; omega), World.cell?_alloc_lt _ _ t htl]; exact ht0)
    (by rw [World.frozen?_alloc_old _ _ t (by simp; omega), World.frozen?_alloc_old _ _ t (by simp; omega), World.frozen?_alloc_old _ _ t (by simp; omega), World.frozen?_alloc_old _ _ t (Nat.ne_of_lt htl)]; exact hf0)
  go_enter Tryz.func136, Tryz.ntmps136
  go_wp2
  refine wp_loop_rounds 1 ?_
  rw [rounds_succ]
  go_wp2
  go_ret
  exact ⟨rfl, rfl⟩
end Go.Proofs.YtoieifphklodoaaGreatDoor
/- The contracts of plain.Told and of vaultsame.Error. -/
namespace Go.Proofs.YtoieifphklodoaaGreatDoor
open Go.RowKit

theorem told_errno (k : Int) (w : World) (hg : HasType w) : Calls Tryz.prog 77 #[.iface 110 (.int .i64 k)] w fun e w' => e = .returned (.int .i64 k) ∧ Below w.heap.size w w' := by
  have hW : Below w.heap.size w (w.alloc (.cells #[.int .i64 0] 110)) := (Below.refl _ _).alloc (Nat.le_refl _) _
  have hg1 := hg.below hg.lt hW
  have HC := Hidden.mk (as_errno k ⟨w.heap.size, 0, none⟩ (.int .i64 0) _ hg1 (by simp) (by simp))
  clear hg1
  go_enter Tryz.func77, Tryz.ntmps77
  go_wp2_with fail
  refine HC.out.mono ?_
  rintro e w' ⟨rfl, hw'⟩
  have hB : Below w.heap.size w w' := by
    rw [hw']
    exact ((((hW.alloc hW.size _).alloc (by simp; omega) _).alloc (by simp; omega) _).alloc (by simp; omega) _).setCell (p := ⟨w.heap.size, 0, none⟩) (Nat.le_refl _) _
  have hc : w'.cell? ⟨w.heap.size, 0, none⟩ = some (.int .i64 k) := by
    rw [hw']
    refine World.cell?_setCell_same' _ _ _ ?_
    rw [(((((Below.refl _ (w.alloc (.cells #[.int .i64 0] 110))).alloc (Nat.le_refl _) _).alloc (by simp) _).alloc (by simp) _).alloc (by simp) _).cell (p := ⟨w.heap.size, 0, none⟩) (by simp)]
    simp
  clear hw' HC hW
  go_wp2_with fail
  go_ret
  exact ⟨rfl, hB⟩
theorem err_some (k x : Int) (w : World) (hg : HasType w) : Calls Tryz.prog 21 #[.iface 110 (.int .i64 k), .int .i64 x] w fun e w' => e = .returned (.bool (k == x)) ∧ Below w.heap.size w w' := by
  go_enter Tryz.func21, Tryz.ntmps21
  go_wp2_with fail
  refine (told_errno k _ hg).mono ?_
  rintro e w' ⟨rfl, hb⟩
  go_wp2_with fail
  go_ret
  exact ⟨rfl, hb⟩
end Go.Proofs.YtoieifphklodoaaGreatDoor
/- StoreKeeps: what the law keeps; the first fact. -/
namespace Go.Proofs.YtoieifphklodoaaGreatDoor
open Go.RowKit Go.Maps Go.ChangeMaps

theorem fine_good {l : Bytes} (h : Good l) : fineE l = 0 := by
  unfold fineE
  rw [if_neg (by rw [h.len]; decide), if_pos h.chk]
/-- in an image of nothing the first object is the first -/
theorem first_alloc {n : Nat} (h1 : 291 ≤ n) (h2 : n ≤ 6400) : ∃ l1 : Bytes, allocL (List.replicate n 0) 3 1 = l1 ∧ Good l1 ∧ l1.length = n ∧ allocE (List.replicate n 0) 3 1 = 0 ∧ allocH (List.replicate n 0) 3 1 = 1 ∧ hE l1 1 = 0 ∧ gL l1 1 = 3 := by
  have hr : rightB (n : Int) = true := rightB_true.2 (by omega)
  have hg : Good (List.replicate n 0) := good_zero' hr
  have hz : ∀ j, j < 40 → hasE (rawE (List.replicate n 0) j) = false := fun j hj => by
    rw [show rawE (List.replicate n 0) j = List.replicate 5 0 from zeros_cut n (5 * j) 5 (by omega)]; exact zeros_has
  have hfh : fH (List.replicate n 0) 40 = 1 := by
    rcases fH_spec (List.replicate n 0) 40 (Nat.le_refl _) with ⟨_, hall⟩ | ⟨q, _, k2, k3, k4, k5⟩
    · have := hall 0 (by omega) (by omega)
      rw [hz 0 (by omega)] at this; cases this
    · rw [k3]
      by_cases hq : q = 0
      · rw [hq]
      · have := k5 0 (by omega) (by omega)
        rw [hz 0 (by omega)] at this; cases this
  have hc := good_chk hg
  have hlen : (List.replicate n (0 : UInt8)).length = n := List.length_replicate
  generalize List.replicate n (0 : UInt8) = l at *
  rw [hlen] at hc
  have hE : allocE l 3 1 = 0 := by
    have hf : fitE ((n : Nat) - 288 : Int) (takenL l) 3 = 0 := fit_exists hc (p := 0) (by omega) (by omega) (by omega) (fun e he => by
      obtain ⟨j, hj, hh, _⟩ := takenL_mem.1 he
      rw [hz j hj] at hh; cases hh)
    unfold allocE
    rw [if_neg (by decide), hlen, if_neg (by rw [hfh, hf]; decide)]
  have hH : allocH l 3 1 = 1 := by unfold allocH; rw [if_pos hE, hfh]; rfl
  obtain ⟨k, a, n', t', hn, ht, hH', _, hi⟩ := alloc_is hg hE
  obtain rfl : n' = 3 := by omega
  obtain rfl : k = 0 := by omega
  obtain ⟨d1, d2, d3, d4⟩ := hi.hd hg
  exact ⟨_, rfl, hi.good hg, hi.len.trans hlen, hE, hH, d1, d3⟩
theorem first_far {n : Nat} (h1 : 291 ≤ n) (hz : allocE (List.replicate n 0) 3 1 = 0) (hh : allocH (List.replicate n 0) 3 1 = 1) : ∀ i, 5 ≤ i → (allocL (List.replicate n 0) 3 1)[i]? = (List.replicate n (0 : UInt8))[i]? := by
  intro i hi
  have hlen : (List.replicate n (0 : UInt8)).length = n := List.length_replicate
  have hat : ∀ j, j < n → (List.replicate n (0 : UInt8))[j]? = some 0 := fun j hj => by rw [List.getElem?_replicate, if_pos hj]
  generalize List.replicate n (0 : UInt8) = z at *
  have hfh : fH z 40 = 1 := by
    unfold allocH at hh
    rw [if_pos hz] at hh
    omega
  have hf : fitE ((z.length : Int) - 288) (takenL z) 3 = 0 := by
    have hz2 := hz
    unfold allocE at hz2
    split at hz2
    · cases hz2
    · split at hz2
      · cases hz2
      · rename_i h
        exact Decidable.byContradiction fun hn => h (.inr hn)
  have hin := alloc_in hf
  have hpl := putEnt_len z 1 (allocA z 3) 3 1 (by omega) (by omega) (by omega)
  unfold allocL
  rw [if_pos hz, hfh]
  show (splice (putEnt z 1 (allocA z 3) 3 1) (allocA z 3).toNat (List.replicate 3 0))[i]? = _
  rw [splice_rd _ _ _ _ (by rw [hpl, List.length_replicate]; omega), List.length_replicate]
  by_cases hr : (allocA z 3).toNat ≤ i ∧ i < (allocA z 3).toNat + 3
  · rw [if_pos hr, hat i (by omega), List.getElem?_replicate, if_pos (by omega)]
  · rw [if_neg hr]
    unfold putEnt
    rw [splice_rd _ _ _ _ (by rw [entB_len]; unfold entO; omega), if_neg (by rw [entB_len]; unfold entO; omega)]
theorem dL_first {l1 z : Bytes} {n : Nat} (h : ∀ i, 5 ≤ i → l1[i]? = z[i]?) : (dL l1 z n).length ≤ 23 := by
  have := nodup_le 1 (dL l1 z n) (List.nodup_range.filter _) (fun x hx => by
    by_cases hx1 : x < 1
    · exact hx1
    · have hd := (dL_mem.1 hx).2
      unfold difB at hd
      rw [pgB_ext (fun j _ => h (x * 32 + j) (by omega))] at hd
      simp at hd)
  omega
/-- what is kept at hand -/
structure KpSt (w0 w : World) (F GH : Nat → Prop) (s p d h nn n : Nat) (S : Sto) (g c b : Nat) : Prop where
  pl : PlSt w0 w F GH s p d h nn n S
  rk : RowO w0 w F GH g c S.K
  st : S.st ≤ b
theorem KpSt.below {w0 w w' : World} {F GH : Nat → Prop} {s p d h nn n g c b : Nat} {S : Sto} (a : KpSt w0 w F GH s p d h nn n S g c b) (hb : Below w.heap.size w w') : KpSt w0 w' F GH s p d h nn n S g c b := ⟨a.pl.below hb, a.rk.below hb, a.st⟩
theorem PlSt.fresh {w0 w w' : World} {F GH : Nat → Prop} {s p d h nn n g c : Nat} {S : Sto} {x : Bytes} (a : PlSt w0 w F GH s p d h nn n S) (hg : w.heap.size ≤ g) (hr : Row w' 5 g c x) : RowO w0 w' F GH g c x := by
  obtain ⟨gk, ck, hs⟩ := a.st
  exact ⟨hr, fun hf => by have := a.dev.flt g hf; omega, fun hf => by have := hs.hp.flt g hf; omega, Nat.le_trans a.dev.bel.size hg⟩
/-- an op, with the row of what was kept -/
theorem KpSt.do_ {w0 w : World} {F GH : Nat → Prop} {s p d h nn n g c b : Nat} {S : Sto} (a : KpSt w0 w F GH s p d h nn n S g c b) (hb : b < 4294967295) (o : OpX) (ho : OpOk w0 o) :
    Calls Tryz.prog 11 #[.pointer (some ⟨s, 0, none⟩), opV o] w fun e w' => e = .returned (errV (doS n S o).2) ∧ ∃ F' GH', PlSt w0 w' F' GH' s p d h nn n (doS n S o).1 ∧ RowO w0 w' F' GH' g c S.K ∧ (doS n S o).1.st ≤ b + 1 := by
  have hst : S.st < 4294967295 := by have := a.st; omega
  have h2 := (a.pl.ok.do hst o).2
  refine (a.pl.do_ hst o ho).mono ?_
  rintro e w1 ⟨he, F', GH', hm⟩
  obtain ⟨gk, ck, hs⟩ := a.pl.st
  exact ⟨he, F', GH', hm.pl, a.rk.turn hs hm.kp hm.sub hm.nw, by have := a.st; omega⟩
end Go.Proofs.YtoieifphklodoaaGreatDoor
