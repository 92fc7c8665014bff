/- Contracts and plain laws, put together: RefI5, Root1, Ext4, ExtP, Heap6, Heap7, SameN, HeapP, KeepP, MoveP, LayE, Move1, Move2, Move3, Reach1. -/
import Derived.Test.YtcahgmnkphmnhaaGreatReachHoldsFrameM2
import Derived.Test.YtcahgmnkphmnhaaGreatReachHoldsFrameM3
import Derived.Deep.RegionHeld3
import Derived.Deep.LoopGhost
import Derived.Shelf.SlGeneric
import Derived.Shelf.SlSortCmp.WholeK
import Derived.Ground.SlsfProg
import Derived.Test.YtcahgmnkphmnhaaGreatReachHoldsFrameM1
import Derived.Deep.DeepCutAuto
import Derived.Deep.CutBlock
/- The reference on images: PutRoot. -/
namespace Go.Proofs.YtcahgmnkphmnhaaGreat
open Go.RowKit

/-- the fault of a root that is put -/
def rootE (i : Int) (s : Bytes) (h : Int) : Nat := if i < 0 ∨ 8 ≤ i then 1 else if s = [] ∧ h = 0 then 0 else if handleB h = false then 1 else if isName s = false then 2 else 0
def rootF (l : Bytes) (i : Int) (s : Bytes) (h : Int) : Bytes := if rootE i s h = 0 then splice l (rootO i) (if s = [] ∧ h = 0 then List.replicate 11 0 else rootB s h) else []
theorem rootB_get (s : Bytes) (h : Int) (h8 : s.length ≤ 8) (q : Nat) : (rootB s h)[q]? = if q < s.length then s[q]? else if q < 10 then some 0 else if q = 10 then some (UInt8.ofNat h.toNat) else none := by
  unfold rootB nameB
  by_cases h1 : q < s.length
  · rw [if_pos h1, List.append_assoc, List.getElem?_append_left h1]
  · rw [if_neg h1, List.append_assoc, List.getElem?_append_right (by omega)]
    have he : ∀ r, r < 10 - s.length → ((List.replicate (8 - s.length) (0 : UInt8)) ++ [0, 0, UInt8.ofNat h.toNat])[r]? = some 0 := fun r hr => by
      by_cases h2 : r < 8 - s.length
      · rw [List.getElem?_append_left (by simpa using h2)]; simp [h2]
      · rw [List.getElem?_append_right (by simpa using h2), List.length_replicate]
        have : r - (8 - s.length) = 0 ∨ r - (8 - s.length) = 1 := by omega
        rcases this with h | h <;> rw [h] <;> rfl
    by_cases h2 : q < 10
    · rw [if_pos h2, he _ (by omega)]
    · rw [if_neg h2]
      by_cases h3 : q = 10
      · rw [if_pos h3, List.getElem?_append_right (by simp; omega), List.length_replicate, show q - s.length - (8 - s.length) = 2 by omega]; rfl
      · rw [if_neg h3, List.getElem?_append_right (by simp; omega), List.length_replicate]
        apply List.getElem?_eq_none
        simp; omega
theorem rootB_set (l s : Bytes) (o : Nat) (h : Int) (h8 : s.length ≤ 8) (ho : o + 11 ≤ l.length) : (splice (splice l o (List.replicate 11 0)) o s).set (o + 10) (UInt8.ofNat h.toNat) = splice l o (rootB s h) := by
  have hrl : (rootB s h).length = 11 := by unfold rootB nameB; simp; omega
  have hl1 : (splice l o (List.replicate 11 (0 : UInt8))).length = l.length := splice_len _ _ _ (by simpa using ho)
  have hl2 : (splice (splice l o (List.replicate 11 (0 : UInt8))) o s).length = l.length := by rw [splice_len _ _ _ (by rw [hl1]; omega)]; exact hl1
  apply List.ext_getElem?
  intro p
  rw [List.getElem?_set, hl2, splice_at _ _ _ _ (by rw [hl1]; omega), splice_at _ _ _ _ (by simpa using ho), splice_at _ _ _ _ (by rw [hrl]; exact ho), rootB_get s h h8, hrl, List.length_replicate]
  by_cases h1 : o ≤ p ∧ p < o + 11
  · simp only [if_pos h1]
    by_cases h2 : p - o < s.length
    · rw [if_pos h2, if_neg (by omega), if_pos (by omega)]
    · rw [if_neg h2]
      by_cases h3 : p - o < 10
      · rw [if_pos h3, if_neg (by omega), if_neg (by omega), List.getElem?_replicate, if_pos (by omega)]
      · rw [if_neg h3, if_pos (by omega), if_pos (by omega), if_pos (by omega)]
  · simp only [if_neg h1]
    rw [if_neg (by omega), if_neg (by omega)]
theorem two_cells {w w' : World} {a b : Value} {t : TypeId} (hb : Below (w.alloc (.cells #[a, b] t)).heap.size (w.alloc (.cells #[a, b] t)) w') : w'.cell? ⟨w.heap.size, 0, none⟩ = some a ∧ w'.cell? ⟨w.heap.size, 1, none⟩ = some b := by
  have h := (hb.block w.heap.size (by simp)).trans (heap_alloc_new w (.cells #[a, b] t))
  refine ⟨?_, ?_⟩ <;> simp [World.cell?, h]
/-- the program's PutRoot, told likewise -/
theorem iroot_ans (A : Option Addr) (n c : Nat) (l : Bytes) (i : Int) (s : Bytes) (h : Int) (w : World) (hs : s.length ≤ 140737488351232) (hln : l.length = n) (hnc : n ≤ c) (hr : rightB n = true) (hrd : Rd w A l) :
    Calls Tryz.prog 100 #[.slice A n c, .int .i64 i, rootV s h] w fun e w' => RowAns w w' e (rootF l i s h) (errV (rootE i s h)) := by
  have hnb := rightB_true.1 hr
  have hlen : ∀ X : Bytes, X.length = 11 → 0 ≤ i → i < 8 → (splice l (rootO i) X).length = n := fun X hX h1 h2 => by
    rw [splice_len _ _ _ (by unfold rootO; omega)]; exact hln
  unfold rootF
  by_cases hi : i < 0 ∨ 8 ≤ i
  · have hE : rootE i s h = 1 := by unfold rootE; rw [if_pos hi]
    rw [hE]
    exact (root_e1 A n c i s h w hr hi).mono fun e w' ⟨he, hb⟩ => ⟨none, 0, he, Rd.nil_, hb⟩
  by_cases h0 : s = [] ∧ h = 0
  · have hE : rootE i s h = 0 := by unfold rootE; rw [if_neg hi, if_pos h0]
    rw [hE, if_pos rfl, if_pos h0]
    obtain ⟨rfl, rfl⟩ := h0
    refine (root_zero A n c l i w hln hnc hrd hr (by omega) (by omega)).mono ?_
    rintro e w' ⟨g, cap, rfl, hg, hrow, hb⟩
    exact ⟨some ⟨g, 0, none⟩, cap, by rw [hlen _ (by simp) (by omega) (by omega)]; rfl, hrow.rd, hb⟩
  cases hh : handleB h with
  | false =>
    have hE : rootE i s h = 1 := by unfold rootE; rw [if_neg hi, if_neg h0, if_pos hh]
    rw [hE]
    exact (root_e1h A n c i s h w hr (by omega) (by omega) h0 hh).mono fun e w' ⟨he, hb⟩ => ⟨none, 0, he, Rd.nil_, hb⟩
  | true =>
    cases hnm : isName s with
    | false =>
      have hE : rootE i s h = 2 := by unfold rootE; rw [if_neg hi, if_neg h0, if_neg (by simp [hh]), if_pos hnm]
      rw [hE]
      exact (root_e2 A n c i s h w hs hr (by omega) (by omega) hh hnm).mono fun e w' ⟨he, hb⟩ => ⟨none, 0, he, Rd.nil_, hb⟩
    | true =>
      have hE : rootE i s h = 0 := by unfold rootE; rw [if_neg hi, if_neg h0, if_neg (by simp [hh]), if_neg (by simp [hnm])]
      rw [hE, if_pos rfl, if_neg h0]
      refine (root_ok A n c l i s h w hln hrd hr (by omega) (by omega) hh hnm).mono ?_
      rintro e w' ⟨g, cap, rfl, hg, hrow, hb⟩
      have hl11 : (rootB s h).length = 11 := by have := nameB_len s hnm; unfold rootB; simp; omega
      exact ⟨some ⟨g, 0, none⟩, cap, by rw [hlen _ hl11 (by omega) (by omega)]; rfl, hrow.rd, hb⟩
end Go.Proofs.YtcahgmnkphmnhaaGreat
/- Names that lead: root.Get; the reference's Lead and Object. -/
namespace Go.Proofs.YtcahgmnkphmnhaaGreat
open Go.RowKit

/-- where a name leads first; 0: nowhere -/
def leadR (L : List (Bytes × Nat)) (s : Bytes) : Nat := match L.find? (fun r => r.1 == s) with
  | none => 0
  | some r => r.2
theorem leadR_none {L : List (Bytes × Nat)} {s : Bytes} (h : ∀ x ∈ L, (x.1 == s) = false) : leadR L s = 0 := by
  unfold leadR
  rw [List.find?_eq_none.2 (fun x hx => by rw [h x hx]; decide)]
theorem leadR_at {L : List (Bytes × Nat)} {s : Bytes} (k : Nat) (hk : k < L.length) (h : (L[k].1 == s) = true) (hn : ∀ j (hj : j < k), (L[j].1 == s) = false) : leadR L s = L[k].2 := by
  unfold leadR
  rw [(List.find?_eq_some_iff_getElem (p := fun r : Bytes × Nat => r.1 == s)).2 ⟨h, k, hk, rfl, fun j hj => by rw [hn j hj]; rfl⟩]
theorem good_roots {l : Bytes} (hg : Good l) {r : Bytes × Nat} (h : r ∈ rootsL l) : 1 ≤ r.2 ∧ r.2 ≤ 40 ∧ hE l r.2 = 0 := by
  unfold rootsL rootsF at h
  simp only [List.mem_map, List.mem_filter, List.mem_range, Bool.not_eq_true'] at h
  obtain ⟨i, ⟨hi, hz⟩, rfl⟩ := h
  have hb := badR_lead (hg.s.root i hi hz)
  obtain ⟨k, hk, hh, hx⟩ := leadsS_iff.1 hb
  have he := (hE_has hk hh).1
  simp only [rootP]
  rw [hx]
  exact ⟨by omega, by omega, by simpa using he⟩
def getRE (l s : Bytes) (tag : Int) : Nat := if isName s = false then 2 else if tag < -1 ∨ 15 < tag then 1 else if leadR (rootsL l) s = 0 then 5 else if 0 ≤ tag ∧ gT l (leadR (rootsL l) s) ≠ tag then 8 else 0
def getRH (l s : Bytes) (tag : Int) : Nat := if getRE l s tag = 0 then leadR (rootsL l) s else 0
section
variable {w0 w : World} {F : Nat → Prop} {h : Nat} {l : Bytes}
theorem rall_any (hp : Hp w0 w F h l) :
    Calls Tryz.prog 29 #[.pointer (some ⟨h, 0, none⟩)] w fun e w' => ∃ v, e = .returned v ∧ w'.ownsRow w.heap.size 67 2 v (rootsL l).length ((rootsL l).flatMap rcells) ∧ Below w.heap.size w w' := by
  have HC := Hidden.mk (hroots_any hp)
  clear hp
  go_enter Tryz.func29, Tryz.ntmps29
  go_wp2_with fail
  refine HC.out.mono ?_
  rintro e w1 ⟨v, rfl, hown, hb1⟩
  have HB := Hidden.mk (And.intro hown hb1)
  clear hb1 hown HC
  go_wp2_with fail
  go_ret
  exact ⟨v, rfl, HB.out⟩
end
/-- an object's tag, and its bytes, as the reference tells them -/
def objT (l : Bytes) (k : Nat) : Int := if hasE (rawE l k) = true then rTag (rawE l k) else -1
def objS (l : Bytes) (k : Nat) : Bytes := if hasE (rawE l k) = true then (l.drop (rAt (rawE l k))).take (rLen (rawE l k)) else []
set_option maxRecDepth 100000 in
theorem refObj_ok (p off n c : Nat) (l : Bytes) (k : Nat) (w : World) (hn : l.length = n) (hg : Good l) (hnc : n ≤ c) (hrd : Rd w (some ⟨p, off, none⟩) l) (hk : k < 40) :
    Calls Tryz.prog 35 #[.slice (some ⟨p, off, none⟩) n c, .int .i64 ((k : Int) + 1)] w fun e w' => e = .returned (.tuple #[.int .i64 (objT l k), sv (objS l k)]) ∧ Below w.heap.size w w' := by
  have hb := hg.bd
  have HC := Hidden.mk (refEntry_ok (some ⟨p, off, none⟩) n c l k w hn (by omega) hnc hrd hk)
  unfold entR entV at HC
  unfold objT objS
  cases hh : hasE (rawE l k) with
  | false =>
    rw [hh] at HC
    simp only [Bool.false_eq_true, if_false]
    generalize (rAt (rawE l k) : Int) = a1 at *
    generalize (rLen (rawE l k) : Int) = a2 at *
    generalize rTag (rawE l k) = a3 at *
    clear hn hg hrd hh
    go_enter Tryz.func35, Tryz.ntmps35
    go_wp2_with fail
    refine HC.out.mono ?_
    rintro e w1 ⟨rfl, hb1⟩
    have HB := Hidden.mk (hb1.alloc hb1.size (.cells #[.int .i64 ((k : Int) + 1), .int .i64 a1, .int .i64 a2, .int .i64 a3] 97))
    clear hb1 HC
    go_wp2_with fail
    go_ret2
    exact ⟨rfl, HB.out⟩
  | true =>
    rw [hh] at HC
    simp only [if_true]
    have hin := strayE_false (hg.s.fit k hk hh)
    have hcut := hrd.cut (rAt (rawE l k)) (rLen (rawE l k)) (by omega)
    rw [Option.map_some, Addr.add_lit] at hcut
    have hcl : ((l.drop (rAt (rawE l k))).take (rLen (rawE l k))).length = rLen (rawE l k) := by simp; omega
    generalize (l.drop (rAt (rawE l k))).take (rLen (rawE l k)) = body at *
    generalize rAt (rawE l k) = a1 at *
    generalize rLen (rawE l k) = a2 at *
    generalize rTag (rawE l k) = a3 at *
    have s1 : IntKind.i64.wrap ((a1 : Int) + a2) = (a1 : Int) + a2 := IntWalk.i64_in _ (by omega)
    have hsl := run_cut p off n c a1 (a1 + a2) (by omega) (by omega) (by omega)
    rw [Nat.add_sub_cancel_left] at hsl
    simp only [Int.natCast_add] at hsl
    have HCV : Hidden (∀ W, Below w.heap.size w W → (convert 22 9 (.slice (some ⟨p, off + a1, none⟩) a2 (c - a1))).run Tryz.prog W = .ok (sv body) W) := ⟨fun W hW => conv_text W _ a2 _ body hcl (hcut.below hW)⟩
    clear hn hg hrd hh hin hcut hcl
    go_enter Tryz.func35, Tryz.ntmps35
    go_wp2_with fail
    refine HC.out.mono ?_
    rintro e w1 ⟨rfl, hb1⟩
    have HB := Hidden.mk (hb1.alloc hb1.size (.cells #[.int .i64 ((k : Int) + 1), .int .i64 a1, .int .i64 a2, .int .i64 a3] 97))
    have hf := fourAt_one w1 ((k : Int) + 1) (a1 : Int) (a2 : Int) a3 97
    go_upto_region 2 with (fail)
    generalize w1.alloc (.cells #[.int .i64 ((k : Int) + 1), .int .i64 (a1 : Int), .int .i64 (a2 : Int), .int .i64 a3] 97) = w2 at *
    generalize w1.heap.size = bx at *
    obtain ⟨f0, f1, f2, f3⟩ := hf
    have hcv := HCV.out w2.drew HB.out.drew
    have KF := Hidden.mk (And.intro f1 (And.intro f2 (And.intro f3 hcv)))
    clear hb1 HC hcv
    go_wp2_with fail
    go_region_held3 (fun W => W.cell? ⟨bx, 1, none⟩ = some (.int .i64 (a1 : Int)) ∧ W.cell? ⟨bx, 2, none⟩ = some (.int .i64 (a2 : Int)) ∧ W.cell? ⟨bx, 3, none⟩ = some (.int .i64 a3) ∧ (convert 22 9 (.slice (some ⟨p, off + a1, none⟩) a2 (c - a1))).run Tryz.prog W = .ok (sv body) W) (first | exact KF.out) (fail)
    all_goals
      go_wp2_with fail
      go_ret2
      exact ⟨rfl, HB.out.drew⟩
end Go.Proofs.YtcahgmnkphmnhaaGreat
/- The contract of extent.Stat. -/
namespace Go.Proofs.YtcahgmnkphmnhaaGreat
open Go.RowKit

def statV (o u f m r : Int) : Value := .agg #[.int .i64 o, .int .i64 u, .int .i64 f, .int .i64 m, .int .i64 r]
def sumX (l : List Ext) : Int := l.foldl (fun s e => s + e.2) 0
def mostX (H : List Ext) : Int := H.foldl (fun s e => max s e.2) 0
theorem sumX_succ (l : List Ext) (k : Nat) (hk : k < l.length) : sumX (l.take (k + 1)) = sumX (l.take k) + l[k].2 := by
  unfold sumX; rw [List.take_succ_eq_append_getElem hk, List.foldl_append]; rfl
theorem mostX_succ (l : List Ext) (k : Nat) (hk : k < l.length) : mostX (l.take (k + 1)) = max (mostX (l.take k)) l[k].2 := by
  unfold mostX; rw [List.take_succ_eq_append_getElem hk, List.foldl_append]; rfl
theorem sumX_bd (l : List Ext) (h : OkX l) : ∀ k, k ≤ l.length → 0 ≤ sumX (l.take k) ∧ sumX (l.take k) ≤ 6400 * k
  | 0, _ => by simp [sumX]
  | k + 1, hk => by
    have ih := sumX_bd l h k (by omega)
    have := h l[k] (List.getElem_mem (by omega))
    rw [sumX_succ l k (by omega)]
    omega
/-- what Stat says -/
def statX (n : Int) (l : List Ext) : Value := if chkX n l = 0 then statV l.length (sumX l) (n - sumX l) (mostX (holesX n l)) (holesX n l).length else statV 0 0 0 0 0
set_option maxRecDepth 100000 in
theorem xstat_any (n : Int) (A : Option Addr) (m c : Nat) (l : List Ext) (w : World) (hl : l.length = m) (hmc : m ≤ c) (hr : RdX tcells 2 w A l) :
    Calls Tryz.prog 68 #[.int .i64 n, .slice A m c] w fun e w' => e = .returned (.tuple #[statX n l, errV (chkX n l)]) ∧ Below w.heap.size w w' := by
  have HC : Hidden (∀ W, Below w.heap.size w W → Calls Tryz.prog 93 #[.int .i64 n, .slice A m c] W fun e w' => e = .returned (errV (chkX n l)) ∧ Below W.heap.size W w') := ⟨fun W hW => xcheck_any n A m c l W hl hmc (hr.below hW)⟩
  have HB0 : Hidden (Below w.heap.size w (w.alloc (.cells #[.int .i64 0, .int .i64 0, .int .i64 0, .int .i64 0, .int .i64 0] 57))) := ⟨(Below.refl _ _).alloc (Nat.le_refl _) _⟩
  have HBK0 : Hidden ((w.alloc (.cells #[.int .i64 0, .int .i64 0, .int .i64 0, .int .i64 0, .int .i64 0] 57)).heap[w.heap.size]? = some (.cells #[.int .i64 0, .int .i64 0, .int .i64 0, .int .i64 0, .int .i64 0] 57 (0, 0))) := ⟨heap_alloc_new w _⟩
  have HSX : Hidden (statX n l = if chkX n l = 0 then statV l.length (sumX l) (n - sumX l) (mostX (holesX n l)) (holesX n l).length else statV 0 0 0 0 0) := ⟨rfl⟩
  by_cases h0 : chkX n l = 0
  · obtain ⟨o0, o1, o2, o3, -⟩ := chkX_ok h0
    have HH : Hidden (∀ W, Below w.heap.size w W → Calls Tryz.prog 94 #[.int .i64 n, .slice A m c] W fun e w' => ∃ v, e = .returned v ∧ w'.ownsRow W.heap.size 95 2 v (holesX n l).length ((holesX n l).flatMap tcells) ∧ Below W.heap.size W w') := ⟨fun W hW => xholes_any n A m c l W o0 o1 hl (by omega) (hr.below hW) o3⟩
    have hHl := holesX_len n l
    rw [h0] at HC
    rw [show errV 0 = Value.nilIface from rfl] at HC
    have hsx := HSX.out
    rw [if_pos h0] at hsx
    rw [hsx, h0, show errV 0 = Value.nilIface from rfl]
    have HR := Hidden.mk hr
    have HO := Hidden.mk o3
    have HL := Hidden.mk hl
    have hm200 : m ≤ 200 := by omega
    generalize holesX n l = H at *
    clear HSX hsx h0 hr o3 hl
    unfold statV
    go_enter Tryz.func68, Tryz.ntmps68
    go_wp2_with fail
    generalize w.alloc (.cells #[.int .i64 0, .int .i64 0, .int .i64 0, .int .i64 0, .int .i64 0] 57) = w0 at *
    refine (HC.out _ HB0.out).mono ?_
    rintro e w1 ⟨rfl, hb1⟩
    have hlt : w.heap.size < w0.heap.size := (Array.getElem?_eq_some_iff.1 HBK0.out).1
    have hal : Below w1.heap.size w1 (w1.alloc (.cells #[.int .i64 m, .int .i64 0, .int .i64 0, .int .i64 0, .int .i64 0] 57)) := (Below.refl _ _).alloc (Nat.le_refl _) _
    have hB1 := HB0.out.trans (hb1.mono HB0.out.size)
    have hlt1 : w.heap.size < w1.heap.size := Nat.lt_of_lt_of_le hlt hb1.size
    have HST : Hidden (Below w.heap.size w (w1.alloc (.cells #[.int .i64 m, .int .i64 0, .int .i64 0, .int .i64 0, .int .i64 0] 57)) ∧ (w1.alloc (.cells #[.int .i64 m, .int .i64 0, .int .i64 0, .int .i64 0, .int .i64 0] 57)).heap[w.heap.size]? = some (.cells #[.int .i64 0, .int .i64 0, .int .i64 0, .int .i64 0, .int .i64 0] 57 (0, 0)) ∧ (w1.alloc (.cells #[.int .i64 m, .int .i64 0, .int .i64 0, .int .i64 0, .int .i64 0] 57)).heap[w1.heap.size]? = some (.cells #[.int .i64 m, .int .i64 0, .int .i64 0, .int .i64 0, .int .i64 0] 57 (0, 0))) :=
      ⟨hB1.trans (hal.mono hB1.size), (hal.block _ hlt1).trans ((hb1.block _ hlt).trans HBK0.out), heap_alloc_new w1 _⟩
    clear hb1 hal hB1 hlt
    go_wp2_with fail
    generalize w1.alloc (.cells #[.int .i64 m, .int .i64 0, .int .i64 0, .int .i64 0, .int .i64 0] 57) = w2 at *
    generalize w1.heap.size = sb at *
    go_loopg [24] m (fun q i wr => ∃ (k : Nat) (u : Int), k ≤ m ∧ q = m - k ∧ i = .int .i64 (k : Int) ∧ 0 ≤ u ∧ u ≤ 6400 * k ∧ Hidden (sumX (l.take k) = u ∧ Below w.heap.size w wr ∧ wr.heap[w.heap.size]? = some (.cells #[.int .i64 0, .int .i64 0, .int .i64 0, .int .i64 0, .int .i64 0] 57 (0, 0)) ∧ wr.heap[sb]? = some (.cells #[.int .i64 m, .int .i64 u, .int .i64 0, .int .i64 0, .int .i64 0] 57 (0, 0))))
    case atStart => exact ⟨0, 0, by omega, rfl, rfl, by omega, by omega, ⟨rfl, HST.out⟩⟩
    case round =>
      obtain ⟨k, u, hk, rfl, rfl, hu0, hu1, hst⟩ := hrel
      by_cases hlt : k < m
      · have hkl : k < l.length := by have := HL.out; omega
        obtain ⟨p, off, rfl, hcx⟩ := (HR.out.below hst.out.2.1) k hkl
        have c0 := hcx 0 _ rfl
        have c1 := hcx 1 _ rfl
        rw [Nat.add_zero] at c0
        have HS := Hidden.mk (sumX_succ l k hkl)
        rw [hst.out.1] at HS
        have hb := HO.out l[k] (List.getElem_mem hkl)
        generalize l[k] = e at *
        obtain ⟨e1, e2⟩ := e
        dsimp only at c0 c1 HS hb
        obtain ⟨b0, b1, b2⟩ := hb
        have hal : Below wr.heap.size wr (wr.alloc (.cells #[.int .i64 e1, .int .i64 e2] 95)) := (Below.refl _ _).alloc (Nat.le_refl _) _
        have HN : Hidden (Below w.heap.size w (wr.alloc (.cells #[.int .i64 e1, .int .i64 e2] 95)) ∧ (wr.alloc (.cells #[.int .i64 e1, .int .i64 e2] 95)).heap[w.heap.size]? = some (.cells #[.int .i64 0, .int .i64 0, .int .i64 0, .int .i64 0, .int .i64 0] 57 (0, 0)) ∧ (wr.alloc (.cells #[.int .i64 e1, .int .i64 e2] 95)).heap[sb]? = some (.cells #[.int .i64 m, .int .i64 u, .int .i64 0, .int .i64 0, .int .i64 0] 57 (0, 0))) :=
          ⟨hst.out.2.1.trans (hal.mono hst.out.2.1.size), (hal.block _ (Array.getElem?_eq_some_iff.1 hst.out.2.2.1).1).trans hst.out.2.2.1, (hal.block _ (Array.getElem?_eq_some_iff.1 hst.out.2.2.2).1).trans hst.out.2.2.2⟩
        have hbk := HN.out.2.2
        have z1 : (wr.alloc (.cells #[.int .i64 e1, .int .i64 e2] 95)).cell? ⟨sb, 1, none⟩ = some (.int .i64 u) := by simp [World.cell?, hbk]
        have hfz : ∀ q, (wr.alloc (.cells #[.int .i64 e1, .int .i64 e2] 95)).frozen? ⟨sb, q, none⟩ = false := fun q => frozen_of_row _ sb q _ _ hbk
        have HNE : Hidden (w.heap.size ≠ sb) := ⟨by omega⟩
        have HN2 : Hidden (Below w.heap.size w ((wr.alloc (.cells #[.int .i64 e1, .int .i64 e2] 95)).setCell ⟨sb, 1, none⟩ (.int .i64 (u + e2))) ∧ ((wr.alloc (.cells #[.int .i64 e1, .int .i64 e2] 95)).setCell ⟨sb, 1, none⟩ (.int .i64 (u + e2))).heap[w.heap.size]? = some (.cells #[.int .i64 0, .int .i64 0, .int .i64 0, .int .i64 0, .int .i64 0] 57 (0, 0)) ∧ ((wr.alloc (.cells #[.int .i64 e1, .int .i64 e2] 95)).setCell ⟨sb, 1, none⟩ (.int .i64 (u + e2))).heap[sb]? = some (.cells #[.int .i64 m, .int .i64 (u + e2), .int .i64 0, .int .i64 0, .int .i64 0] 57 (0, 0))) :=
          ⟨HN.out.1.setCell (p := ⟨sb, 1, none⟩) (by simp; omega) _, (Below.heap_setCell _ _ _ _ HNE.out).trans HN.out.2.1, heap_setK HN.out.2.2 _⟩
        have s1 : IntKind.i64.wrap (u + e2) = u + e2 := IntWalk.i64_in _ (by omega)
        have s3 : IntKind.i64.wrap ((k : Int) + 1) = (k : Int) + 1 := IntWalk.i64_in _ (by omega)
        have hne : wr.heap.size ≠ sb := by have := (Array.getElem?_eq_some_iff.1 hst.out.2.2.2).1; omega
        have k0 : (0 : Int) ≤ k := by omega
        have k1 : (k : Int) < m := by omega
        clear hcx hal hbk HN hst
        go_wp2_with fail
        go_roundg (m - (k + 1))
        case measure => omega
        case rel => exact ⟨k + 1, u + e2, by omega, rfl, by go_num, by omega, by omega, ⟨HS.out, HN2.out⟩⟩
      · obtain rfl : k = m := by omega
        have hsu := hst.out.1
        rw [List.take_of_length_le (by have := HL.out; omega)] at hsu
        have HSU := Hidden.mk hsu
        have hbk := hst.out.2.2.2
        have z1 : wr.cell? ⟨sb, 1, none⟩ = some (.int .i64 u) := by simp [World.cell?, hbk]
        have z2 : wr.cell? ⟨sb, 2, none⟩ = some (.int .i64 0) := by simp [World.cell?, hbk]
        have hfz : ∀ q, wr.frozen? ⟨sb, q, none⟩ = false := fun q => frozen_of_row _ sb q _ _ hbk
        have s1 : IntKind.i64.wrap (n - u) = n - u := IntWalk.i64_in _ (by omega)
        have HNE : Hidden (w.heap.size ≠ sb) := ⟨by omega⟩
        have H2 : Hidden (Below w.heap.size w (wr.setCell ⟨sb, 2, none⟩ (.int .i64 (n - u))) ∧ (wr.setCell ⟨sb, 2, none⟩ (.int .i64 (n - u))).heap[w.heap.size]? = some (.cells #[.int .i64 0, .int .i64 0, .int .i64 0, .int .i64 0, .int .i64 0] 57 (0, 0)) ∧ (wr.setCell ⟨sb, 2, none⟩ (.int .i64 (n - u))).heap[sb]? = some (.cells #[.int .i64 k, .int .i64 u, .int .i64 (n - u), .int .i64 0, .int .i64 0] 57 (0, 0))) :=
          ⟨hst.out.2.1.setCell (p := ⟨sb, 2, none⟩) (by simp; omega) _, (Below.heap_setCell _ _ _ _ HNE.out).trans hst.out.2.2.1, heap_setK hbk _⟩
        clear hsu hbk hst HST
        go_wp2_with fail
        generalize wr.setCell ⟨sb, 2, none⟩ (.int .i64 (n - u)) = w5 at *
        refine (HH.out _ H2.out.1).mono ?_
        rintro e w6 ⟨v, rfl, hown, hb6⟩
        have H6 : Hidden (Below w.heap.size w w6 ∧ w6.heap[w.heap.size]? = some (.cells #[.int .i64 0, .int .i64 0, .int .i64 0, .int .i64 0, .int .i64 0] 57 (0, 0)) ∧ w6.heap[sb]? = some (.cells #[.int .i64 k, .int .i64 u, .int .i64 (n - u), .int .i64 0, .int .i64 0] 57 (0, 0)) ∧ w6.ownsRow w5.heap.size 95 2 v H.length (H.flatMap tcells) ∧ sb < w5.heap.size ∧ w.heap.size < w5.heap.size) :=
          ⟨H2.out.1.trans (hb6.mono H2.out.1.size), (hb6.block _ (Array.getElem?_eq_some_iff.1 H2.out.2.1).1).trans H2.out.2.1, (hb6.block _ (Array.getElem?_eq_some_iff.1 H2.out.2.2).1).trans H2.out.2.2, hown, (Array.getElem?_eq_some_iff.1 H2.out.2.2).1, (Array.getElem?_eq_some_iff.1 H2.out.2.1).1⟩
        obtain ⟨A3, c3, rfl, hc3, -⟩ := own_split hown
        clear hown hb6 H2 HH HC z1 z2 hfz HR
        generalize hhl : H.length = hl at *
        have HHL := Hidden.mk hhl
        clear hhl
        go_wp2_with fail
        go_loopg [44] hl (fun q i wr => ∃ (j : Nat) (x : Int), j ≤ hl ∧ q = hl - j ∧ i = .int .i64 (j : Int) ∧ Hidden (mostX (H.take j) = x ∧ Below w.heap.size w wr ∧ wr.heap[w.heap.size]? = some (.cells #[.int .i64 0, .int .i64 0, .int .i64 0, .int .i64 0, .int .i64 0] 57 (0, 0)) ∧ wr.heap[sb]? = some (.cells #[.int .i64 k, .int .i64 u, .int .i64 (n - u), .int .i64 x, .int .i64 j] 57 (0, 0)) ∧ wr.ownsRow w5.heap.size 95 2 (.slice A3 hl c3) hl (H.flatMap tcells)))
        case atStart => exact ⟨0, 0, by omega, rfl, rfl, ⟨rfl, H6.out.1, H6.out.2.1, H6.out.2.2.1, H6.out.2.2.2.1⟩⟩
        case round =>
          obtain ⟨j, x, hj, rfl, rfl, hst⟩ := hrel
          by_cases hlt2 : j < hl
          · have hjH : j < H.length := by have := HHL.out; omega
            obtain ⟨g, off, rfl, hgb, hgl, hcx⟩ := own_at tcells_len hst.out.2.2.2.2 j hjH (by omega)
            have c0 := hcx 0 _ rfl
            have c1 := hcx 1 _ rfl
            simp only [Nat.add_zero] at c0
            have HS := Hidden.mk (mostX_succ H j hjH)
            rw [hst.out.1] at HS
            generalize H[j] = e at *
            obtain ⟨e1, e2⟩ := e
            dsimp only at c0 c1 HS
            have hal : Below wr.heap.size wr (wr.alloc (.cells #[.int .i64 e1, .int .i64 e2] 95)) := (Below.refl _ _).alloc (Nat.le_refl _) _
            have hsbl := (Array.getElem?_eq_some_iff.1 hst.out.2.2.2.1).1
            have hbk := (hal.block _ hsbl).trans hst.out.2.2.2.1
            have HWE : Hidden ((wr.alloc (.cells #[.int .i64 e1, .int .i64 e2] 95)).heap[w.heap.size]? = some (.cells #[.int .i64 0, .int .i64 0, .int .i64 0, .int .i64 0, .int .i64 0] 57 (0, 0)) ∧ Below w.heap.size w (wr.alloc (.cells #[.int .i64 e1, .int .i64 e2] 95)) ∧ (wr.alloc (.cells #[.int .i64 e1, .int .i64 e2] 95)).ownsRow w5.heap.size 95 2 (.slice (some ⟨g, off, none⟩) hl c3) hl (H.flatMap tcells)) := ⟨(hal.block _ (Array.getElem?_eq_some_iff.1 hst.out.2.2.1).1).trans hst.out.2.2.1, hst.out.2.1.trans (hal.mono hst.out.2.1.size), own_below hst.out.2.2.2.2 hal⟩
            have z3 : (wr.alloc (.cells #[.int .i64 e1, .int .i64 e2] 95)).cell? ⟨sb, 3, none⟩ = some (.int .i64 x) := by simp [World.cell?, hbk]
            have z4 : (wr.alloc (.cells #[.int .i64 e1, .int .i64 e2] 95)).cell? ⟨sb, 4, none⟩ = some (.int .i64 (j : Int)) := by simp [World.cell?, hbk]
            have hfz : ∀ q, (wr.alloc (.cells #[.int .i64 e1, .int .i64 e2] 95)).frozen? ⟨sb, q, none⟩ = false := fun q => frozen_of_row _ sb q _ _ hbk
            have s3 : IntKind.i64.wrap ((j : Int) + 1) = (j : Int) + 1 := IntWalk.i64_in _ (by omega)
            have HBK := Hidden.mk hbk
            have hne : wr.heap.size ≠ sb := by omega
            have k0 : (0 : Int) ≤ j := by omega
            have k1 : (j : Int) < hl := by omega
            have HSB : Hidden (w.heap.size ≤ sb ∧ sb < w5.heap.size) := ⟨by omega, H6.out.2.2.2.2.1⟩
            clear hcx hal hbk hst H6 hsbl
            have HN3 : Hidden ((((wr.alloc (.cells #[.int .i64 e1, .int .i64 e2] 95)).setCell ⟨sb, 3, none⟩ (.int .i64 (max x e2))).heap[sb]? = some (.cells #[.int .i64 k, .int .i64 u, .int .i64 (n - u), .int .i64 (max x e2), .int .i64 j] 57 (0, 0)))) := ⟨heap_setK HBK.out _⟩
            have z4' : ((wr.alloc (.cells #[.int .i64 e1, .int .i64 e2] 95)).setCell ⟨sb, 3, none⟩ (.int .i64 (max x e2))).cell? ⟨sb, 4, none⟩ = some (.int .i64 (j : Int)) := by simp only [World.cell?, HN3.out]; rfl
            have HN4 : Hidden (Below w.heap.size w (((wr.alloc (.cells #[.int .i64 e1, .int .i64 e2] 95)).setCell ⟨sb, 3, none⟩ (.int .i64 (max x e2))).setCell ⟨sb, 4, none⟩ (.int .i64 ((j : Int) + 1))) ∧ (((wr.alloc (.cells #[.int .i64 e1, .int .i64 e2] 95)).setCell ⟨sb, 3, none⟩ (.int .i64 (max x e2))).setCell ⟨sb, 4, none⟩ (.int .i64 ((j : Int) + 1))).heap[w.heap.size]? = some (.cells #[.int .i64 0, .int .i64 0, .int .i64 0, .int .i64 0, .int .i64 0] 57 (0, 0)) ∧ (((wr.alloc (.cells #[.int .i64 e1, .int .i64 e2] 95)).setCell ⟨sb, 3, none⟩ (.int .i64 (max x e2))).setCell ⟨sb, 4, none⟩ (.int .i64 ((j : Int) + 1))).heap[sb]? = some (.cells #[.int .i64 k, .int .i64 u, .int .i64 (n - u), .int .i64 (max x e2), .int .i64 ((j : Int) + 1)] 57 (0, 0)) ∧ (((wr.alloc (.cells #[.int .i64 e1, .int .i64 e2] 95)).setCell ⟨sb, 3, none⟩ (.int .i64 (max x e2))).setCell ⟨sb, 4, none⟩ (.int .i64 ((j : Int) + 1))).ownsRow w5.heap.size 95 2 (.slice (some ⟨g, off, none⟩) hl c3) hl (H.flatMap tcells)) :=
              ⟨(HWE.out.2.1.setCell (p := ⟨sb, 3, none⟩) HSB.out.1 _).setCell (p := ⟨sb, 4, none⟩) HSB.out.1 _, (Below.heap_setCell _ _ _ _ HNE.out).trans ((Below.heap_setCell _ _ _ _ HNE.out).trans HWE.out.1), heap_setK HN3.out _,
                ownsRow_block HWE.out.2.2 fun q hq => (Below.heap_setCell _ _ _ _ (fun e => by have := (HWE.out.2.2.lt q hq).1; have := HSB.out.2; simp at e; omega)).trans (Below.heap_setCell _ _ _ _ (fun e => by have := (HWE.out.2.2.lt q hq).1; have := HSB.out.2; simp at e; omega))⟩
            clear HN3 HWE HBK
            go_wp2_with fail
            go_roundg (hl - (j + 1))
            case measure => omega
            case rel => exact ⟨j + 1, max x e2, by omega, rfl, by go_num, ⟨HS.out, HN4.out.1, HN4.out.2.1, HN4.out.2.2.1, HN4.out.2.2.2⟩⟩
          · obtain rfl : j = hl := by omega
            have hmx := hst.out.1
            rw [List.take_of_length_le (by have := HHL.out; omega)] at hmx
            have HMX := Hidden.mk hmx
            have hbk := hst.out.2.2.2.1
            have hrk := hst.out.2.2.1
            have y0 : ∀ q, wr.frozen? ⟨w.heap.size, q, none⟩ = false := fun q => frozen_of_row _ _ q _ _ hrk
            have z0 : wr.cell? ⟨sb, 0, none⟩ = some (.int .i64 k) := by simp [World.cell?, hbk]
            have z1 : wr.cell? ⟨sb, 1, none⟩ = some (.int .i64 u) := by simp [World.cell?, hbk]
            have z2 : wr.cell? ⟨sb, 2, none⟩ = some (.int .i64 (n - u)) := by simp [World.cell?, hbk]
            have z3 : wr.cell? ⟨sb, 3, none⟩ = some (.int .i64 x) := by simp [World.cell?, hbk]
            have z4 : wr.cell? ⟨sb, 4, none⟩ = some (.int .i64 (j : Int)) := by simp [World.cell?, hbk]
            have r0 : wr.cell? ⟨w.heap.size, 0, none⟩ = some (.int .i64 0) := by simp [World.cell?, hrk]
            have r1 : wr.cell? ⟨w.heap.size, 1, none⟩ = some (.int .i64 0) := by simp [World.cell?, hrk]
            have r2 : wr.cell? ⟨w.heap.size, 2, none⟩ = some (.int .i64 0) := by simp [World.cell?, hrk]
            have r3 : wr.cell? ⟨w.heap.size, 3, none⟩ = some (.int .i64 0) := by simp [World.cell?, hrk]
            have r4 : wr.cell? ⟨w.heap.size, 4, none⟩ = some (.int .i64 0) := by simp [World.cell?, hrk]
            have HB := Hidden.mk hst.out.2.1
            have HF : Hidden ((l.length : Int) = k ∧ sumX l = u ∧ mostX H = x ∧ (H.length : Int) = j) := ⟨by rw [HL.out], HSU.out, HMX.out, by rw [HHL.out]⟩
            clear hmx hbk hrk hst H6
            go_wp2_with fail
            refine bodyPost_ret (v := .tuple #[.agg #[.int .i64 k, .int .i64 u, .int .i64 (n - u), .int .i64 x, .int .i64 (j : Int)], .nilIface]) ?_ rfl ?_
            · rw [results_cell_tmp rfl]
              go_simp
            · refine ⟨by rw [HF.out.1, HF.out.2.1, HF.out.2.2.1, HF.out.2.2.2], ((((HB.out.setCell (p := ⟨w.heap.size, 0, none⟩) (Nat.le_refl _) _).setCell (p := ⟨w.heap.size, 1, none⟩) (Nat.le_refl _) _).setCell (p := ⟨w.heap.size, 2, none⟩) (Nat.le_refl _) _).setCell (p := ⟨w.heap.size, 3, none⟩) (Nat.le_refl _) _).setCell (p := ⟨w.heap.size, 4, none⟩) (Nat.le_refl _) _⟩
  · have hsx := HSX.out
    rw [if_neg h0] at hsx
    rw [hsx]
    have hev : errV (chkX n l) = .iface 88 (.int .i64 (chkX n l)) := by unfold errV; rw [if_neg h0]
    rw [hev] at HC ⊢
    unfold statV
    generalize chkX n l = q at *
    clear h0 hev HSX hsx hr hl
    go_enter Tryz.func68, Tryz.ntmps68
    go_wp2_with fail
    generalize w.alloc (.cells #[.int .i64 0, .int .i64 0, .int .i64 0, .int .i64 0, .int .i64 0] 57) = w0 at *
    refine (HC.out _ HB0.out).mono ?_
    rintro e w1 ⟨rfl, hb1⟩
    have hlt : w.heap.size < w0.heap.size := (Array.getElem?_eq_some_iff.1 HBK0.out).1
    have hbk := (hb1.block _ hlt).trans HBK0.out
    have HB1 := Hidden.mk (HB0.out.trans (hb1.mono HB0.out.size))
    have y0 : ∀ q, w1.frozen? ⟨w.heap.size, q, none⟩ = false := fun q => frozen_of_row _ _ q _ _ hbk
    have z0 : w1.cell? ⟨w.heap.size, 0, none⟩ = some (.int .i64 0) := by simp [World.cell?, hbk]
    have z1 : w1.cell? ⟨w.heap.size, 1, none⟩ = some (.int .i64 0) := by simp [World.cell?, hbk]
    have z2 : w1.cell? ⟨w.heap.size, 2, none⟩ = some (.int .i64 0) := by simp [World.cell?, hbk]
    have z3 : w1.cell? ⟨w.heap.size, 3, none⟩ = some (.int .i64 0) := by simp [World.cell?, hbk]
    have z4 : w1.cell? ⟨w.heap.size, 4, none⟩ = some (.int .i64 0) := by simp [World.cell?, hbk]
    clear hb1 hlt hbk
    go_wp2_with fail
    refine bodyPost_ret (v := .tuple #[.agg #[.int .i64 0, .int .i64 0, .int .i64 0, .int .i64 0, .int .i64 0], .iface 88 (.int .i64 q)]) ?_ rfl ?_
    · rw [results_cell_tmp rfl]
      go_simp
    · exact ⟨rfl, ((((HB1.out.setCell (p := ⟨w.heap.size, 0, none⟩) (Nat.le_refl _) _).setCell (p := ⟨w.heap.size, 1, none⟩) (Nat.le_refl _) _).setCell (p := ⟨w.heap.size, 2, none⟩) (Nat.le_refl _) _).setCell (p := ⟨w.heap.size, 3, none⟩) (Nat.le_refl _) _).setCell (p := ⟨w.heap.size, 4, none⟩) (Nat.le_refl _) _⟩
end Go.Proofs.YtcahgmnkphmnhaaGreat
/- Extents, the plain law: what is free between extents that are right. No walk here. -/
namespace Go.Proofs.YtcahgmnkphmnhaaGreat
open Go.RowKit

/-- behind each other, from a to n -/
def Tidy : Int → List Ext → Int → Prop
  | a, [], n => a ≤ n
  | a, e :: r, n => a ≤ e.1 ∧ 1 ≤ e.2 ∧ Tidy (e.1 + e.2) r n
theorem hitX_symm (e o : Ext) : hitX e o = hitX o e := by unfold hitX; rw [Bool.and_comm]
theorem chkX_pair {n : Int} {l : List Ext} (h : chkX n l = 0) : l.Pairwise (fun a b => hitX a b = false) := by
  obtain ⟨_, _, _, _, h5⟩ := chkX_ok h
  rw [List.pairwise_iff_getElem]
  intro i j hi hj hij
  have h2 := (h5 j hj).2
  rw [List.any_eq_false] at h2
  have hm : l[i] ∈ l.take j := by
    rw [List.mem_take_iff_getElem]
    exact ⟨i, by omega, rfl⟩
  have := h2 _ hm
  rw [hitX_symm]
  simpa using this
theorem loopX_of (n : Int) (l : List Ext) : ∀ k, k ≤ l.length → (∀ j (hj : j < l.length), j < k → badX n l[j] = false ∧ (l.take j).any (hitX l[j]) = false) → loopX n l k = 0
  | 0, _, _ => rfl
  | k + 1, hk, h => by
    have h0 := loopX_of n l k (by omega) (fun j hj hjk => h j hj (by omega))
    obtain ⟨h1, h2⟩ := h k (by omega) (by omega)
    rw [loopX, if_pos h0]
    have hg : l.getD k (0, 0) = l[k] := by simp [show k < l.length by omega]
    rw [hg]
    unfold faultX
    rw [h1, h2]; rfl
theorem chkX_of {n : Int} {l : List Ext} (h0 : 0 ≤ n) (h1 : n ≤ 6400) (h2 : l.length ≤ 200) (hb : ∀ e ∈ l, badX n e = false) (hp : l.Pairwise (fun a b => hitX a b = false)) : chkX n l = 0 := by
  unfold chkX
  rw [if_neg (by omega), if_neg (by omega)]
  refine loopX_of n l _ (Nat.le_refl _) fun j hj _ => ⟨hb _ (List.getElem_mem hj), ?_⟩
  rw [List.any_eq_false]
  intro x hx
  rw [List.mem_take_iff_getElem] at hx
  obtain ⟨i, hi, rfl⟩ := hx
  rw [List.pairwise_iff_getElem] at hp
  have := hp i j (by omega) hj (by omega)
  rw [hitX_symm]
  simpa using this
theorem badX_of {n : Int} {e : Ext} (h : 1 ≤ e.2 ∧ 0 ≤ e.1 ∧ e.1 + e.2 ≤ n) : badX n e = false := by
  unfold badX
  simp only [Bool.or_eq_false_iff, decide_eq_false_iff_not]
  omega
theorem hitX_false {e o : Ext} : hitX e o = false ↔ (o.1 + o.2 ≤ e.1 ∨ e.1 + e.2 ≤ o.1) := by
  unfold hitX
  simp only [Bool.and_eq_false_iff, decide_eq_false_iff_not]
  omega
theorem tidy_mk (n : Int) : ∀ (S : List Ext) (a : Int), (∀ e ∈ S, a ≤ e.1 ∧ 1 ≤ e.2 ∧ e.1 + e.2 ≤ n) → S.Pairwise (fun x y => x.1 + x.2 ≤ y.1) → a ≤ n → Tidy a S n
  | [], _, _, _, h => h
  | e :: r, a, hb, hp, _ => by
    obtain ⟨h1, h2, h3⟩ := hb e (List.mem_cons_self ..)
    rw [List.pairwise_cons] at hp
    exact ⟨h1, h2, tidy_mk n r _ (fun x hx => by have := hb x (List.mem_cons_of_mem _ hx); have := hp.1 x hx; omega) hp.2 (by omega)⟩
theorem tidy_of {n : Int} {l : List Ext} (h : chkX n l = 0) : Tidy 0 (sortE l) n := by
  obtain ⟨h0, h1, h2, _, h5⟩ := chkX_ok h
  have hbad : ∀ e ∈ sortE l, badX n e = false := fun e he => by
    obtain ⟨j, hj, rfl⟩ := List.getElem_of_mem ((sortE_perm l).mem_iff.1 he)
    exact (h5 j hj).1
  refine tidy_mk n _ 0 (fun e he => by have := badX_false (hbad e he); omega) ?_ h0
  have hp : (sortE l).Pairwise (fun a b => hitX a b = false) := ((sortE_perm l).pairwise_iff (fun {x y} h => by rw [hitX_symm]; exact h)).2 (chkX_pair h)
  rw [List.pairwise_iff_getElem] at hp ⊢
  have hs := sortE_sorted l
  rw [List.pairwise_iff_getElem] at hs
  intro i j hi hj hij
  have a1 := hitX_false.1 (hp i j hi hj hij)
  have a2 := hs i j hi hj hij
  have a3 := badX_false (hbad _ (List.getElem_mem hi))
  have a4 := badX_false (hbad _ (List.getElem_mem hj))
  omega
theorem tidy_le : ∀ {S : List Ext} {a n : Int}, Tidy a S n → a ≤ n
  | [], _, _, h => h
  | e :: r, a, n, ⟨h1, h2, h3⟩ => by have := tidy_le h3; omega
theorem tidy_mem : ∀ {S : List Ext} {a n : Int}, Tidy a S n → ∀ e ∈ S, a ≤ e.1 ∧ 1 ≤ e.2 ∧ e.1 + e.2 ≤ n
  | e :: r, a, n, ⟨h1, h2, h3⟩, x, hx => by
    rcases List.mem_cons.1 hx with rfl | hx
    · exact ⟨h1, h2, tidy_le h3⟩
    · have := tidy_mem h3 x hx; omega
theorem tidy_strict : ∀ {S : List Ext} {a n : Int}, Tidy a S n → S.Pairwise (fun x y => x.1 < y.1)
  | [], _, _, _ => List.Pairwise.nil
  | e :: r, a, n, ⟨h1, h2, h3⟩ => List.Pairwise.cons (fun x hx => by have := tidy_mem h3 x hx; omega) (tidy_strict h3)
/-- holes of a tidy list, with its end -/
def runsX (a : Int) (S : List Ext) (n : Int) : List Ext := holesGo a (S ++ [(n, 0)])
theorem runsX_nil (a n : Int) : runsX a [] n = if a < n then [(a, n - a)] else [] := by
  unfold runsX
  simp [holesGo]
theorem runsX_cons (a : Int) (e : Ext) (r : List Ext) (n : Int) : runsX a (e :: r) n = (if a < e.1 then [(a, e.1 - a)] else []) ++ runsX (e.1 + e.2) r n := rfl
theorem runs_mem : ∀ {S : List Ext} {a n : Int}, Tidy a S n → ∀ h ∈ runsX a S n, a ≤ h.1 ∧ 1 ≤ h.2 ∧ h.1 + h.2 ≤ n ∧ ∀ e ∈ S, h.1 + h.2 ≤ e.1 ∨ e.1 + e.2 ≤ h.1
  | [], a, n, ht, h, hh => by
    rw [runsX_nil] at hh
    split at hh
    · rw [List.mem_singleton.1 hh]
      dsimp only
      exact ⟨by omega, by omega, by omega, fun e he => by cases he⟩
    · cases hh
  | e :: r, a, n, ⟨h1, h2, h3⟩, h, hh => by
    rw [runsX_cons] at hh
    rcases List.mem_append.1 hh with hh | hh
    · split at hh
      · rw [List.mem_singleton.1 hh]
        have := tidy_le h3
        dsimp only
        refine ⟨by omega, by omega, by omega, fun x hx => .inl ?_⟩
        rcases List.mem_cons.1 hx with rfl | hx
        · omega
        · have := tidy_mem h3 x hx; omega
      · cases hh
    · obtain ⟨i1, i2, i3, i4⟩ := runs_mem h3 h hh
      refine ⟨by omega, i2, i3, fun x hx => ?_⟩
      rcases List.mem_cons.1 hx with rfl | hx
      · right; omega
      · exact i4 x hx
theorem runs_pair : ∀ {S : List Ext} {a n : Int}, Tidy a S n → (runsX a S n).Pairwise (fun x y => x.1 + x.2 ≤ y.1)
  | [], a, n, _ => by
    rw [runsX_nil]; split <;> simp
  | e :: r, a, n, ⟨h1, h2, h3⟩ => by
    rw [runsX_cons]
    have ih := runs_pair h3
    split
    · refine List.Pairwise.cons (fun x hx => ?_) ih
      have := runs_mem h3 x hx
      dsimp only
      omega
    · exact ih
theorem foldl_sum (l : List Ext) : ∀ s : Int, l.foldl (fun s e => s + e.2) s = s + l.foldl (fun s e => s + e.2) 0 := by
  induction l with
  | nil => intro s; simp
  | cons x l ih => intro s; rw [List.foldl_cons, ih, List.foldl_cons, ih (0 + x.2)]; omega
theorem sumX_cons (e : Ext) (l : List Ext) : sumX (e :: l) = e.2 + sumX l := by
  unfold sumX; rw [List.foldl_cons, foldl_sum]; omega
theorem sumX_append (l m : List Ext) : sumX (l ++ m) = sumX l + sumX m := by
  induction l with
  | nil => simp [sumX]
  | cons x l ih => rw [List.cons_append, sumX_cons, sumX_cons, ih]; omega
theorem sumX_perm {l m : List Ext} (h : l.Perm m) : sumX l = sumX m := by
  induction h with
  | nil => rfl
  | cons x _ ih => rw [sumX_cons, sumX_cons, ih]
  | swap x y l => rw [sumX_cons, sumX_cons, sumX_cons, sumX_cons]; omega
  | trans _ _ h1 h2 => rw [h1, h2]
theorem runs_sum : ∀ {S : List Ext} {a n : Int}, Tidy a S n → sumX S + sumX (runsX a S n) = n - a
  | [], a, n, h => by
    have : a ≤ n := h
    rw [runsX_nil]; split
    · rw [sumX_cons]; simp [sumX]
    · simp [sumX]; omega
  | e :: r, a, n, ⟨h1, h2, h3⟩ => by
    rw [runsX_cons, sumX_cons, sumX_append]
    have ih := runs_sum h3
    split
    · rw [sumX_cons]
      have : sumX [] = 0 := rfl
      dsimp only
      omega
    · have : sumX [] = 0 := rfl
      omega
/-- one more, where it fits -/
theorem runs_insert : ∀ {S : List Ext} {a n at_ L size : Int}, Tidy a S n → (at_, L) ∈ runsX a S n → 1 ≤ size → size ≤ L →
    ∃ S', S'.Perm ((at_, size) :: S) ∧ Tidy a S' n ∧ (runsX a S' n).length ≤ (runsX a S n).length ∧ ∀ h ∈ runsX a S' n, ∃ h' ∈ runsX a S n, h.2 ≤ h'.2
  | [], a, n, at_, L, size, ht, hm, h1, h2 => by
    rw [runsX_nil] at hm
    split at hm
    · rename_i hlt
      have he := List.mem_singleton.1 hm
      injection he with e1 e2
      subst e1 e2
      refine ⟨[(at_, size)], List.Perm.refl _, ⟨Int.le_refl _, h1, (by omega : at_ + size ≤ n)⟩, ?_, ?_⟩
      · rw [runsX_cons, runsX_nil, runsX_nil, if_neg (by dsimp only; omega), if_pos hlt]
        dsimp only
        split <;> simp
      · intro h hh
        rw [runsX_cons, runsX_nil, if_neg (by dsimp only; omega)] at hh
        dsimp only at hh
        split at hh
        · have hm' : h = (at_ + size, n - (at_ + size)) := by simpa using hh
          rw [hm', runsX_nil, if_pos hlt]
          exact ⟨_, List.mem_singleton.2 rfl, by dsimp only; omega⟩
        · simp at hh
    · cases hm
  | e :: r, a, n, at_, L, size, ⟨t1, t2, t3⟩, hm, h1, h2 => by
    rw [runsX_cons] at hm
    rcases List.mem_append.1 hm with hm | hm
    · split at hm
      · rename_i hlt
        have he := List.mem_singleton.1 hm
        injection he with e1 e2
        subst e1 e2
        refine ⟨(at_, size) :: e :: r, List.Perm.refl _, ⟨Int.le_refl _, h1, (by dsimp only; omega), t2, t3⟩, ?_, ?_⟩
        · rw [runsX_cons, runsX_cons, runsX_cons, if_neg (by dsimp only; omega), if_pos hlt]
          dsimp only
          split <;> simp
        · intro h hh
          rw [runsX_cons, runsX_cons, if_neg (by dsimp only; omega)] at hh
          dsimp only at hh
          rw [runsX_cons, if_pos hlt]
          rw [List.nil_append] at hh
          rcases List.mem_append.1 hh with hh | hh
          · split at hh
            · rw [List.mem_singleton.1 hh]
              exact ⟨_, List.mem_cons_self .., by dsimp only; omega⟩
            · cases hh
          · exact ⟨h, List.mem_cons_of_mem _ hh, Int.le_refl _⟩
      · cases hm
    · obtain ⟨S', p1, p2, p3, p4⟩ := runs_insert t3 hm h1 h2
      refine ⟨e :: S', (List.Perm.cons e p1).trans (List.Perm.swap _ _ _), ⟨t1, t2, p2⟩, ?_, ?_⟩
      · rw [runsX_cons, runsX_cons, List.length_append, List.length_append]; omega
      · intro h hh
        rw [runsX_cons] at hh ⊢
        rcases List.mem_append.1 hh with hh | hh
        · exact ⟨h, List.mem_append_left _ hh, Int.le_refl _⟩
        · obtain ⟨h', m1, m2⟩ := p4 h hh
          exact ⟨h', List.mem_append_right _ m1, m2⟩
theorem sortE_unique {l S : List Ext} {a n : Int} (hp : S.Perm l) (ht : Tidy a S n) : sortE l = S := by
  have h1 : (sortE l).Perm S := (sortE_perm l).trans hp.symm
  have hs := tidy_strict ht
  refine List.Perm.eq_of_pairwise (le := fun x y : Ext => x.1 ≤ y.1) (fun x y hx hy h h' => ?_) (sortE_sorted l) (hs.imp fun h => Int.le_of_lt h) h1
  have hx' : x ∈ S := h1.mem_iff.1 hx
  obtain ⟨i, hi, rfl⟩ := List.getElem_of_mem hx'
  obtain ⟨j, hj, rfl⟩ := List.getElem_of_mem hy
  rw [List.pairwise_iff_getElem] at hs
  rcases Nat.lt_trichotomy i j with hij | rfl | hij
  · have := hs i j hi hj hij; omega
  · rfl
  · have := hs j i hj hi hij; omega
theorem bestX_snoc (size : Int) (H : List Ext) (x : Ext) : bestX size (H ++ [x]) = if size ≤ x.2 ∧ ((bestX size H).2 = 0 ∨ x.2 < (bestX size H).2) then x else bestX size H := by
  unfold bestX; rw [List.foldl_append]; rfl
theorem snocE {p : List Ext → Prop} (h0 : p []) (h1 : ∀ L x, p L → p (L ++ [x])) (L : List Ext) : p L := by
  rw [← List.reverse_reverse L]
  induction L.reverse with
  | nil => exact h0
  | cons x L ih => rw [List.reverse_cons]; exact h1 _ _ ih
theorem best_inv (size : Int) (h1 : 1 ≤ size) (H : List Ext) : (bestX size H = (0, 0) ∧ ∀ h ∈ H, h.2 < size) ∨ (bestX size H ∈ H ∧ size ≤ (bestX size H).2 ∧ ∀ h ∈ H, size ≤ h.2 → (bestX size H).2 ≤ h.2) := by
  induction H using snocE with
  | h0 => exact .inl ⟨rfl, fun h hh => by cases hh⟩
  | h1 L x ih =>
    rw [bestX_snoc]
    rcases ih with ⟨e, hall⟩ | ⟨hm, hs, hall⟩
    · rw [e]
      by_cases hx : size ≤ x.2
      · rw [if_pos ⟨hx, .inl rfl⟩]
        refine .inr ⟨by simp, hx, fun h hh hsz => ?_⟩
        rcases List.mem_append.1 hh with hh | hh
        · have := hall h hh; omega
        · rw [List.mem_singleton.1 hh]; exact Int.le_refl _
      · rw [if_neg (fun h => hx h.1)]
        refine .inl ⟨rfl, fun h hh => ?_⟩
        rcases List.mem_append.1 hh with hh | hh
        · exact hall h hh
        · rw [List.mem_singleton.1 hh]; omega
    · by_cases hx : size ≤ x.2 ∧ ((bestX size L).2 = 0 ∨ x.2 < (bestX size L).2)
      · rw [if_pos hx]
        refine .inr ⟨by simp, hx.1, fun h hh hsz => ?_⟩
        rcases List.mem_append.1 hh with hh | hh
        · have := hall h hh hsz; omega
        · rw [List.mem_singleton.1 hh]; exact Int.le_refl _
      · rw [if_neg hx]
        refine .inr ⟨List.mem_append_left _ hm, hs, fun h hh hsz => ?_⟩
        rcases List.mem_append.1 hh with hh | hh
        · exact hall h hh hsz
        · rw [List.mem_singleton.1 hh] at hsz ⊢; omega
section
variable {n : Int} {l : List Ext}
theorem holes_runs (n : Int) (l : List Ext) : holesX n l = runsX 0 (sortE l) n := rfl
theorem holes_mem (h : chkX n l = 0) : ∀ x ∈ holesX n l, 0 ≤ x.1 ∧ 1 ≤ x.2 ∧ x.1 + x.2 ≤ n ∧ ∀ e ∈ l, x.1 + x.2 ≤ e.1 ∨ e.1 + e.2 ≤ x.1 := fun x hx => by
  obtain ⟨i1, i2, i3, i4⟩ := runs_mem (tidy_of h) x hx
  exact ⟨i1, i2, i3, fun e he => i4 e ((sortE_perm l).mem_iff.2 he)⟩
theorem holds_sum (h : chkX n l = 0) : sumX l + sumX (holesX n l) = n := by
  have h1 := runs_sum (tidy_of h)
  rw [sumX_perm (sortE_perm l)] at h1
  rw [holes_runs]; omega
theorem holds_bad (h : chkX n l = 0) : ∀ e ∈ l, badX n e = false := fun e he => by
  obtain ⟨_, _, _, _, h5⟩ := chkX_ok h
  obtain ⟨j, hj, rfl⟩ := List.getElem_of_mem he
  exact (h5 j hj).1
theorem holds_chk (h : chkX n l = 0) (hl : (l ++ holesX n l).length ≤ 200) : chkX n (l ++ holesX n l) = 0 := by
  obtain ⟨h0, h1, _, _, _⟩ := chkX_ok h
  have hm := holes_mem h
  refine chkX_of h0 h1 hl (fun e he => ?_) ?_
  · rcases List.mem_append.1 he with he | he
    · exact holds_bad h e he
    · have := hm e he; exact badX_of (by omega)
  · rw [List.pairwise_append]
    refine ⟨chkX_pair h, (runs_pair (tidy_of h)).imp fun hxy => hitX_false.2 (.inr hxy), fun e he x hx => ?_⟩
    have := (hm x hx).2.2.2 e he
    exact hitX_false.2 (by omega)
theorem more_chk (h : chkX n l = 0) {at_ L size : Int} (hm : (at_, L) ∈ holesX n l) (h1 : 1 ≤ size) (h2 : size ≤ L) (hl : l.length + 1 ≤ 200) : chkX n (l ++ [(at_, size)]) = 0 ∧ chkX n ((at_, size) :: l) = 0 := by
  obtain ⟨o0, o1, _, _, _⟩ := chkX_ok h
  obtain ⟨m1, m2, m3, m4⟩ := holes_mem h _ hm
  dsimp only at m1 m2 m3 m4
  have hb : ∀ e ∈ (at_, size) :: l, badX n e = false := fun e he => by
    rcases List.mem_cons.1 he with rfl | he
    · exact badX_of (by dsimp only; omega)
    · exact holds_bad h e he
  have hx : ∀ e ∈ l, hitX (at_, size) e = false := fun e he => hitX_false.2 (by have := m4 e he; dsimp only; omega)
  constructor
  · refine chkX_of o0 o1 (by simp; omega) (fun e he => hb e (by simp at he ⊢; rcases he with h | h; exact .inr h; exact .inl h)) ?_
    rw [List.pairwise_append]
    refine ⟨chkX_pair h, by simp, fun e he x hx' => ?_⟩
    rw [List.mem_singleton.1 hx', hitX_symm]
    exact hx e he
  · refine chkX_of o0 o1 (by simp; omega) hb ?_
    exact List.Pairwise.cons hx (chkX_pair h)
theorem fit_none (h : chkX n l = 0) {size : Int} (hf : fitE n l size ≠ 0) : ∀ x ∈ holesX n l, 1 ≤ size → x.2 < size := fun x hx hs => by
  obtain ⟨o0, o1, _, _, _⟩ := chkX_ok h
  have hm := holes_mem h x hx
  unfold fitE at hf
  rw [if_pos h] at hf
  by_cases h1 : size < 1 ∨ 6400 < size
  · omega
  · rw [if_neg h1] at hf
    rcases best_inv size hs (holesX n l) with ⟨e, hall⟩ | ⟨_, h2, _⟩
    · exact hall x hx
    · rw [if_neg (by omega)] at hf; exact absurd rfl hf
theorem fit_some (h : chkX n l = 0) {size : Int} (hf : fitE n l size = 0) : ∃ L, (fitA n l size, L) ∈ holesX n l ∧ 1 ≤ size ∧ size ≤ L ∧ (∀ x ∈ holesX n l, size ≤ x.2 → L ≤ x.2) ∧ (∀ x ∈ holesX n l, x.1 = fitA n l size → x.2 = L) := by
  have hA : fitA n l size = (bestX size (holesX n l)).1 := by unfold fitA; rw [if_pos hf]
  unfold fitE at hf
  rw [if_pos h] at hf
  by_cases h1 : size < 1 ∨ 6400 < size
  · rw [if_pos h1] at hf; cases hf
  · rw [if_neg h1] at hf
    have hs : 1 ≤ size := by omega
    rcases best_inv size hs (holesX n l) with ⟨e, _⟩ | ⟨hm, h2, h3⟩
    · rw [e] at hf; cases hf
    · refine ⟨(bestX size (holesX n l)).2, by rw [hA]; exact hm, hs, h2, h3, fun x hx hxa => ?_⟩
      rw [hA] at hxa
      have hp := runs_pair (tidy_of h)
      rw [← holes_runs, List.pairwise_iff_getElem] at hp
      obtain ⟨i, hi, rfl⟩ := List.getElem_of_mem hx
      obtain ⟨j, hj, hjb⟩ := List.getElem_of_mem hm
      rw [← hjb] at hxa ⊢
      have pi := holes_mem h _ (List.getElem_mem hi)
      have pj := holes_mem h _ (List.getElem_mem hj)
      rcases Nat.lt_trichotomy i j with hij | rfl | hij
      · have := hp i j hi hj hij; omega
      · rfl
      · have := hp j i hj hi hij; omega
theorem mostX_snoc (H : List Ext) (x : Ext) : mostX (H ++ [x]) = max (mostX H) x.2 := by
  unfold mostX; rw [List.foldl_append]; rfl
theorem mostX_mem (H : List Ext) : 0 ≤ mostX H ∧ (∀ x ∈ H, x.2 ≤ mostX H) ∧ ∀ M, 0 ≤ M → (∀ x ∈ H, x.2 ≤ M) → mostX H ≤ M := by
  induction H using snocE with
  | h0 => exact ⟨Int.le_refl _, fun x hx => (by cases hx), fun M hM _ => hM⟩
  | h1 L x ih =>
    obtain ⟨i0, i1, i2⟩ := ih
    rw [mostX_snoc]
    refine ⟨by omega, fun y hy => ?_, fun M hM hall => ?_⟩
    · rcases List.mem_append.1 hy with hy | hy
      · have := i1 y hy; omega
      · rw [List.mem_singleton.1 hy]; omega
    · have := i2 M hM (fun y hy => hall y (List.mem_append_left _ hy))
      have := hall x (by simp)
      omega
theorem sum_mem {H : List Ext} (hp : ∀ x ∈ H, 0 ≤ x.2) : 0 ≤ sumX H ∧ ∀ x ∈ H, x.2 ≤ sumX H := by
  induction H with
  | nil => exact ⟨Int.le_refl _, fun x hx => by cases hx⟩
  | cons y r ih =>
    obtain ⟨i0, i1⟩ := ih (fun x hx => hp x (List.mem_cons_of_mem _ hx))
    have := hp y (List.mem_cons_self ..)
    rw [sumX_cons]
    refine ⟨by omega, fun x hx => ?_⟩
    rcases List.mem_cons.1 hx with rfl | hx
    · omega
    · have := i1 x hx; omega
/-- what is most is free -/
theorem most_free (h : chkX n l = 0) : mostX (holesX n l) ≤ n - sumX l := by
  have hs := holds_sum h
  have hm := sum_mem (H := holesX n l) (fun x hx => by have := holes_mem h x hx; omega)
  exact (mostX_mem _).2.2 _ (by omega) (fun x hx => by have := hm.2 x hx; omega)
theorem fit_most (h : chkX n l = 0) {size : Int} (hf : fitE n l size ≠ 0) : size < 1 ∨ mostX (holesX n l) < size := by
  by_cases h1 : size < 1
  · exact .inl h1
  · right
    have := (mostX_mem (holesX n l)).2.2 (size - 1) (by omega) (fun x hx => by have := fit_none h hf x hx (by omega); omega)
    omega
theorem more_stat (h : chkX n l = 0) {at_ L size : Int} (hm : (at_, L) ∈ holesX n l) (h1 : 1 ≤ size) (h2 : size ≤ L) :
    mostX (holesX n ((at_, size) :: l)) ≤ mostX (holesX n l) ∧ (holesX n ((at_, size) :: l)).length ≤ (holesX n l).length ∧ sumX ((at_, size) :: l) = size + sumX l := by
  obtain ⟨S', p1, p2, p3, p4⟩ := runs_insert (tidy_of h) hm h1 h2
  have hu : sortE ((at_, size) :: l) = S' := sortE_unique (p1.trans (List.Perm.cons _ (sortE_perm l))) p2
  rw [holes_runs n (_ :: l), hu]
  refine ⟨(mostX_mem _).2.2 _ (mostX_mem _).1 (fun x hx => ?_), p3, sumX_cons _ _⟩
  obtain ⟨x', m1, m2⟩ := p4 x hx
  have := (mostX_mem (holesX n l)).2.1 x' m1
  omega
end
end Go.Proofs.YtcahgmnkphmnhaaGreat
/- The heap: Alloc. -/
namespace Go.Proofs.YtcahgmnkphmnhaaGreat
open Go.RowKit

section
variable {w0 w : World} {F : Nat → Prop} {h : Nat} {l : Bytes}
/-- a heap's image, for a walk that writes into it -/
theorem Hp.rowW (hp : Hp w0 w F h l) : ∃ g cap cur, w.cell? ⟨h, 0, none⟩ = some (.slice (some ⟨g, 0, none⟩) l.length cap) ∧ w.heap[g]? = some (.cells cur 5 (0, 0)) ∧ cur.size = cap ∧ l.length ≤ cap ∧ cap ≤ maxLen ∧ Row w 5 g cap l ∧ F g ∧
    ∀ o (bs : Bytes), o + bs.length ≤ l.length → Hp w0 (w.setRow g (setB cur o (bs.map bv))) F h (splice l o bs) ∧ Keep F w (w.setRow g (setB cur o (bs.map bv))) := by
  obtain ⟨g, cap, h1, h2, h3⟩ := hp.hd
  have h2' := h2
  obtain ⟨cur, e1, e2, e3, e4, e5⟩ := h2'
  have hne : h ≠ g := ne_row h1 h2 (by decide)
  refine ⟨g, cap, cur, by simp [World.cell?, h1], e1, e4, e2, e3, h2, h3, fun o bs hb => ?_⟩
  have hl := splice_len l bs o hb
  have hsz : (w.setRow g (setB cur o (bs.map bv))).heap.size = w.heap.size := by simp [World.setRow]
  have hk : Keep F w (w.setRow g (setB cur o (bs.map bv))) := ⟨rfl, rfl, rfl, Nat.le_of_eq hsz.symm, fun k _ hn => setRow_other w g _ _ (fun e => hn (e ▸ h3))⟩
  refine ⟨⟨⟨g, cap, by rw [hl]; exact (setRow_other w g _ _ hne).trans h1, h2.set_ o bs hb cur e1, h3⟩, hp.fh, by rw [hl]; exact hp.len, hp.new, fun k hk' => by rw [hsz]; exact hp.flt k hk', hkeep_below hp.bel hk hp.new⟩, hk⟩
end
/-- the first handle that is free (0: none), of the last j -/
def fH (l : Bytes) : Nat → Nat
  | 0 => 0
  | j + 1 => if hasE (rawE l (39 - j)) = true then fH l j else 40 - j
theorem fH_le (l : Bytes) : ∀ j, j ≤ 40 → fH l j ≤ 40
  | 0, _ => by simp [fH]
  | j + 1, hj => by
    unfold fH; split
    · exact fH_le l j (by omega)
    · omega
theorem fH_spec (l : Bytes) : ∀ j, j ≤ 40 → (fH l j = 0 ∧ ∀ k, 40 - j ≤ k → k < 40 → hasE (rawE l k) = true) ∨ (∃ k, 40 - j ≤ k ∧ k < 40 ∧ fH l j = k + 1 ∧ hasE (rawE l k) = false ∧ ∀ i, 40 - j ≤ i → i < k → hasE (rawE l i) = true)
  | 0, _ => .inl ⟨rfl, fun k h1 h2 => by omega⟩
  | j + 1, hj => by
    cases hh : hasE (rawE l (39 - j)) with
    | true =>
      have e : fH l (j + 1) = fH l j := by simp [fH, hh]
      rw [e]
      rcases fH_spec l j (by omega) with ⟨h0, hall⟩ | ⟨k, k1, k2, k3, k4, k5⟩
      · refine .inl ⟨h0, fun k h1 h2 => ?_⟩
        by_cases hk : k = 39 - j
        · rw [hk]; exact hh
        · exact hall k (by omega) h2
      · refine .inr ⟨k, by omega, k2, k3, k4, fun i h1 h2 => ?_⟩
        by_cases hi : i = 39 - j
        · rw [hi]; exact hh
        · exact k5 i (by omega) h2
    | false =>
      have e : fH l (j + 1) = 40 - j := by simp [fH, hh]
      exact .inr ⟨39 - j, by omega, by omega, by omega, hh, fun i h1 h2 => by omega⟩
/-- the fault of Alloc; where; the handle; the image behind it -/
def allocE (l : Bytes) (n t : Int) : Nat := if lenB n = false ∨ tagB t = false then 1 else if fH l 40 = 0 ∨ fitE ((l.length : Int) - 288) (takenL l) n ≠ 0 then 4 else 0
def allocA (l : Bytes) (n : Int) : Int := fitA ((l.length : Int) - 288) (takenL l) n + 288
def allocH (l : Bytes) (n t : Int) : Int := if allocE l n t = 0 then fH l 40 else 0
def allocL (l : Bytes) (n t : Int) : Bytes := if allocE l n t = 0 then splice (putEnt l (fH l 40) (allocA l n) n t) (allocA l n).toNat (List.replicate n.toNat 0) else l
theorem alloc_in {l : Bytes} {n : Int} (h : fitE ((l.length : Int) - 288) (takenL l) n = 0) : 288 ≤ allocA l n ∧ allocA l n + n ≤ l.length := by
  have hc : chkX ((l.length : Int) - 288) (takenL l) = 0 := by
    unfold fitE at h
    by_cases hc : chkX ((l.length : Int) - 288) (takenL l) = 0
    · exact hc
    · rw [if_neg hc] at h; exact absurd h hc
  obtain ⟨L, m1, m2, m3, _, _⟩ := fit_some hc h
  have := holes_mem hc _ m1
  unfold allocA
  dsimp only at this
  omega
section
variable {w0 w : World} {F : Nat → Prop} {h : Nat} {l : Bytes}
theorem halloc_e1 (n t : Int) (_hp : Hp w0 w F h l) (hbad : lenB n = false ∨ tagB t = false) :
    Calls Tryz.prog 14 #[.pointer (some ⟨h, 0, none⟩), .int .i64 n, .int .i64 t] w fun e w' => e = .returned (.tuple #[.int .i64 0, .iface 88 (.int .i64 1)]) ∧ w = w' := by
  cases h1 : lenB n with
  | false =>
    clear hbad
    go_enter Tryz.func14, Tryz.ntmps14
    go_wp2_with fail
    refine (len_any _ _).mono ?_
    rintro e w' ⟨rfl, rfl⟩
    rw [h1]
    go_wp2_with fail
    go_ret2
    exact ⟨rfl, rfl⟩
  | true =>
    have h2 : tagB t = false := by simpa [h1] using hbad
    clear hbad
    go_enter Tryz.func14, Tryz.ntmps14
    go_wp2_with fail
    refine (len_any _ _).mono ?_
    rintro e w' ⟨rfl, rfl⟩
    rw [h1]
    go_wp2_with fail
    refine (tag_any _ _).mono ?_
    rintro e w' ⟨rfl, rfl⟩
    rw [h2]
    go_wp2_with fail
    go_ret2
    exact ⟨rfl, rfl⟩
set_option maxRecDepth 100000 in
theorem halloc_go (n t : Int) (hp : Hp w0 w F h l) (h1 : lenB n = true) (h2 : tagB t = true) :
    Calls Tryz.prog 14 #[.pointer (some ⟨h, 0, none⟩), .int .i64 n, .int .i64 t] w fun e w' => e = .returned (.tuple #[.int .i64 (allocH l n t), errV (allocE l n t)]) ∧ ∃ F', HpM w0 w w' F F' h (allocL l n t) := by
  have hb := rightB_true.1 hp.len
  have hnb := lenB_true.1 h1
  have HP := Hidden.mk hp
  have HG : Hidden (∀ (j : Nat), j < 40 → ∀ W, Hp w0 W F h l → ∃ g cap, W.cell? ⟨h, 0, none⟩ = some (.slice (some ⟨g, 0, none⟩) l.length cap) ∧ Calls Tryz.prog 49 #[.slice (some ⟨g, 0, none⟩) l.length cap, .int .i64 ((39 - j : Nat) + 1 : Int)] W fun e w' => ∃ a b c d : Int, e = .returned (.tuple #[.agg #[.int .i64 a, .int .i64 b, .int .i64 c, .int .i64 d], errV (if hasE (rawE l (39 - j)) = true then 0 else 5)]) ∧ Below W.heap.size W w') := ⟨fun j hj W hW => by
    obtain ⟨g, cap, c0, hcap, hrow, _⟩ := hW.open_
    refine ⟨g, cap, c0, (iget_ans (some ⟨g, 0, none⟩) l.length cap l _ W rfl hW.len hcap hrow.rd).mono ?_⟩
    rintro e w' ⟨rfl, hb'⟩
    have e : hE l ((39 - j : Nat) + 1 : Int) = if hasE (rawE l (39 - j)) = true then 0 else 5 := by
      cases hh : hasE (rawE l (39 - j)) with
      | true => rw [(hE_has (by omega) hh).1]; rfl
      | false => rw [hE_hasnt (by omega) hh]; rfl
    rw [e]
    exact ⟨_, _, _, _, rfl, hb'⟩⟩
  have HE : Hidden (allocE l n t = if fH l 40 = 0 ∨ fitE ((l.length : Int) - 288) (takenL l) n ≠ 0 then 4 else 0) := ⟨by unfold allocE; rw [if_neg (by simp [h1, h2])]⟩
  have HH : Hidden (allocH l n t = if allocE l n t = 0 then (fH l 40 : Int) else 0) := ⟨rfl⟩
  have HL : Hidden (allocL l n t = if allocE l n t = 0 then splice (putEnt l (fH l 40) (allocA l n) n t) (allocA l n).toNat (List.replicate n.toNat 0) else l) := ⟨rfl⟩
  clear hp
  go_enter Tryz.func14, Tryz.ntmps14
  go_wp2_with fail
  refine (len_any _ _).mono ?_
  rintro e w' ⟨rfl, rfl⟩
  rw [h1]
  go_wp2_with fail
  refine (tag_any _ _).mono ?_
  rintro e w' ⟨rfl, rfl⟩
  rw [h2]
  go_wp2_with fail
  go_loopg [8, 9] 40 (fun q v i wr => ∃ j : Nat, j ≤ 40 ∧ q = 40 - j ∧ i = .int .i64 (40 - (j : Int)) ∧ v = .int .i64 (fH l j : Int) ∧ Hidden (Below w.heap.size w wr))
  case atStart => exact ⟨0, by omega, rfl, rfl, rfl, ⟨Below.refl _ _⟩⟩
  case round =>
    obtain ⟨j, hj, rfl, rfl, rfl, hst⟩ := hrel
    by_cases hlt : j < 40
    · obtain ⟨g, cap, y0, hget⟩ := HG.out j hlt wr (HP.out.below hst.out)
      have e1 : ((39 - j : Nat) + 1 : Int) = 40 - (j : Int) := by omega
      rw [e1] at hget
      have HGT := Hidden.mk hget
      have HS : Hidden (fH l (j + 1) = if hasE (rawE l (39 - j)) = true then fH l j else 40 - j) := ⟨rfl⟩
      have t0 : decide (1 ≤ 40 - (j : Int)) = true := by simp; omega
      have s1 : IntKind.i64.wrap (40 - (j : Int) - 1) = 40 - ((j + 1 : Nat) : Int) := by rw [IntWalk.i64_in _ (by omega)]; omega
      generalize fH l j = fj at *
      clear hget e1
      go_wp2_with fail
      refine HGT.out.mono ?_
      rintro e w1 ⟨a, b, c, d, rfl, hb1⟩
      have hB1 := hst.out.trans (hb1.mono hst.out.size)
      have HB := Hidden.mk (hB1.alloc hB1.size (.cells #[.int .i64 a, .int .i64 b, .int .i64 c, .int .i64 d] 97))
      clear hb1 hB1 hst HGT
      cases hh : hasE (rawE l (39 - j)) with
      | true =>
        rw [if_pos rfl]
        have HS2 : Hidden (fH l (j + 1) = fj) := ⟨by rw [HS.out, if_pos hh]⟩
        rw [show errV 0 = Value.nilIface from rfl]
        clear hh HS
        go_wp2_with fail
        go_roundg (40 - (j + 1))
        case measure => omega
        case rel => exact ⟨j + 1, by omega, rfl, rfl, by rw [HS2.out], HB⟩
      | false =>
        rw [if_neg (by decide)]
        have HS2 : Hidden (fH l (j + 1) = 40 - j) := ⟨by rw [HS.out, if_neg (by rw [hh]; decide)]⟩
        rw [show errV 5 = .iface 88 (.int .i64 5) from rfl]
        clear hh HS
        go_wp2_with fail
        go_roundg (40 - (j + 1))
        case measure => omega
        case rel => exact ⟨j + 1, by omega, rfl, rfl, by rw [HS2.out]; congr 1; omega, HB⟩
    · obtain rfl : j = 40 := by omega
      have HP2 := Hidden.mk (HP.out.below hst.out)
      have HT := Hidden.mk (htaken_any HP2.out)
      have t0 : decide (1 ≤ 40 - ((40 : Nat) : Int)) = false := by decide
      have hfl := fH_le l 40 (Nat.le_refl _)
      have HW1 := Hidden.mk hst.out
      clear hst HG
      go_wp2_with fail
      refine HT.out.mono ?_
      rintro e w1 ⟨A, m, c, rfl, hm, hmc, hrx, hb1⟩
      have HW2 := Hidden.mk (HW1.out.trans (hb1.mono HW1.out.size))
      have HF := Hidden.mk (xfit_any ((l.length : Int) - 288) A m c (takenL l) n w1 hm hmc hrx)
      clear hb1 hrx HT HW1 HP2 t0
      have HIN : Hidden (fitE ((l.length : Int) - 288) (takenL l) n = 0 → 288 ≤ allocA l n ∧ allocA l n + n ≤ l.length) := ⟨alloc_in⟩
      have HAD : Hidden (allocA l n = fitA ((l.length : Int) - 288) (takenL l) n + 288) := ⟨rfl⟩
      generalize fitE ((l.length : Int) - 288) (takenL l) n = fe at *
      generalize fitA ((l.length : Int) - 288) (takenL l) n = fa at *
      generalize allocA l n = aa at *
      generalize fH l 40 = fh at *
      go_wp2_with fail
      refine HF.out.mono ?_
      rintro e w2 ⟨rfl, hb2⟩
      have HW3 := Hidden.mk (HW2.out.trans (hb2.mono HW2.out.size))
      clear hb2 HF HW2
      by_cases hz : fh = 0
      · have hae : allocE l n t = 4 := by rw [HE.out, if_pos (.inl hz)]
        have HAH : Hidden (allocE l n t = 4 ∧ allocH l n t = 0 ∧ allocL l n t = l) := ⟨hae, by rw [HH.out, hae]; rfl, by rw [HL.out, hae]; rfl⟩
        clear hae
        subst hz
        have HFIN := Hidden.mk (HP.out.same HW3.out)
        generalize errV fe = ev at *
        clear HE HH HL
        go_wp2_with fail
        go_ret2
        exact ⟨by rw [HAH.out.1, HAH.out.2.1]; rfl, _, by rw [HAH.out.2.2]; exact HFIN.out⟩
      · by_cases hfe : fe = 0
        · have hae : allocE l n t = 0 := by rw [HE.out, if_neg (by omega)]
          have hah : allocH l n t = fh := by rw [HH.out, hae]; rfl
          have hin := HIN.out hfe
          rw [hfe, show errV 0 = Value.nilIface from rfl]
          have t1 : (fh == 0) = false := by simpa using hz
          have t2 : ((fh : Int) == 0) = false := by simpa using hz
          have s1 : IntKind.i64.wrap (fa + 288) = aa := by rw [HAD.out, IntWalk.i64_in _ (by have := HAD.out; omega)]
          have HLL : Hidden (allocL l n t = splice (putEnt l fh aa n t) aa.toNat (List.replicate n.toNat 0)) := ⟨by rw [HL.out, hae]; rfl⟩
          have HAH := Hidden.mk (And.intro hae hah)
          clear hae hah
          obtain ⟨a, rfl⟩ := Int.eq_ofNat_of_zero_le (show 0 ≤ aa by omega)
          obtain ⟨nn, rfl⟩ := Int.eq_ofNat_of_zero_le (show 0 ≤ n by omega)
          have hal : allocL l nn t = splice (putEnt l fh a nn t) a (List.replicate nn 0) := HLL.out
          have hwb : withinB l.length (a : Int) (nn : Int) = true := withinB_true.2 (by omega)
          have hal1 : Below w2.heap.size w2 (w2.alloc (.cells #[.int .i64 fh, .int .i64 a, .int .i64 nn, .int .i64 t] 97)) := (Below.refl _ _).alloc (Nat.le_refl _) _
          have hp3 := HP.out.below (HW3.out.trans (hal1.mono HW3.out.size))
          have HPUT := Hidden.mk (fun (W : World) (hW : Hp w0 W F h l) => hput_ok (fh : Int) (a : Int) (nn : Int) t hW (handleB_true.2 (by omega)) h2 h1 hwb)
          have hpl : (putEnt l fh a nn t).length = l.length := putEnt_len l fh a nn t (by omega) (by omega) (by omega)
          have HPL := Hidden.mk hpl
          have HALL := Hidden.mk hal
          have hf := fourAt_one w2 fh a nn t 97
          have HW4 := Hidden.mk (HW3.out.trans (hal1.mono HW3.out.size))
          have HP4 := Hidden.mk hp3
          generalize putEnt l fh a nn t = l1 at *
          clear hal hal1 hp3 hwb hpl HE HH HL HIN HAD hfe hz HLL
          go_wp2_with fail
          generalize w2.alloc (.cells #[.int .i64 fh, .int .i64 a, .int .i64 nn, .int .i64 t] 97) = w3 at *
          refine (HPUT.out _ HP4.out).mono ?_
          rintro e w4 ⟨rfl, F4, hm4⟩
          obtain ⟨f0, f1, f2, f3⟩ := hf
          have hfl4 : w2.heap.size < w3.heap.size := block_lt_of_cell f0
          have hno : ¬ F w2.heap.size := fun hk => by have := HP.out.flt _ hk; have := HW3.out.size; omega
          have hk4 := hm4.kp.block _ hfl4 hno
          have g0 := (World.cell?_of_block (w := w3) (a := ⟨w2.heap.size, 0, none⟩) hk4).trans f0
          have g1 := (World.cell?_of_block (w := w3) (a := ⟨w2.heap.size, 1, none⟩) hk4).trans f1
          have g2 := (World.cell?_of_block (w := w3) (a := ⟨w2.heap.size, 2, none⟩) hk4).trans f2
          have g3 := (World.cell?_of_block (w := w3) (a := ⟨w2.heap.size, 3, none⟩) hk4).trans f3
          obtain ⟨gi, ci, cur4, y0, -, -, hci, -, -, -, -⟩ := hm4.hp.rowW
          rw [HPL.out] at y0 hci
          have HOF := Hidden.mk (hof_any (h := h) gi ci a nn fh t w4 ⟨_, y0⟩ (by omega) (by omega) (by omega))
          have HM := Hidden.mk (((HP.out.same HW4.out).trans hm4))
          have HY0 := Hidden.mk y0
          clear f0 f1 f2 f3 hfl4 hno hk4 hm4 HPUT
          go_wp2_with fail
          refine HOF.out.mono ?_
          rintro e w5 ⟨rfl, hb5⟩
          have hm5 := HM.out.trans (HM.out.hp.same hb5)
          obtain ⟨g5, c5, cur5, z0, z1, z2, z3, -, -, -, z4⟩ := hm5.hp.rowW
          have hyz := ((hb5.cell (p := ⟨h, 0, none⟩) (block_lt_of_cell HY0.out)).trans HY0.out).symm.trans z0
          have hyz := Option.some.inj hyz
          injection hyz with q1 q2 q3
          injection q1 with q1
          injection q1 with q1
          subst q1 q3
          rw [HPL.out] at z3
          have hclear := fun ty => run_clear_row w5 gi a nn (ci - a) cur5 _ z1 (by omega) (by omega) ty
          have hz4 := z4 a (List.replicate nn 0) (by rw [HPL.out]; simp; omega)
          have HFIN := Hidden.mk (hm5.trans (HpM.mk hz4.1 hz4.2 (fun k hk => .inl hk)))
          clear z0 z2 z3 z4 hz4 hm5 hb5 HOF HM HY0 y0 q2
          go_wp2_with fail
          go_ret2
          exact ⟨by rw [HAH.out.1, HAH.out.2]; rfl, _, by rw [HALL.out]; have hF := HFIN.out; rw [List.map_replicate] at hF; exact hF⟩
        · have hae : allocE l n t = 4 := by rw [HE.out, if_pos (.inr hfe)]
          have HAH : Hidden (allocE l n t = 4 ∧ allocH l n t = 0 ∧ allocL l n t = l) := ⟨hae, by rw [HH.out, hae]; rfl, by rw [HL.out, hae]; rfl⟩
          clear hae
          have hev : errV fe = .iface 88 (.int .i64 fe) := by unfold errV; rw [if_neg hfe]
          rw [hev]
          have t1 : (fh == 0) = false := by simpa using hz
          have t2 : ((fh : Int) == 0) = false := by simpa using hz
          have HFIN := Hidden.mk (HP.out.same HW3.out)
          clear HE HH HL hfe hz hev
          go_wp2_with fail
          go_ret2
          exact ⟨by rw [HAH.out.1, HAH.out.2.1]; rfl, _, by rw [HAH.out.2.2]; exact HFIN.out⟩
theorem halloc_any (n t : Int) (hp : Hp w0 w F h l) :
    Calls Tryz.prog 14 #[.pointer (some ⟨h, 0, none⟩), .int .i64 n, .int .i64 t] w fun e w' => e = .returned (.tuple #[.int .i64 (allocH l n t), errV (allocE l n t)]) ∧ ∃ F', HpM w0 w w' F F' h (allocL l n t) := by
  by_cases hbad : lenB n = false ∨ tagB t = false
  · have h1 : allocE l n t = 1 := by unfold allocE; rw [if_pos hbad]
    have h2 : allocH l n t = 0 := by unfold allocH; rw [h1]; rfl
    have h3 : allocL l n t = l := by unfold allocL; rw [h1]; rfl
    rw [h1, h2, h3]
    refine (halloc_e1 n t hp hbad).mono ?_
    rintro e w' ⟨rfl, rfl⟩
    exact ⟨rfl, F, hp.same (Below.refl _ _)⟩
  · exact halloc_go n t hp (by cases hx : lenB n <;> simp_all) (by cases hx : tagB t <;> simp_all)
end
end Go.Proofs.YtcahgmnkphmnhaaGreat
/- The heap: bytes of an object that are read, or written. -/
namespace Go.Proofs.YtcahgmnkphmnhaaGreat
open Go.RowKit

/-- the fault of some bytes of an object -/
def someE (l : Bytes) (x a n : Int) : Nat := if hE l x ≠ 0 then hE l x else if a < 0 ∨ n < 0 ∨ gL l x < a ∨ gL l x - a < n then 3 else 0
/-- the bytes; the image in which others stand there -/
def readL (l : Bytes) (x a n : Int) : Bytes := if someE l x a n = 0 then (l.drop (gA l x + a).toNat).take n.toNat else []
def writeL (l : Bytes) (x a : Int) (b : Bytes) : Bytes := if someE l x a b.length = 0 then splice l (gA l x + a).toNat b else l
theorem some_in {l : Bytes} (hg : Good l) {x a n : Int} (h : someE l x a n = 0) : hE l x = 0 ∧ 0 ≤ a ∧ 0 ≤ n ∧ a + n ≤ gL l x ∧ 288 ≤ gA l x ∧ 1 ≤ gL l x ∧ gL l x ≤ 1000 ∧ gA l x + gL l x ≤ l.length := by
  unfold someE at h
  by_cases h0 : hE l x = 0
  · rw [if_neg (by simp [h0])] at h
    have := good_in hg h0
    by_cases hb : a < 0 ∨ n < 0 ∨ gL l x < a ∨ gL l x - a < n
    · rw [if_pos hb] at h; cases h
    · omega
  · rw [if_pos h0] at h; exact absurd h h0
section
variable {w0 w : World} {F : Nat → Prop} {h : Nat} {l : Bytes}
set_option maxRecDepth 100000 in
theorem hsome_e (x a n : Int) (hp : Hp w0 w F h l) (hg : Good l) (he : someE l x a n ≠ 0) (hn : n ≤ 9223372036854775807) :
    Calls Tryz.prog 58 #[.pointer (some ⟨h, 0, none⟩), .int .i64 x, .int .i64 a, .int .i64 n] w fun e w' => e = .returned (.tuple #[.slice none 0 0, .iface 88 (.int .i64 (someE l x a n : Int))]) ∧ Below w.heap.size w w' := by
  have hb := rightB_true.1 hp.len
  obtain ⟨g, cap, c0, hcap, hrow, hF⟩ := hp.open_
  have hcm := hrow.le.2
  have HC := Hidden.mk (iget_ans (some ⟨g, 0, none⟩) l.length cap l x w rfl hp.len hcap hrow.rd)
  unfold entV at HC
  have HGI : Hidden (hE l x = 0 → 288 ≤ gA l x ∧ 1 ≤ gL l x ∧ gL l x ≤ 1000 ∧ gA l x + gL l x ≤ l.length) := ⟨fun h0 => by have := good_in hg h0; omega⟩
  have HE : Hidden (someE l x a n = if hE l x ≠ 0 then hE l x else if a < 0 ∨ n < 0 ∨ gL l x < a ∨ gL l x - a < n then 3 else 0) := ⟨rfl⟩
  clear hp hrow hg
  by_cases h0 : hE l x = 0
  · have hin := HGI.out h0
    have hbad : a < 0 ∨ n < 0 ∨ gL l x < a ∨ gL l x - a < n := by
      refine Classical.byContradiction fun hb' => he ?_
      rw [HE.out, if_neg (by simp [h0]), if_neg hb']
    have hE3 : someE l x a n = 3 := by rw [HE.out, if_neg (by simp [h0]), if_pos hbad]
    rw [hE3]
    rw [h0, show errV 0 = Value.nilIface from rfl] at HC
    generalize gH l x = a0 at *
    generalize gT l x = a3 at *
    obtain ⟨ea, hea⟩ := Int.eq_ofNat_of_zero_le (show 0 ≤ gA l x by omega)
    obtain ⟨el, hel⟩ := Int.eq_ofNat_of_zero_le (show 0 ≤ gL l x by omega)
    rw [hea, hel] at HC
    rw [hea, hel] at hin
    rw [hel] at hbad
    clear HE HGI hE3 he h0 hea hel
    go_enter Tryz.func58, Tryz.ntmps58
    go_wp2_with fail
    refine HC.out.mono ?_
    rintro e w1 ⟨rfl, hb1⟩
    have hal := (Below.refl w1.heap.size w1).alloc (Nat.le_refl _) (.cells #[.int .i64 a0, .int .i64 (ea : Int), .int .i64 (el : Int), .int .i64 a3] 97)
    have hB2 := hb1.trans (hal.mono hb1.size)
    have HB2 := Hidden.mk hB2
    have HOF := Hidden.mk (hof_any (h := h) g cap ea el a0 a3 (w1.alloc (.cells #[.int .i64 a0, .int .i64 (ea : Int), .int .i64 (el : Int), .int .i64 a3] 97)) ⟨_, (hB2.cell (p := ⟨h, 0, none⟩) (block_lt_of_cell c0)).trans c0⟩ (by omega) (by omega) (by omega))
    have hf := fourAt_one w1 a0 (ea : Int) (el : Int) a3 97
    obtain ⟨f0, f1, f2, f3⟩ := hf
    clear hal hB2 hb1 HC c0
    go_wp2_with fail
    refine HOF.out.mono ?_
    rintro e w2 ⟨rfl, hb2⟩
    have HB3 := Hidden.mk (HB2.out.trans (hb2.mono HB2.out.size))
    clear hb2 HB2 HOF f0 f1 f2 f3
    by_cases q1 : a < 0
    · have d1 : decide (a < 0) = true := by simpa using q1
      clear hbad q1
      go_wp2_with fail
      go_ret2
      exact ⟨rfl, HB3.out⟩
    have d1 : decide (a < 0) = false := by simpa using q1
    by_cases q2 : n < 0
    · have d2 : decide (n < 0) = true := by simpa using q2
      clear hbad q1 q2
      go_wp2_with fail
      go_ret2
      exact ⟨rfl, HB3.out⟩
    have d2 : decide (n < 0) = false := by simpa using q2
    by_cases q3 : (el : Int) < a
    · have d3 : decide ((el : Int) < a) = true := by simpa using q3
      clear hbad q1 q2 q3
      go_wp2_with fail
      go_ret2
      exact ⟨rfl, HB3.out⟩
    have d3 : decide ((el : Int) < a) = false := by simpa using q3
    have s1 : IntKind.i64.wrap ((el : Int) - a) = (el : Int) - a := IntWalk.i64_in _ (by omega)
    have d4 : decide ((el : Int) - a < n) = true := by simp; omega
    clear hbad q1 q2 q3
    go_wp2_with fail
    go_ret2
    exact ⟨rfl, HB3.out⟩
  · have hE1 : someE l x a n = hE l x := by rw [HE.out, if_pos h0]
    have hev : errV (hE l x) = .iface 88 (.int .i64 (hE l x : Int)) := by unfold errV; rw [if_neg h0]
    rw [hE1]
    rw [hev] at HC
    generalize (hE l x : Int) = q at *
    generalize gH l x = a0 at *
    generalize gA l x = a1 at *
    generalize gL l x = a2 at *
    generalize gT l x = a3 at *
    clear HE HGI hE1 hev he h0
    go_enter Tryz.func58, Tryz.ntmps58
    go_wp2_with fail
    refine HC.out.mono ?_
    rintro e w1 ⟨rfl, hb1⟩
    have HB := Hidden.mk (hb1.alloc hb1.size (.cells #[.int .i64 a0, .int .i64 a1, .int .i64 a2, .int .i64 a3] 97))
    clear hb1 HC
    go_wp2_with fail
    go_ret2
    exact ⟨rfl, HB.out⟩
set_option maxRecDepth 100000 in
theorem hsome_ok (x a n : Int) (g cap : Nat) (hp : Hp w0 w F h l) (hg : Good l) (he : someE l x a n = 0) (c0 : w.cell? ⟨h, 0, none⟩ = some (.slice (some ⟨g, 0, none⟩) l.length cap)) :
    Calls Tryz.prog 58 #[.pointer (some ⟨h, 0, none⟩), .int .i64 x, .int .i64 a, .int .i64 n] w fun e w' => ∃ o c', e = .returned (.tuple #[.slice (some ⟨g, o, none⟩) n.toNat c', .nilIface]) ∧ (0 < n.toNat → o = (gA l x + a).toNat) ∧ o ≤ cap ∧ n.toNat ≤ c' ∧ Below w.heap.size w w' := by
  have hb := rightB_true.1 hp.len
  obtain ⟨g', cap', c0', hcap, hrow, hF⟩ := hp.open_
  rw [c0] at c0'
  have hinj := Option.some.inj c0'
  injection hinj with q1 q2 q3
  injection q1 with q1
  injection q1 with q1
  subst q1 q3
  clear c0' q2
  have hcm := hrow.le.2
  have hin := some_in hg he
  have HC := Hidden.mk (iget_ans (some ⟨g, 0, none⟩) l.length cap l x w rfl hp.len hcap hrow.rd)
  unfold entV at HC
  rw [hin.1, show errV 0 = Value.nilIface from rfl] at HC
  generalize gH l x = a0 at *
  generalize gT l x = a3 at *
  obtain ⟨ea, hea⟩ := Int.eq_ofNat_of_zero_le (show 0 ≤ gA l x by omega)
  obtain ⟨el, hel⟩ := Int.eq_ofNat_of_zero_le (show 0 ≤ gL l x by omega)
  obtain ⟨aa, rfl⟩ := Int.eq_ofNat_of_zero_le (show 0 ≤ a by omega)
  obtain ⟨nn, rfl⟩ := Int.eq_ofNat_of_zero_le (show 0 ≤ n by omega)
  rw [hea, hel] at HC
  rw [hea, hel] at hin
  rw [hea, show ((ea : Int) + (aa : Int)).toNat = ea + aa by omega, Int.toNat_natCast]
  obtain ⟨-, -, -, h4, h5, h6, h7, h8⟩ := hin
  have hcut := run_cutA (some ⟨g, ea, none⟩) el (cap - ea) aa (aa + nn) (by omega) (by omega)
  rw [Nat.add_sub_cancel_left] at hcut
  have HO : ∃ o, (if cap - ea = aa then some (⟨g, ea, none⟩ : Addr) else (some (⟨g, ea, none⟩ : Addr)).map (·.add aa)) = some ⟨g, o, none⟩ ∧ (0 < nn → o = ea + aa) ∧ o ≤ cap := by
    by_cases hq : cap - ea = aa
    · exact ⟨ea, by rw [if_pos hq], fun h => by omega, by omega⟩
    · exact ⟨ea + aa, by rw [if_neg hq, Option.map_some, Addr.add_lit], fun _ => rfl, by omega⟩
  obtain ⟨o, ho, ho1, ho2⟩ := HO
  rw [ho] at hcut
  simp only [Int.natCast_add] at hcut
  have HOO := Hidden.mk (And.intro ho1 ho2)
  have d1 : decide ((aa : Int) < 0) = false := by simp
  have d2 : decide ((nn : Int) < 0) = false := by simp
  have d3 : decide ((el : Int) < (aa : Int)) = false := by simp; omega
  have d3' : decide (el < aa) = false := by simp; omega
  have s1 : IntKind.i64.wrap ((el : Int) - aa) = (el : Int) - aa := IntWalk.i64_in _ (by omega)
  have d4 : decide ((el : Int) - aa < (nn : Int)) = false := by simp; omega
  have s2 : IntKind.i64.wrap ((aa : Int) + nn) = (aa : Int) + nn := IntWalk.i64_in _ (by omega)
  have HCN : Hidden (nn ≤ cap - ea - aa) := ⟨by omega⟩
  have HBD : Hidden (ea + el ≤ cap ∧ 1 ≤ el ∧ ea + el ≤ 281474976710656) := ⟨by omega⟩
  clear hea hel h4 h5 h6 h7 h8 ho ho1 ho2 he hg hp hrow
  go_enter Tryz.func58, Tryz.ntmps58
  go_wp2_with fail
  refine HC.out.mono ?_
  rintro e w1 ⟨rfl, hb1⟩
  have hal := (Below.refl w1.heap.size w1).alloc (Nat.le_refl _) (.cells #[.int .i64 a0, .int .i64 (ea : Int), .int .i64 (el : Int), .int .i64 a3] 97)
  have hB2 := hb1.trans (hal.mono hb1.size)
  have HB2 := Hidden.mk hB2
  have HOF := Hidden.mk (hof_any (h := h) g cap ea el a0 a3 (w1.alloc (.cells #[.int .i64 a0, .int .i64 (ea : Int), .int .i64 (el : Int), .int .i64 a3] 97)) ⟨_, (hB2.cell (p := ⟨h, 0, none⟩) (block_lt_of_cell c0)).trans c0⟩ HBD.out.1 HBD.out.2.1 HBD.out.2.2)
  have hf := fourAt_one w1 a0 (ea : Int) (el : Int) a3 97
  obtain ⟨f0, f1, f2, f3⟩ := hf
  clear hal hB2 hb1 HC c0
  go_wp2_with fail
  refine HOF.out.mono ?_
  rintro e w2 ⟨rfl, hb2⟩
  have HB3 := Hidden.mk (HB2.out.trans (hb2.mono HB2.out.size))
  clear hb2 HB2 HOF f0 f1 f2 f3
  go_wp2_with fail
  go_ret2
  exact ⟨o, _, rfl, HOO.out.1, HOO.out.2, HCN.out, HB3.out⟩
theorem hread_any (x a n : Int) (hp : Hp w0 w F h l) (hg : Good l) (hn : n ≤ 9223372036854775807) :
    Calls Tryz.prog 112 #[.pointer (some ⟨h, 0, none⟩), .int .i64 x, .int .i64 a, .int .i64 n] w fun e w' => ∃ A' c', e = .returned (.tuple #[.slice A' (readL l x a n).length c', errV (someE l x a n)]) ∧ (readL l x a n).length ≤ c' ∧ Rd w' A' (readL l x a n) ∧ (∀ ad, A' = some ad → w.heap.size ≤ ad.block) ∧ Below w.heap.size w w' := by
  by_cases he : someE l x a n = 0
  · have hin := some_in hg he
    obtain ⟨g, cap, c0, hcap, hrow, hF⟩ := hp.open_
    have HC := Hidden.mk (hsome_ok x a n g cap hp hg he c0)
    have hL : readL l x a n = (l.drop (gA l x + a).toNat).take n.toNat := by unfold readL; rw [if_pos he]
    have hlen : (readL l x a n).length = n.toNat := by rw [hL]; simp; omega
    have hcut := hrow.rd.cut (gA l x + a).toNat n.toNat (by omega)
    rw [← hL, Option.map_some, Addr.add_lit, Nat.zero_add] at hcut
    have HCUT := Hidden.mk hcut
    have hle : n.toNat ≤ 140737488351232 := by omega
    rw [he, hlen, show errV 0 = Value.nilIface from rfl]
    have HLN := Hidden.mk hlen
    generalize readL l x a n = rl at *
    generalize (gA l x + a).toNat = oo at *
    clear hp hg hrow hcut hL hlen hin he c0
    go_enter Tryz.func112, Tryz.ntmps112
    go_wp2_with fail
    refine HC.out.mono ?_
    rintro e w1 ⟨o, c', rfl, ho, -, hc', hb1⟩
    have hr1 : Rd w1 (some ⟨g, o, none⟩) rl := by
      by_cases h0 : 0 < n.toNat
      · rw [ho h0]; exact HCUT.out.below hb1
      · have : rl = [] := List.eq_nil_of_length_eq_zero (by rw [HLN.out]; omega)
        rw [this]; exact Rd.nil_
    have HB1 := Hidden.mk hb1
    have HCL := Hidden.mk (clone_some ⟨g, o, none⟩ n.toNat c' rl w1 HLN.out hle hr1)
    clear hb1 hr1 ho hc' HC
    go_wp2_with fail
    refine HCL.out.mono ?_
    rintro e w2 ⟨g2, cap2, rfl, hg2, hrow2, hb2⟩
    have HF2 := Hidden.mk (And.intro hrow2.le.1 (And.intro hrow2.rd (HB1.out.trans (hb2.mono HB1.out.size))))
    have HG2 := Hidden.mk (Nat.le_trans HB1.out.size hg2)
    clear hb2 hrow2 HCL
    go_wp2_with fail
    go_ret2
    exact ⟨some ⟨g2, 0, none⟩, cap2, rfl, by have := HF2.out.1; rw [HLN.out] at this; exact this, HF2.out.2.1, fun ad hA => by have := Option.some.inj hA; subst this; exact HG2.out, HF2.out.2.2⟩
  · have HC := Hidden.mk (hsome_e x a n hp hg he hn)
    have hL : readL l x a n = [] := by unfold readL; rw [if_neg he]
    have hev : errV (someE l x a n) = .iface 88 (.int .i64 (someE l x a n : Int)) := by unfold errV; rw [if_neg he]
    rw [hL, hev, List.length_nil]
    generalize (someE l x a n : Int) = q at *
    clear hp hg hL hev he
    go_enter Tryz.func112, Tryz.ntmps112
    go_wp2_with fail
    refine HC.out.mono ?_
    rintro e w1 ⟨rfl, hb1⟩
    have HB := Hidden.mk hb1
    clear hb1
    go_wp2_with fail
    refine (clone_nil 0 0 _).mono ?_
    rintro e w2 ⟨rfl, rfl⟩
    go_wp2_with fail
    go_ret2
    exact ⟨none, 0, rfl, Nat.le_refl _, Rd.nil_, (fun ad hA => by cases hA), HB.out⟩
/-- copy into nothing -/
theorem run_copy_none (w : World) (n c : Nat) (A : Option Addr) (ty : TypeId) :
    (Builtin.copy_ #[22, 22] ty #[.slice none 0 0, .slice A n c]).run Tryz.prog w = .ok (.int .i64 0) w := by
  obtain ⟨i0, hi0, hz0, hz1, hz2⟩ := info_parts byte_info
  cases A <;> simp [Builtin.copy_, run_underlying Tryz.underlying22, Builtin.lenOf, Builtin.firstCells, sizeOf, typeInfo, hi0, goInt, loadCells, loadCellsFrom]
theorem hwrite_any (x a : Int) (A : Option Addr) (n c : Nat) (b : Bytes) (hp : Hp w0 w F h l) (hg : Good l) (hn : b.length = n) (hn2 : n ≤ 140737488351232) (hrd : Rd w A b) :
    Calls Tryz.prog 16 #[.pointer (some ⟨h, 0, none⟩), .int .i64 x, .int .i64 a, .slice A n c] w fun e w' => e = .returned (errV (someE l x a n)) ∧ HpM w0 w w' F F h (writeL l x a b) := by
  by_cases he : someE l x a n = 0
  · have hin := some_in hg he
    obtain ⟨g, cap, cur, c0, hcur, hcs, hcap, hcm, hrow, hF, hst⟩ := hp.rowW
    have HC := Hidden.mk (hsome_ok x a n g cap hp hg he c0)
    rw [Int.toNat_natCast] at HC
    have hL : writeL l x a b = splice l (gA l x + a).toNat b := by unfold writeL; rw [hn, if_pos he]
    rw [he, hL, show errV 0 = Value.nilIface from rfl]
    have HP := Hidden.mk hp
    have HRD := Hidden.mk hrd
    have HN := Hidden.mk hn
    have hfit : (gA l x + a).toNat + n ≤ l.length := by omega
    generalize (gA l x + a).toNat = oo at *
    clear hg hrow hL hin he hst hp hrd hn hcur hcs
    go_enter Tryz.func16, Tryz.ntmps16
    go_wp2_with fail
    refine HC.out.mono ?_
    rintro e w1 ⟨o, c', rfl, ho, ho2, hc', hb1⟩
    have hp1 := HP.out.below hb1
    obtain ⟨g1, cap1, cur1, z0, z1, z2, z3, -, -, -, z4⟩ := hp1.rowW
    have hyz := Option.some.inj (((hb1.cell (p := ⟨h, 0, none⟩) (block_lt_of_cell c0)).trans c0).symm.trans z0)
    injection hyz with q1 q2 q3
    injection q1 with q1
    injection q1 with q1
    subst q1 q3
    have hcp := fun ty => run_copy_rd w1 g o n c' n c n A b cur1 _ z1 HN.out (HRD.out.below hb1) (by simp) (by
      by_cases h0 : 0 < n
      · rw [ho h0]; omega
      · omega) ty
    have HFIN : Hidden (HpM w0 w (w1.setRow g (setB cur1 o ((b.take n).map bv))) F F h (splice l oo b)) := ⟨by
      have hbt : b.take n = b := List.take_of_length_le (by rw [HN.out]; omega)
      rw [hbt]
      by_cases h0 : 0 < n
      · rw [ho h0]
        have := z4 oo b (by rw [HN.out]; omega)
        exact (HP.out.same hb1).trans ⟨this.1, this.2, fun k hk => .inl hk⟩
      · have hbn : b = [] := List.eq_nil_of_length_eq_zero (by rw [HN.out]; omega)
        rw [hbn]
        have e1 : splice l oo [] = l := by simp [splice]
        rw [e1, List.map_nil, setB_nil, setRow_self w1 g cur1 _ _ z1]
        exact HP.out.same hb1⟩
    clear hb1 hp1 z0 z1 z2 z3 z4 ho ho2 hc' q2 HC c0
    go_wp2_with fail
    go_ret
    exact ⟨rfl, by have hF := HFIN.out; rw [List.map_take] at hF; exact hF⟩
  · have HC := Hidden.mk (hsome_e x a n hp hg he (by omega))
    have hL : writeL l x a b = l := by unfold writeL; rw [hn, if_neg he]
    have hev : errV (someE l x a n) = .iface 88 (.int .i64 (someE l x a n : Int)) := by unfold errV; rw [if_neg he]
    have hcp := fun W ty => run_copy_none W n c A ty
    rw [hL, hev]
    have HP := Hidden.mk hp
    generalize (someE l x a n : Int) = q at *
    clear hp hg hL hev he hrd hn
    go_enter Tryz.func16, Tryz.ntmps16
    go_wp2_with fail
    refine HC.out.mono ?_
    rintro e w1 ⟨rfl, hb1⟩
    have HB := Hidden.mk (HP.out.same hb1)
    clear hb1
    go_wp2_with fail
    go_ret
    exact ⟨rfl, HB.out⟩
end
end Go.Proofs.YtcahgmnkphmnhaaGreat
/- vaultsame.Ints of lists that are the same. -/
namespace Go.Proofs.YtcahgmnkphmnhaaGreat
open Go.RowKit

def ncell (i : Nat) : List Value := [.int .i64 (i : Int)]
set_option maxRecDepth 100000 in
theorem sameInts_eq (A B : Option Addr) (ca cb n : Nat) (L : List Nat) (w : World) (hn : L.length = n) (hl : n ≤ 100000) (hA : RdX ncell 1 w A L) (hB : RdX ncell 1 w B L) :
    Calls Tryz.prog 21 #[.slice A n ca, .slice B n cb] w fun e w' => e = .returned (.bool true) ∧ Below w.heap.size w w' := by
  have HA := Hidden.mk hA
  have HB := Hidden.mk hB
  have HN := Hidden.mk hn
  clear hA hB hn
  go_enter Tryz.func21, Tryz.ntmps21
  go_wp2_with fail
  go_loopg [5] n (fun m i wr => ∃ j : Nat, j ≤ n ∧ m = n - j ∧ i = .int .i64 (j : Int) ∧ Hidden (Below w.heap.size w wr))
  case atStart => exact ⟨0, by omega, rfl, rfl, ⟨Below.refl _ _⟩⟩
  case round =>
    obtain ⟨j, hj, rfl, rfl, hbel⟩ := hrel
    by_cases hlt : j < n
    · have hjl : j < L.length := by rw [HN.out]; exact hlt
      have hp' := (HA.out.below hbel.out) j hjl
      obtain ⟨p, off, rfl, hp'⟩ := hp'
      have hq' := (HB.out.below hbel.out) j hjl
      obtain ⟨q, oq, rfl, hq'⟩ := hq'
      have x0 := hp' 0 _ rfl
      have y0 := hq' 0 _ rfl
      rw [Nat.add_zero, Nat.mul_one] at x0 y0
      have k0 : (0 : Int) ≤ j := by omega
      have k1 : (j : Int) < n := by omega
      have s1 : IntKind.i64.wrap ((j : Int) + 1) = (j : Int) + 1 := IntWalk.i64_in _ (by omega)
      have hse : ((L[j] : Int) == (L[j] : Int)) = true := by simp
      generalize (L[j] : Int) = b0 at *
      clear hp' hq'
      go_wp2_with fail
      go_quiet (fail)
      clear x0 y0
      have hbn := Hidden.mk (below_drewN hbel.out nq)
      go_wp2_with fail
      go_roundg (n - (j + 1))
      case measure => omega
      case rel => exact ⟨j + 1, by omega, rfl, by go_num, hbn⟩
    · obtain rfl : j = n := by omega
      go_wp2_with fail
      go_ret
      exact ⟨rfl, hbel.out⟩
theorem own_ints {w : World} {base n : Nat} {v : Value} {L : List Nat} (h : w.ownsRow base 3 1 v n (L.map fun i : Nat => .int .i64 (i : Int))) (hn : L.length = n) : ∃ A c, v = .slice A n c ∧ n ≤ c ∧ RdX ncell 1 w A L := by
  have e : (L.map fun i : Nat => Value.int .i64 (i : Int)) = L.flatMap ncell := by
    rw [List.map_eq_flatMap]; rfl
  rw [e] at h
  obtain ⟨A, c, rfl, hc, -⟩ := own_split h
  exact ⟨A, c, rfl, hc, own_rdX3 (fun _ => rfl) hn h⟩
end Go.Proofs.YtcahgmnkphmnhaaGreat
/- The plain law of heaps: what stays right, what has room. No walk here. -/
namespace Go.Proofs.YtcahgmnkphmnhaaGreat
open Go.RowKit

/-- where a run is free there is one of the runs -/
theorem run_cover : ∀ {S : List Ext} {a n p s : Int}, Tidy a S n → a ≤ p → p + s ≤ n → 1 ≤ s → (∀ e ∈ S, p + s ≤ e.1 ∨ e.1 + e.2 ≤ p) → ∃ h ∈ runsX a S n, h.1 ≤ p ∧ p + s ≤ h.1 + h.2
  | [], a, n, p, s, ht, h1, h2, h3, _ => by
    rw [runsX_nil, if_pos (by omega)]
    exact ⟨_, List.mem_singleton.2 rfl, by dsimp only; omega, by dsimp only; omega⟩
  | e :: r, a, n, p, s, ⟨t1, t2, t3⟩, h1, h2, h3, hall => by
    rw [runsX_cons]
    rcases hall e (List.mem_cons_self ..) with h | h
    · rw [if_pos (by omega)]
      exact ⟨_, List.mem_append_left _ (List.mem_singleton.2 rfl), by dsimp only; omega, by dsimp only; omega⟩
    · obtain ⟨x, hx, hh⟩ := run_cover t3 h h2 h3 (fun y hy => hall y (List.mem_cons_of_mem _ hy))
      exact ⟨x, List.mem_append_right _ hx, hh⟩
theorem fit_exists {n : Int} {l : List Ext} {p size : Int} (h : chkX n l = 0) (h0 : 0 ≤ p) (h1 : 1 ≤ size) (h2 : p + size ≤ n) (hall : ∀ e ∈ l, p + size ≤ e.1 ∨ e.1 + e.2 ≤ p) : fitE n l size = 0 := by
  obtain ⟨o0, o1, _⟩ := chkX_ok h
  obtain ⟨x, hx, hh⟩ := run_cover (tidy_of h) h0 h2 h1 (fun e he => hall e ((sortE_perm l).mem_iff.1 he))
  rw [← holes_runs] at hx
  refine Classical.byContradiction fun hf => ?_
  have := fit_none h hf x hx h1
  omega
theorem takenL_mem {l : Bytes} {e : Ext} : e ∈ takenL l ↔ ∃ k, k < 40 ∧ hasE (rawE l k) = true ∧ e = ((rAt (rawE l k) : Int) - 288, (rLen (rawE l k) : Int)) := by
  unfold takenL entriesL entsL
  simp only [List.map_map, List.mem_map, List.mem_filter, List.mem_range, Function.comp_apply, takeX]
  constructor
  · rintro ⟨k, ⟨h1, h2⟩, rfl⟩; exact ⟨k, h1, h2, rfl⟩
  · rintro ⟨k, h1, h2, rfl⟩; exact ⟨k, ⟨h1, h2⟩, rfl⟩
theorem overE_hit {r s : Bytes} (h : overE r s = false) : hitX ((rAt r : Int) - 288, (rLen r : Int)) ((rAt s : Int) - 288, (rLen s : Int)) = false := by
  rw [hitX_false]
  unfold overE at h
  simp only [Bool.and_eq_false_iff, decide_eq_false_iff_not] at h
  dsimp only
  omega
/-- the extents of a right image are right -/
theorem good_chk {l : Bytes} (hg : Good l) : chkX ((l.length : Int) - 288) (takenL l) = 0 := by
  have hb := hg.bd
  refine chkX_of (by omega) (by omega) (by have := takenL_len l; omega) (fun e he => ?_) ?_
  · obtain ⟨k, hk, hh, rfl⟩ := takenL_mem.1 he
    have := strayE_false (hg.s.fit k hk hh)
    exact badX_of (by dsimp only; omega)
  · unfold takenL entriesL entsL
    rw [List.map_map, List.pairwise_map]
    have hp : (List.range 40).Pairwise (fun a b => a < b) := List.pairwise_lt_range
    have hf := hp.filter (fun k => hasE (rawE l k))
    refine hf.imp_of_mem ?_
    intro a b ha hb' hab
    have ha := List.mem_filter.1 ha
    have hb2 := List.mem_filter.1 hb'
    have h1 := List.mem_range.1 hb2.1
    have := hg.s.apart b h1 a hab hb2.2 ha.2
    rw [overE_symm] at this
    exact overE_hit this
/-- what lies behind the head is not the head's -/
theorem rawE_tail (l x : Bytes) (o j : Nat) (ho : 288 ≤ o) (hx : o + x.length ≤ l.length) (hj : j < 40) : rawE (splice l o x) j = rawE l j := by
  apply List.ext_getElem?
  intro q
  unfold rawE
  rw [List.getElem?_take, List.getElem?_drop, List.getElem?_take, List.getElem?_drop]
  by_cases hq : q < 5
  · rw [if_pos hq, if_pos hq, splice_at _ _ _ _ hx, if_neg (by omega)]
  · rw [if_neg hq, if_neg hq]
theorem rawR_tail (l x : Bytes) (o j : Nat) (ho : 288 ≤ o) (hx : o + x.length ≤ l.length) (hj : j < 8) : rawR (splice l o x) j = rawR l j := by
  apply List.ext_getElem?
  intro q
  unfold rawR
  rw [List.getElem?_take, List.getElem?_drop, List.getElem?_take, List.getElem?_drop]
  by_cases hq : q < 11
  · rw [if_pos hq, if_pos hq, splice_at _ _ _ _ hx, if_neg (by omega)]
  · rw [if_neg hq, if_neg hq]
theorem rawE_root (l x : Bytes) (i j : Nat) (hx : x.length = 11) (hi : i < 8) (hj : j < 40) (hl : 288 ≤ l.length) : rawE (splice l (200 + 11 * i) x) j = rawE l j := by
  apply List.ext_getElem?
  intro q
  unfold rawE
  rw [List.getElem?_take, List.getElem?_drop, List.getElem?_take, List.getElem?_drop]
  by_cases hq : q < 5
  · rw [if_pos hq, if_pos hq, splice_at _ _ _ _ (by omega), if_neg (by omega)]
  · rw [if_neg hq, if_neg hq]
/-- bytes that are cut out elsewhere -/
theorem cut_splice (l x : Bytes) (o a m : Nat) (hx : o + x.length ≤ l.length) (h : a + m ≤ o ∨ o + x.length ≤ a) : ((splice l o x).drop a).take m = (l.drop a).take m := by
  apply List.ext_getElem?
  intro q
  rw [List.getElem?_take, List.getElem?_drop, List.getElem?_take, List.getElem?_drop]
  by_cases hq : q < m
  · rw [if_pos hq, if_pos hq, splice_at _ _ _ _ hx, if_neg (by omega)]
  · rw [if_neg hq, if_neg hq]
theorem cut_splice_in (l x : Bytes) (o a m : Nat) (hx : o + x.length ≤ l.length) (h1 : o ≤ a) (h2 : a + m ≤ o + x.length) : ((splice l o x).drop a).take m = (x.drop (a - o)).take m := by
  apply List.ext_getElem?
  intro q
  rw [List.getElem?_take, List.getElem?_drop, List.getElem?_take, List.getElem?_drop]
  by_cases hq : q < m
  · rw [if_pos hq, if_pos hq, splice_at _ _ _ _ hx, if_pos (by omega)]
    congr 1; omega
  · rw [if_neg hq, if_neg hq]
theorem zeros_cut (n a m : Nat) (h : a + m ≤ n) : ((List.replicate n (0 : UInt8)).drop a).take m = List.replicate m 0 := by
  rw [List.drop_replicate, List.take_replicate]; congr 1; omega
/-- an image of nothing -/
theorem good_zero {n : Nat} (h : rightB n = true) : Good (List.replicate n 0) := by
  have hb := rightB_true.1 h
  have hE : ∀ k, k < 40 → rawE (List.replicate n 0) k = List.replicate 5 0 := fun k hk => zeros_cut n (5 * k) 5 (by omega)
  have hR : ∀ i, i < 8 → rawR (List.replicate n 0) i = List.replicate 11 0 := fun i hi => zeros_cut n (200 + 11 * i) 11 (by omega)
  refine good_iff.2 ⟨by rw [List.length_replicate]; exact h, ⟨fun k hk _ => by rw [hE k hk]; exact zeros_zero 5, fun k hk hh => ?_, fun k hk j hj hh _ => ?_, fun i hi hz => ?_, fun i hi j hj hz _ => ?_⟩⟩
  · rw [hE k hk, zeros_has] at hh; cases hh
  · rw [hE k hk, zeros_has] at hh; cases hh
  · rw [hR i hi, zeros_zero] at hz; cases hz
  · rw [hR i hi, zeros_zero] at hz; cases hz
/-- what Alloc makes of an image -/
structure AllocIs (l l' : Bytes) (k a n t : Nat) : Prop where
  k40 : k < 40
  none : hasE (rawE l k) = false
  least : ∀ i, i < k → hasE (rawE l i) = true
  a0 : 288 ≤ a
  a1 : a + n ≤ l.length
  n0 : 1 ≤ n
  n1 : n ≤ 1000
  t1 : t ≤ 15
  len : l'.length = l.length
  ents : ∀ j, j < 40 → rawE l' j = if j = k then entB a n t else rawE l j
  rots : ∀ i, i < 8 → rawR l' i = rawR l i
  apart : ∀ j, j < 40 → hasE (rawE l j) = true → a + n ≤ rAt (rawE l j) ∨ rAt (rawE l j) + rLen (rawE l j) ≤ a
  zero : (l'.drop a).take n = List.replicate n 0
  rest : ∀ b m, 288 ≤ b → b + m ≤ a ∨ a + n ≤ b → (l'.drop b).take m = (l.drop b).take m
theorem alloc_is {l : Bytes} (hg : Good l) {n t : Int} (h0 : allocE l n t = 0) : ∃ k a n' t' : Nat, n = n' ∧ t = t' ∧ allocH l n t = (k : Int) + 1 ∧ allocA l n = a ∧ AllocIs l (allocL l n t) k a n' t' := by
  have hb := hg.bd
  have hE := h0
  unfold allocE at hE
  by_cases hbad : lenB n = false ∨ tagB t = false
  · rw [if_pos hbad] at hE; cases hE
  · rw [if_neg hbad] at hE
    by_cases hz : fH l 40 = 0 ∨ fitE ((l.length : Int) - 288) (takenL l) n ≠ 0
    · rw [if_pos hz] at hE; cases hE
    · have hn := lenB_true.1 (show lenB n = true by cases hx : lenB n <;> simp_all)
      have ht := tagB_true.1 (show tagB t = true by cases hx : tagB t <;> simp_all)
      have hf : fitE ((l.length : Int) - 288) (takenL l) n = 0 := by omega
      obtain ⟨i1, i2⟩ := alloc_in hf
      rcases fH_spec l 40 (Nat.le_refl _) with ⟨h, _⟩ | ⟨k, k1, k2, k3, k4, k5⟩
      · omega
      obtain ⟨a, ha⟩ := Int.eq_ofNat_of_zero_le (show 0 ≤ allocA l n by omega)
      obtain ⟨n', rfl⟩ := Int.eq_ofNat_of_zero_le (show 0 ≤ n by omega)
      obtain ⟨t', rfl⟩ := Int.eq_ofNat_of_zero_le (show 0 ≤ t by omega)
      have hL : allocL l n' t' = splice (splice l (5 * k) (entB a n' t')) a (List.replicate n' 0) := by
        unfold allocL
        rw [if_pos h0, ha, k3]
        unfold putEnt
        rw [show ((k + 1 : Nat) : Int) = (k : Int) + 1 by omega, entO_k]
        rfl
      have hl1 : (splice l (5 * k) (entB a n' t')).length = l.length := splice_len _ _ _ (by rw [entB_len]; omega)
      have hl2 : (allocL l n' t').length = l.length := by rw [hL, splice_len _ _ _ (by rw [hl1]; simp; omega), hl1]
      refine ⟨k, a, n', t', rfl, rfl, by unfold allocH; rw [if_pos h0, k3]; omega, ha, ⟨k2, k4, fun i hi => k5 i (by omega) hi, by omega, by omega, by omega, by omega, by omega, hl2, fun j hj => ?_, fun i hi => ?_, fun j hj hh => ?_, ?_, fun b m hb0 hbm => ?_⟩⟩
      · rw [hL, rawE_tail _ _ _ _ (by omega) (by rw [hl1]; simp; omega) hj]
        exact rawE_splice l (entB a n' t') k j (entB_len _ _ _) k2 hj (by omega)
      · rw [hL, rawR_tail _ _ _ _ (by omega) (by rw [hl1]; simp; omega) hi]
        exact rawR_head l _ _ _ (by rw [entB_len]; omega) (by omega)
      · have hc := good_chk hg
        obtain ⟨L, m1, m2, m3, _, _⟩ := fit_some hc hf
        have h4 := (holes_mem hc _ m1).2.2.2 _ (takenL_mem.2 ⟨j, hj, hh, rfl⟩)
        unfold allocA at ha
        dsimp only at h4
        omega
      · rw [hL, cut_splice_in _ _ _ _ _ (by rw [hl1]; simp; omega) (by omega) (by simp), Nat.sub_self, List.drop_zero, List.take_of_length_le (by simp)]
      · rw [hL, cut_splice _ _ _ _ _ (by rw [hl1]; simp; omega) (by simpa using hbm), cut_splice _ _ _ _ _ (by rw [entB_len]; omega) (by rw [entB_len]; omega)]
theorem AllocIs.ent {l l' : Bytes} {k a n t : Nat} (h : AllocIs l l' k a n t) (hb : l.length ≤ 6400) : hasE (rawE l' k) = true ∧ rAt (rawE l' k) = a ∧ rLen (rawE l' k) = n ∧ rTag (rawE l' k) = t := by
  rw [h.ents k h.k40, if_pos rfl]
  exact entB_rd a n t (by have := h.a1; omega) (by have := h.n1; omega) h.t1
theorem AllocIs.good {l l' : Bytes} {k a n t : Nat} (h : AllocIs l l' k a n t) (hg : Good l) : Good l' := by
  have hb := hg.bd
  obtain ⟨e1, e2, e3, e4⟩ := entB_rd a n t (by have := h.a1; omega) (by have := h.n1; omega) h.t1
  refine good_iff.2 ⟨by rw [h.len]; exact hg.len, ?_⟩
  rw [h.len]
  have h1 : GoodS l.length (rawE l') (rawR l) := by
    refine hg.s.putE k h.k40 (entB a n t) h.ents e1 ?_ (fun j hj _ hh => ?_)
    · unfold strayE
      rw [e2, e3, e4, tagB_true.2 ⟨by omega, by have := h.t1; omega⟩, lenB_true.2 ⟨by have := h.n0; omega, by have := h.n1; omega⟩, withinB_true.2 ⟨by have := h.a0; omega, by have := h.a1; omega, by have := h.a1; omega⟩]
      rfl
    · have := h.apart j hj hh
      unfold overE
      rw [e2, e3]
      simp only [Bool.and_eq_false_iff, decide_eq_false_iff_not]
      omega
  exact h1.putR 0 (rawR l 0) (fun j hj => by rw [h.rots j hj]; split <;> simp_all) (by
    cases hz : zeroE (rawR l 0) with
    | true => exact .inl rfl
    | false => exact .inr ⟨h1.root 0 (by omega) hz, fun j hj hne hz' => (h1.name j hj 0 (by omega) hz' hz).symm⟩)
theorem alloc_good {l : Bytes} (hg : Good l) (n t : Int) : Good (allocL l n t) := by
  by_cases h0 : allocE l n t = 0
  · obtain ⟨k, a, n', t', _, _, _, _, h⟩ := alloc_is hg h0
    exact h.good hg
  · have : allocL l n t = l := by unfold allocL; rw [if_neg h0]
    rw [this]; exact hg
theorem rootsL_mem {l : Bytes} {x : Bytes × Nat} : x ∈ rootsL l ↔ ∃ i, i < 8 ∧ zeroE (rawR l i) = false ∧ x = rootP (rawR l i) := by
  unfold rootsL rootsF
  simp only [List.mem_map, List.mem_filter, List.mem_range, Bool.not_eq_true']
  constructor
  · rintro ⟨i, ⟨h1, h2⟩, rfl⟩; exact ⟨i, h1, h2, rfl⟩
  · rintro ⟨i, h1, h2, rfl⟩; exact ⟨i, ⟨h1, h2⟩, rfl⟩
/-- what Free makes of an image -/
structure FreeIs (l l' : Bytes) (k : Nat) : Prop where
  k40 : k < 40
  has : hasE (rawE l k) = true
  len : l'.length = l.length
  ents : ∀ j, j < 40 → rawE l' j = if j = k then List.replicate 5 0 else rawE l j
  rots : ∀ i, i < 8 → rawR l' i = rawR l i
  nol : ∀ i, i < 8 → zeroE (rawR l i) = false → ((rawR l i).getD 10 0).toNat ≠ k + 1
  rest : ∀ b m, 288 ≤ b → (l'.drop b).take m = (l.drop b).take m
theorem free_is {l : Bytes} (hg : Good l) {x : Int} (h0 : freeE l x = 0) : ∃ k : Nat, x = (k : Int) + 1 ∧ FreeIs l (freeL l x) k := by
  have hb := hg.bd
  have hQ := h0
  unfold freeE at hQ
  by_cases hx : hE l x = 0
  · rw [if_neg (by simp [hx])] at hQ
    obtain ⟨k, hk, rfl, hh, _⟩ := hE_zero hx
    have hno : (rootsL l).any (fun r => (r.2 : Int) == (k : Int) + 1) = false := by
      cases ha : (rootsL l).any (fun r => (r.2 : Int) == (k : Int) + 1) with
      | false => rfl
      | true => rw [ha] at hQ; simp at hQ
    have hL : freeL l ((k : Int) + 1) = splice l (5 * k) (List.replicate 5 0) := by
      unfold freeL
      rw [if_pos h0, show ((k : Int) + 1 - 1).toNat = k by omega]
    rw [List.any_eq_false] at hno
    refine ⟨k, rfl, ⟨hk, hh, by rw [hL]; exact splice_len _ _ _ (by simp; omega), fun j hj => ?_, fun i hi => ?_, fun i hi hz => ?_, fun b m hb0 => ?_⟩⟩
    · rw [hL]; exact rawE_splice l _ k j (by simp) hk hj (by omega)
    · rw [hL]; exact rawR_head l _ _ _ (by simp; omega) (by omega)
    · have h1 := hno _ (rootsL_mem.2 ⟨i, hi, hz, rfl⟩)
      simp only [rootP, beq_iff_eq] at h1
      omega
    · rw [hL]; exact cut_splice _ _ _ _ _ (by simp; omega) (by simp; omega)
  · rw [if_pos hx] at hQ; exact absurd hQ hx
theorem FreeIs.good {l l' : Bytes} {k : Nat} (h : FreeIs l l' k) (hg : Good l) : Good l' := by
  refine good_iff.2 ⟨by rw [h.len]; exact hg.len, ?_⟩
  rw [h.len]
  have h1 : GoodS l.length (rawE l') (rawR l) := hg.s.dropE k h.k40 h.ents h.nol
  exact h1.putR 0 (rawR l 0) (fun j hj => by rw [h.rots j hj]; split <;> simp_all) (by
    cases hz : zeroE (rawR l 0) with
    | true => exact .inl rfl
    | false => exact .inr ⟨h1.root 0 (by omega) hz, fun j hj hne hz' => (h1.name j hj 0 (by omega) hz' hz).symm⟩)
theorem free_good {l : Bytes} (hg : Good l) (x : Int) : Good (freeL l x) := by
  by_cases h0 : freeE l x = 0
  · obtain ⟨k, _, h⟩ := free_is hg h0
    exact h.good hg
  · have : freeL l x = l := by unfold freeL; rw [if_neg h0]
    rw [this]; exact hg
end Go.Proofs.YtcahgmnkphmnhaaGreat
/- HeapKeeps, the plain law: what an Alloc and a Write leave as it was. -/
namespace Go.Proofs.YtcahgmnkphmnhaaGreat
open Go.RowKit

theorem obj_congr {l l' : Bytes} {k : Nat} (he : rawE l' k = rawE l k) (hs : hasE (rawE l k) = true → (l'.drop (rAt (rawE l k))).take (rLen (rawE l k)) = (l.drop (rAt (rawE l k))).take (rLen (rawE l k))) : objT l' k = objT l k ∧ objS l' k = objS l k := by
  unfold objT objS
  rw [he]
  by_cases h : hasE (rawE l k) = true
  · simp only [if_pos h, hs h]; exact ⟨trivial, trivial⟩
  · simp only [if_neg h]; exact ⟨trivial, trivial⟩
theorem hd_of {l : Bytes} {k : Nat} (hk : k < 40) (hh : hasE (rawE l k) = true) : hE l ((k : Int) + 1) = 0 ∧ gA l ((k : Int) + 1) = rAt (rawE l k) ∧ gL l ((k : Int) + 1) = rLen (rawE l k) ∧ gT l ((k : Int) + 1) = rTag (rawE l k) := by
  obtain ⟨h0, h1⟩ := hE_has hk hh
  unfold gA gL gT
  rw [if_pos h0, if_pos h0, if_pos h0, h1]
  exact ⟨h0, rfl, rfl, rfl⟩
section
variable {l l' : Bytes} {k a n t : Nat}
theorem AllocIs.keep (h : AllocIs l l' k a n t) (hg : Good l) {j : Nat} (hj : j < 40) (hne : j ≠ k) : objT l' j = objT l j ∧ objS l' j = objS l j := by
  refine obj_congr (by rw [h.ents j hj, if_neg hne]) fun hh => ?_
  have := strayE_false (hg.s.fit j hj hh)
  have := h.apart j hj hh
  exact h.rest _ _ (by omega) (by omega)
theorem AllocIs.hd (h : AllocIs l l' k a n t) (hg : Good l) : hE l' ((k : Int) + 1) = 0 ∧ gA l' ((k : Int) + 1) = a ∧ gL l' ((k : Int) + 1) = n ∧ gT l' ((k : Int) + 1) = t := by
  obtain ⟨e1, e2, e3, e4⟩ := h.ent hg.bd.2
  have := hd_of h.k40 e1
  rw [e2, e3, e4] at this
  exact this
theorem some_zero {x o m : Int} (h0 : hE l x = 0) (h1 : 0 ≤ o) (h2 : 0 ≤ m) (h3 : o + m ≤ gL l x) : someE l x o m = 0 := by
  unfold someE
  rw [if_neg (by omega), if_neg (by omega)]
theorem AllocIs.read (h : AllocIs l l' k a n t) (hg : Good l) : someE l' ((k : Int) + 1) 0 n = 0 ∧ readL l' ((k : Int) + 1) 0 n = List.replicate n 0 := by
  obtain ⟨e1, e2, e3, e4⟩ := h.hd hg
  have h0 : someE l' ((k : Int) + 1) 0 n = 0 := some_zero e1 (by omega) (by omega) (by omega)
  refine ⟨h0, ?_⟩
  unfold readL
  rw [if_pos h0, e2, show ((a : Int) + 0).toNat = a by omega, Int.toNat_natCast]
  exact h.zero
/-- what Write makes of an image -/
structure WriteIs (l l' : Bytes) (k o : Nat) (b : Bytes) : Prop where
  k40 : k < 40
  has : hasE (rawE l k) = true
  o0 : 288 ≤ o
  o1 : o + b.length ≤ l.length
  at0 : rAt (rawE l k) ≤ o
  at1 : o + b.length ≤ rAt (rawE l k) + rLen (rawE l k)
  eq : l' = splice l o b
theorem write_is (hg : Good l) {x c : Int} {b : Bytes} (h : someE l x c b.length = 0) : ∃ k o : Nat, x = (k : Int) + 1 ∧ gA l x + c = o ∧ WriteIs l (writeL l x c b) k o b := by
  obtain ⟨h0, h1, h2, h3, h4, h5, h6, h7⟩ := some_in hg h
  obtain ⟨k, hk, rfl, hh, he⟩ := hE_zero h0
  obtain ⟨_, f1, f2, f3⟩ := hd_of hk hh
  obtain ⟨o, ho⟩ := Int.eq_ofNat_of_zero_le (show 0 ≤ gA l ((k : Int) + 1) + c by omega)
  refine ⟨k, o, rfl, ho, hk, hh, by omega, by omega, by omega, by omega, ?_⟩
  unfold writeL
  rw [if_pos h, ho]
  rfl
variable {o : Nat} {b : Bytes}
theorem WriteIs.len (h : WriteIs l l' k o b) : l'.length = l.length := by rw [h.eq]; exact splice_len _ _ _ h.o1
theorem WriteIs.ents (h : WriteIs l l' k o b) (j : Nat) (hj : j < 40) : rawE l' j = rawE l j := by rw [h.eq]; exact rawE_tail _ _ _ _ h.o0 h.o1 hj
theorem WriteIs.rots (h : WriteIs l l' k o b) (j : Nat) (hj : j < 8) : rawR l' j = rawR l j := by rw [h.eq]; exact rawR_tail _ _ _ _ h.o0 h.o1 hj
theorem Good.apart {l : Bytes} (hg : Good l) {j k : Nat} (hj : j < 40) (hk : k < 40) (hne : j ≠ k) (h1 : hasE (rawE l j) = true) (h2 : hasE (rawE l k) = true) : overE (rawE l k) (rawE l j) = false := by
  rcases Nat.lt_or_gt_of_ne hne with h | h
  · exact hg.s.apart k hk j h h2 h1
  · rw [overE_symm]; exact hg.s.apart j hj k h h1 h2
theorem WriteIs.good (h : WriteIs l l' k o b) (hg : Good l) : Good l' := by
  refine good_iff.2 ⟨by rw [h.len]; exact hg.len, ?_⟩
  rw [h.len]
  have h1 : GoodS l.length (rawE l') (rawR l) := hg.s.putE k h.k40 (rawE l k) (fun j hj => by rw [h.ents j hj]; split <;> simp_all) h.has (hg.s.fit k h.k40 h.has) (fun j hj hne hh => hg.apart hj h.k40 hne hh h.has)
  exact h1.putR 0 (rawR l 0) (fun j hj => by rw [h.rots j hj]; split <;> simp_all) (by
    cases hz : zeroE (rawR l 0) with
    | true => exact .inl rfl
    | false => exact .inr ⟨h1.root 0 (by omega) hz, fun j hj hne hz' => (h1.name j hj 0 (by omega) hz' hz).symm⟩)
theorem write_good (hg : Good l) (x c : Int) (b : Bytes) : Good (writeL l x c b) := by
  by_cases h : someE l x c b.length = 0
  · obtain ⟨k, o, _, _, hw⟩ := write_is hg h
    exact hw.good hg
  · have : writeL l x c b = l := by unfold writeL; rw [if_neg h]
    rw [this]; exact hg
theorem WriteIs.keep (h : WriteIs l l' k o b) (hg : Good l) {j : Nat} (hj : j < 40) (hne : j ≠ k) : objT l' j = objT l j ∧ objS l' j = objS l j := by
  refine obj_congr (h.ents j hj) fun hh => ?_
  have := hg.apart hj h.k40 hne hh h.has
  unfold overE at this
  simp only [Bool.and_eq_false_iff, decide_eq_false_iff_not] at this
  have := h.at0
  have := h.at1
  rw [h.eq]
  exact cut_splice _ _ _ _ _ h.o1 (by omega)
theorem WriteIs.some (h : WriteIs l l' k o b) (x c m : Int) : someE l' x c m = someE l x c m ∧ gA l' x = gA l x := by
  have hx : hE l' x = hE l x ∧ (hE l x = 0 → hR l' x = hR l x) := by
    unfold hE hR
    by_cases hb : handleB x = false
    · rw [if_pos hb, if_pos hb]; exact ⟨rfl, fun h => by cases h⟩
    · have := handleB_true.1 (show handleB x = true by cases hx : handleB x <;> simp_all)
      rw [if_neg hb, if_neg hb, h.ents (x - 1).toNat (by omega)]
      exact ⟨rfl, fun _ => rfl⟩
  have hgl : gL l' x = gL l x ∧ gA l' x = gA l x := by
    unfold gL gA
    rw [hx.1]
    by_cases h0 : hE l x = 0
    · rw [if_pos h0, if_pos h0, if_pos h0, if_pos h0, hx.2 h0]; exact ⟨rfl, rfl⟩
    · rw [if_neg h0, if_neg h0, if_neg h0, if_neg h0]; exact ⟨rfl, rfl⟩
  unfold someE
  rw [hx.1, hgl.1]
  exact ⟨rfl, hgl.2⟩
end
theorem write_read {l : Bytes} (hg : Good l) {x c : Int} {b : Bytes} (h : someE l x c b.length = 0) : someE (writeL l x c b) x c b.length = 0 ∧ readL (writeL l x c b) x c b.length = b := by
  obtain ⟨k, o, _, ho, hw⟩ := write_is hg h
  obtain ⟨h1, h2⟩ := hw.some x c b.length
  rw [h] at h1
  refine ⟨h1, ?_⟩
  unfold readL
  rw [if_pos h1, h2, ho, Int.toNat_natCast, Int.toNat_natCast, hw.eq, cut_splice_in _ _ _ _ _ hw.o1 (Nat.le_refl _) (Nat.le_refl _), Nat.sub_self, List.drop_zero, List.take_of_length_le (Nat.le_refl _)]
theorem write_keep {l : Bytes} (hg : Good l) {x c : Int} {b : Bytes} (h : someE l x c b.length = 0) {j : Nat} (hj : j < 40) (hne : ((j : Int) + 1) ≠ x) : objT (writeL l x c b) j = objT l j ∧ objS (writeL l x c b) j = objS l j := by
  obtain ⟨k, o, hx, ho, hw⟩ := write_is hg h
  exact hw.keep hg hj (by omega)
theorem alloc_keep {l : Bytes} (hg : Good l) {n t : Int} (h : allocE l n t = 0) {j : Nat} (hj : j < 40) (hne : ((j : Int) + 1) ≠ allocH l n t) : objT (allocL l n t) j = objT l j ∧ objS (allocL l n t) j = objS l j := by
  obtain ⟨k, a, n', t', _, _, hH, _, hi⟩ := alloc_is hg h
  exact hi.keep hg hj (by omega)
theorem alloc_read {l : Bytes} (hg : Good l) {n t : Int} (h : allocE l n t = 0) : 1 ≤ n ∧ n ≤ 1000 ∧ 1 ≤ allocH l n t ∧ allocH l n t ≤ 40 ∧ someE (allocL l n t) (allocH l n t) 0 n = 0 ∧ readL (allocL l n t) (allocH l n t) 0 n = List.replicate n.toNat 0 ∧ hE (allocL l n t) (allocH l n t) = 0 ∧ gT (allocL l n t) (allocH l n t) = t := by
  obtain ⟨k, a, n', t', hn, ht, hH, _, hi⟩ := alloc_is hg h
  have h1 := hi.read hg
  have h2 := hi.hd hg
  have := hi.k40
  have := hi.n0
  have := hi.n1
  rw [hH, ht]
  rw [hn] at h1 h2 ⊢
  rw [ht] at h1 h2
  refine ⟨by omega, by omega, by omega, by omega, h1.1, ?_, h2.1, h2.2.2.2⟩
  rw [h1.2, Int.toNat_natCast]
theorem splice_cut (l x : Bytes) (o a m : Nat) (hx : o + x.length ≤ l.length) (h1 : a ≤ o) (h2 : o + x.length ≤ a + m) (h3 : a + m ≤ l.length) : ((splice l o x).drop a).take m = splice ((l.drop a).take m) (o - a) x := by
  apply List.ext_getElem?
  intro q
  have hl : ((l.drop a).take m).length = m := by simp; omega
  rw [splice_at _ _ _ _ (by omega), List.getElem?_take, List.getElem?_drop]
  by_cases hq : q < m
  · rw [if_pos hq, splice_at _ _ _ _ hx]
    by_cases hi : o ≤ a + q ∧ a + q < o + x.length
    · rw [if_pos hi, if_pos (by omega)]; congr 1; omega
    · rw [if_neg hi, if_neg (by omega), List.getElem?_take, List.getElem?_drop, if_pos hq]
  · rw [if_neg hq, if_neg (by omega), List.getElem?_take, if_neg hq]
/-- the first part of the law -/
theorem keeps_first : ∃ l1 : Bytes, allocL (List.replicate 320 0) 4 2 = l1 ∧ Good l1 ∧ allocE (List.replicate 320 0) 4 2 = 0 ∧ allocH (List.replicate 320 0) 4 2 = 1 ∧ someE l1 1 1 1 = 0 ∧ someE (writeL l1 1 1 [7]) 1 0 4 = 0 ∧ readL (writeL l1 1 1 [7]) 1 0 4 = [0, 7, 0, 0] := by
  have hg : Good (List.replicate 320 0) := good_zero' rfl
  have hz : ∀ j, j < 40 → hasE (rawE (List.replicate 320 0) j) = false := fun j hj => by
    rw [show rawE (List.replicate 320 0) j = List.replicate 5 0 from zeros_cut 320 (5 * j) 5 (by omega)]; exact zeros_has
  have hfh : fH (List.replicate 320 0) 40 = 1 := by
    rcases fH_spec (List.replicate 320 0) 40 (Nat.le_refl _) with ⟨_, hall⟩ | ⟨q, _, k2, k3, k4, k5⟩
    · have := hall 0 (by omega) (by omega)
      rw [hz 0 (by omega)] at this; cases this
    · rw [k3]
      by_cases hq : q = 0
      · rw [hq]
      · have := k5 0 (by omega) (by omega)
        rw [hz 0 (by omega)] at this; cases this
  have hc := good_chk hg
  have hlen : (List.replicate 320 (0 : UInt8)).length = 320 := List.length_replicate
  generalize List.replicate 320 (0 : UInt8) = l at *
  rw [hlen] at hc
  have hE : allocE l 4 2 = 0 := by
    have hf : fitE ((320 : Nat) - 288 : Int) (takenL l) 4 = 0 := fit_exists hc (p := 0) (by omega) (by omega) (by omega) (fun e he => by
      obtain ⟨j, hj, hh, _⟩ := takenL_mem.1 he
      rw [hz j hj] at hh; cases hh)
    unfold allocE
    rw [if_neg (by decide), hlen, if_neg (by rw [hfh, hf]; decide)]
  have hH : allocH l 4 2 = 1 := by unfold allocH; rw [if_pos hE, hfh]; rfl
  obtain ⟨k, a, n', t', hn, ht, hH', _, hi⟩ := alloc_is hg hE
  obtain rfl : n' = 4 := by omega
  obtain rfl : k = 0 := by omega
  have hg1 := hi.good hg
  obtain ⟨d1, d2, d3, d4⟩ := hi.hd hg
  have hzero := hi.zero
  have hl1 := hi.len
  have ha1 := hi.a1
  generalize allocL l 4 2 = l1 at *
  rw [show ((0 : Nat) : Int) + 1 = 1 from rfl] at *
  have hs : someE l1 1 1 ([7] : Bytes).length = 0 := some_zero d1 (by decide) (by decide) (by rw [d3]; decide)
  obtain ⟨k2, o, _, ho, hw⟩ := write_is hg1 hs
  have hs2 : someE (writeL l1 1 1 [7]) 1 0 4 = 0 := by
    rw [(hw.some 1 0 4).1]
    exact some_zero d1 (by decide) (by decide) (by rw [d3]; decide)
  refine ⟨l1, rfl, hg1, hE, hH, hs, hs2, ?_⟩
  unfold readL
  rw [if_pos hs2, (hw.some 1 0 4).2, d2, show ((a : Int) + 0).toNat = a by omega, show (4 : Int).toNat = 4 from rfl, hw.eq]
  rw [d2] at ho
  obtain rfl : o = a + 1 := by omega
  rw [splice_cut _ _ _ _ _ hw.o1 (by omega) (by simp) (by omega), hzero, Nat.add_sub_cancel_left]
  rfl
end Go.Proofs.YtcahgmnkphmnhaaGreat
/- Objects moved closer together, plainly. No walk here. -/
namespace Go.Proofs.YtcahgmnkphmnhaaGreat
open Go.RowKit Go.Sort Go.Shelf Go.Lib

abbrev Ent := Int × Bytes
def cmpM (x y : Ent) : Int := Lib.compareInt (rAt x.2 : Int) (rAt y.2 : Int)
theorem ltM (x y : Ent) : ltOf cmpM x y = decide (rAt x.2 < rAt y.2) := by
  unfold ltOf cmpM Lib.compareInt
  by_cases h1 : (rAt x.2 : Int) < rAt y.2
  · have : rAt x.2 < rAt y.2 := by omega
    simp [h1, this]
  · have h3 : ¬ rAt x.2 < rAt y.2 := by omega
    by_cases h2 : (rAt y.2 : Int) < rAt x.2 <;> simp [h1, h2, h3]
theorem swoM : SWO (ltOf cmpM) where
  irrefl x := by rw [ltM]; simp
  trans x y z h1 h2 := by rw [ltM] at *; simp at *; omega
  ntrans x y z h1 h2 := by rw [ltM] at *; simp at *; omega
/-- entries by where they begin -/
def sortM (l : Bytes) : List Ent := pdqL cmpM (entriesL l)
theorem sortM_perm (l : Bytes) : (sortM l).Perm (entriesL l) := (pdqL_perm cmpM swoM _).1
theorem sortM_sorted (l : Bytes) : (sortM l).Pairwise (fun a b => rAt a.2 ≤ rAt b.2) := (pdqL_perm cmpM swoM _).2.imp fun {a b} h => by
  rw [ltM] at h; simp at h; omega
/-- behind each other, from a to n -/
def TidyM : Nat → List Ent → Nat → Prop
  | a, [], n => a ≤ n
  | a, e :: r, n => a ≤ rAt e.2 ∧ 1 ≤ rLen e.2 ∧ TidyM (rAt e.2 + rLen e.2) r n
theorem tidyM_le : ∀ {S : List Ent} {a n : Nat}, TidyM a S n → a ≤ n
  | [], _, _, h => h
  | e :: r, _, _, ⟨h1, h2, h3⟩ => by have := tidyM_le h3; omega
theorem tidyM_mem : ∀ {S : List Ent} {a n : Nat}, TidyM a S n → ∀ e ∈ S, a ≤ rAt e.2 ∧ 1 ≤ rLen e.2 ∧ rAt e.2 + rLen e.2 ≤ n
  | [], _, _, _, e, he => by cases he
  | x :: r, _, _, ⟨h1, h2, h3⟩, e, he => by
    rcases List.mem_cons.1 he with rfl | he
    · have := tidyM_le h3; omega
    · have := tidyM_mem h3 e he; omega
theorem tidyM_mono : ∀ {S : List Ent} {a b n : Nat}, TidyM a S n → b ≤ a → TidyM b S n
  | [], _, _, _, h, hb => Nat.le_trans hb h
  | _ :: _, _, _, _, ⟨h1, h2, h3⟩, hb => ⟨by omega, h2, h3⟩
theorem tidyM_strict : ∀ {S : List Ent} {a n : Nat}, TidyM a S n → S.Pairwise (fun x y => rAt x.2 < rAt y.2)
  | [], _, _, _ => List.Pairwise.nil
  | e :: r, a, n, ⟨h1, h2, h3⟩ => List.Pairwise.cons (fun x hx => by have := tidyM_mem h3 x hx; omega) (tidyM_strict h3)
theorem tidyM_mk (n : Nat) : ∀ (S : List Ent) (a : Nat), (∀ e ∈ S, a ≤ rAt e.2 ∧ 1 ≤ rLen e.2 ∧ rAt e.2 + rLen e.2 ≤ n) → S.Pairwise (fun x y => rAt x.2 + rLen x.2 ≤ rAt y.2) → a ≤ n → TidyM a S n
  | [], _, _, _, h => h
  | e :: r, a, hb, hp, _ => by
    obtain ⟨h1, h2, h3⟩ := hb e (List.mem_cons_self ..)
    rw [List.pairwise_cons] at hp
    exact ⟨h1, h2, tidyM_mk n r _ (fun x hx => by have := hb x (List.mem_cons_of_mem _ hx); have := hp.1 x hx; omega) hp.2 (by omega)⟩
theorem entL_mem {l : Bytes} {e : Ent} : e ∈ entriesL l ↔ ∃ k : Nat, k < 40 ∧ hasE (rawE l k) = true ∧ e = ((k : Int) + 1, rawE l k) := by
  unfold entriesL entsL
  simp only [List.mem_map, List.mem_filter, List.mem_range]
  constructor
  · rintro ⟨k, ⟨h1, h2⟩, rfl⟩; exact ⟨k, h1, h2, rfl⟩
  · rintro ⟨k, h1, h2, rfl⟩; exact ⟨k, ⟨h1, h2⟩, rfl⟩
theorem entL_nodup (l : Bytes) : (entriesL l).Pairwise (fun a b => a.1 ≠ b.1) := by
  unfold entriesL entsL
  rw [List.pairwise_map]
  exact (List.pairwise_lt_range.filter _).imp fun {a b} h => by dsimp only; omega
theorem sortM_nodup (l : Bytes) : (sortM l).Pairwise (fun a b => a.1 ≠ b.1) := ((sortM_perm l).pairwise_iff (R := fun a b : Ent => a.1 ≠ b.1) (fun h => h.symm)).2 (entL_nodup l)
theorem tidy_sortM {l : Bytes} (hg : Good l) : TidyM 288 (sortM l) l.length := by
  have hb := hg.bd
  refine tidyM_mk _ _ _ (fun e he => ?_) ?_ hb.1
  · obtain ⟨k, hk, hh, rfl⟩ := entL_mem.1 ((sortM_perm l).mem_iff.1 he)
    have := strayE_false (hg.s.fit k hk hh)
    dsimp only; omega
  · rw [List.pairwise_iff_getElem]
    intro i j hi hj hij
    have hs := List.pairwise_iff_getElem.1 (sortM_sorted l) i j hi hj hij
    have hn := List.pairwise_iff_getElem.1 (sortM_nodup l) i j hi hj hij
    obtain ⟨k, hk, hh, e1⟩ := entL_mem.1 ((sortM_perm l).mem_iff.1 (List.getElem_mem hi))
    obtain ⟨q, hq, hh2, e2⟩ := entL_mem.1 ((sortM_perm l).mem_iff.1 (List.getElem_mem hj))
    rw [e1, e2] at hs hn ⊢
    dsimp only at hs hn ⊢
    have ha := hg.apart (j := q) (k := k) hq hk (by omega) hh2 hh
    have h1 := strayE_false (hg.s.fit k hk hh)
    have h2 := strayE_false (hg.s.fit q hq hh2)
    unfold overE at ha
    simp only [Bool.and_eq_false_iff, decide_eq_false_iff_not] at ha
    omega
theorem sortM_unique {l : Bytes} {S : List Ent} {a n : Nat} (hp : S.Perm (entriesL l)) (ht : TidyM a S n) : sortM l = S := by
  have h1 : (sortM l).Perm S := (sortM_perm l).trans hp.symm
  have hs := tidyM_strict ht
  refine List.Perm.eq_of_pairwise (le := fun x y : Ent => rAt x.2 ≤ rAt y.2) (fun x y hx hy h h' => ?_) (sortM_sorted l) (hs.imp fun h => Nat.le_of_lt h) h1
  have hx' : x ∈ S := h1.mem_iff.1 hx
  obtain ⟨i, hi, rfl⟩ := List.getElem_of_mem hx'
  obtain ⟨j, hj, rfl⟩ := List.getElem_of_mem hy
  rw [List.pairwise_iff_getElem] at hs
  rcases Nat.lt_trichotomy i j with hij | rfl | hij
  · have := hs i j hi hj hij; omega
  · rfl
  · have := hs j i hj hi hij; omega
/-- the first that has a gap ahead of it, and where it goes -/
def gapM : Nat → List Ent → Option (Ent × Nat)
  | _, [] => none
  | a, e :: r => if a < rAt e.2 then some (e, a) else gapM (rAt e.2 + rLen e.2) r
/-- how many stand behind the first gap -/
def packM : Nat → List Ent → Nat
  | _, [] => 0
  | a, e :: r => if a < rAt e.2 then r.length + 1 else packM (rAt e.2 + rLen e.2) r
theorem packM_le : ∀ (S : List Ent) (a : Nat), packM a S ≤ S.length
  | [], _ => Nat.le_refl _
  | e :: r, a => by
    unfold packM; split
    · simp
    · have := packM_le r (rAt e.2 + rLen e.2); simp; omega
theorem packM_zero : ∀ {S : List Ent} {a : Nat}, packM a S = 0 → gapM a S = none
  | [], _, _ => rfl
  | e :: r, a, h => by
    unfold packM at h; unfold gapM
    by_cases hc : a < rAt e.2
    · rw [if_pos hc] at h; omega
    · rw [if_neg hc] at h ⊢; exact packM_zero h
def swapE (e : Ent) (r' : Bytes) (x : Ent) : Ent := if x.1 = e.1 then (e.1, r') else x
theorem swap_none {e : Ent} {r' : Bytes} : ∀ {S : List Ent}, (∀ x ∈ S, x.1 ≠ e.1) → S.map (swapE e r') = S
  | [], _ => rfl
  | x :: r, h => by
    rw [List.map_cons, swap_none (fun y hy => h y (List.mem_cons_of_mem _ hy))]
    unfold swapE
    rw [if_neg (h x (List.mem_cons_self ..))]
theorem gap_swap {n : Nat} {e : Ent} {at_ : Nat} {r' : Bytes} (h1 : rAt r' = at_) (h2 : rLen r' = rLen e.2) : ∀ {S : List Ent} {a : Nat}, TidyM a S n → S.Pairwise (fun x y => x.1 ≠ y.1) → gapM a S = some (e, at_) →
    TidyM a (S.map (swapE e r')) n ∧ packM a (S.map (swapE e r')) < packM a S ∧ a ≤ at_ ∧ at_ < rAt e.2 ∧ e ∈ S ∧ ∀ x ∈ S, x.1 ≠ e.1 → at_ + rLen e.2 ≤ rAt x.2 ∨ rAt x.2 + rLen x.2 ≤ at_
  | [], _, _, _, h => by cases h
  | x :: r, a, ⟨t1, t2, t3⟩, hp, h => by
    rw [List.pairwise_cons] at hp
    unfold gapM at h
    by_cases hc : a < rAt x.2
    · rw [if_pos hc] at h
      have h' := Option.some.inj h
      injection h' with h3 h4
      subst h3 h4
      have hr : r.map (swapE x r') = r := swap_none (fun y hy => (hp.1 y hy).symm)
      rw [List.map_cons, hr]
      have hx : swapE x r' x = (x.1, r') := by unfold swapE; rw [if_pos rfl]
      rw [hx]
      have hm : TidyM (rAt r' + rLen r') r n := tidyM_mono t3 (by omega)
      refine ⟨⟨by dsimp only; omega, by dsimp only; omega, hm⟩, ?_, Nat.le_refl _, hc, List.mem_cons_self .., fun y hy hne => ?_⟩
      · unfold packM
        rw [if_pos hc, if_neg (by dsimp only; omega)]
        have := packM_le r (rAt r' + rLen r')
        dsimp only; omega
      · rcases List.mem_cons.1 hy with rfl | hy
        · exact absurd rfl hne
        · have := tidyM_mem t3 y hy; left; omega
    · rw [if_neg hc] at h
      obtain ⟨g1, g2, g3, g4, g5, g6⟩ := gap_swap h1 h2 t3 hp.2 h
      have hne : x.1 ≠ e.1 := hp.1 e g5
      have hx : swapE e r' x = x := by unfold swapE; rw [if_neg hne]
      rw [List.map_cons, hx]
      refine ⟨⟨t1, t2, g1⟩, ?_, by omega, g4, List.mem_cons_of_mem _ g5, fun y hy hne' => ?_⟩
      · unfold packM
        rw [if_neg hc, if_neg hc]; exact g2
      · rcases List.mem_cons.1 hy with rfl | hy
        · right; omega
        · exact g6 y hy hne'
/-- what Move makes of an image: the object of the handle k + 1 at another place -/
def moveL (l : Bytes) (k a : Nat) : Bytes := splice (splice l (5 * k) (entB a (rLen (rawE l k)) (rTag (rawE l k)).toNat)) a ((l.drop (rAt (rawE l k))).take (rLen (rawE l k)))
structure MoveIs (l l' : Bytes) (k a : Nat) : Prop where
  k40 : k < 40
  has : hasE (rawE l k) = true
  a0 : 288 ≤ a
  a1 : a < rAt (rawE l k)
  len : l'.length = l.length
  ents : ∀ j, j < 40 → rawE l' j = if j = k then entB a (rLen (rawE l k)) (rTag (rawE l k)).toNat else rawE l j
  rots : ∀ i, i < 8 → rawR l' i = rawR l i
  apart : ∀ j, j < 40 → j ≠ k → hasE (rawE l j) = true → a + rLen (rawE l k) ≤ rAt (rawE l j) ∨ rAt (rawE l j) + rLen (rawE l j) ≤ a
  body : (l'.drop a).take (rLen (rawE l k)) = (l.drop (rAt (rawE l k))).take (rLen (rawE l k))
  rest : ∀ b m, 288 ≤ b → b + m ≤ a ∨ a + rLen (rawE l k) ≤ b → (l'.drop b).take m = (l.drop b).take m
theorem move_is {l : Bytes} (hg : Good l) {k a : Nat} (hk : k < 40) (hh : hasE (rawE l k) = true) (ha : 288 ≤ a) (ha1 : a < rAt (rawE l k)) (hap : ∀ j, j < 40 → j ≠ k → hasE (rawE l j) = true → a + rLen (rawE l k) ≤ rAt (rawE l j) ∨ rAt (rawE l j) + rLen (rawE l j) ≤ a) : MoveIs l (moveL l k a) k a := by
  have hb := hg.bd
  have hs := strayE_false (hg.s.fit k hk hh)
  have hbl : ((l.drop (rAt (rawE l k))).take (rLen (rawE l k))).length = rLen (rawE l k) := by simp; omega
  have hl1 : (splice l (5 * k) (entB a (rLen (rawE l k)) (rTag (rawE l k)).toNat)).length = l.length := splice_len _ _ _ (by rw [entB_len]; omega)
  have hfit : a + ((l.drop (rAt (rawE l k))).take (rLen (rawE l k))).length ≤ (splice l (5 * k) (entB a (rLen (rawE l k)) (rTag (rawE l k)).toNat)).length := by rw [hbl, hl1]; omega
  refine ⟨hk, hh, ha, ha1, by unfold moveL; rw [splice_len _ _ _ hfit, hl1], fun j hj => ?_, fun i hi => ?_, hap, ?_, fun b m hb0 hbm => ?_⟩
  · unfold moveL
    rw [rawE_tail _ _ _ _ ha hfit hj]
    exact rawE_splice l _ k j (entB_len _ _ _) hk hj (by omega)
  · unfold moveL
    rw [rawR_tail _ _ _ _ ha hfit hi]
    exact rawR_head l _ _ _ (by rw [entB_len]; omega) (by omega)
  · unfold moveL
    rw [cut_splice_in _ _ _ _ _ hfit (Nat.le_refl _) (by rw [hbl]; exact Nat.le_refl _), Nat.sub_self, List.drop_zero, List.take_of_length_le (by rw [hbl]; exact Nat.le_refl _)]
  · unfold moveL
    rw [cut_splice _ _ _ _ _ hfit (by rw [hbl]; exact hbm), cut_splice _ _ _ _ _ (by rw [entB_len]; omega) (by rw [entB_len]; omega)]
section
variable {l l' : Bytes} {k a : Nat}
theorem MoveIs.ent (h : MoveIs l l' k a) (hg : Good l) : hasE (rawE l' k) = true ∧ rAt (rawE l' k) = a ∧ rLen (rawE l' k) = rLen (rawE l k) ∧ rTag (rawE l' k) = rTag (rawE l k) := by
  have hs := strayE_false (hg.s.fit k h.k40 h.has)
  have hb := hg.bd
  have ha := h.a1
  obtain ⟨e1, e2, e3, e4⟩ := entB_rd a (rLen (rawE l k)) (rTag (rawE l k)).toNat (by omega) (by omega) (by omega)
  rw [h.ents k h.k40, if_pos rfl]
  exact ⟨e1, e2, e3, by omega⟩
theorem MoveIs.good (h : MoveIs l l' k a) (hg : Good l) : Good l' := by
  have hs := strayE_false (hg.s.fit k h.k40 h.has)
  have hb := hg.bd
  have ha := h.a1
  have ha0 := h.a0
  obtain ⟨e1, e2, e3, e4⟩ := entB_rd a (rLen (rawE l k)) (rTag (rawE l k)).toNat (by omega) (by omega) (by omega)
  refine good_iff.2 ⟨by rw [h.len]; exact hg.len, ?_⟩
  rw [h.len]
  have h1 : GoodS l.length (rawE l') (rawR l) := by
    refine hg.s.putE k h.k40 _ h.ents e1 ?_ (fun j hj hne hh => ?_)
    · unfold strayE
      rw [e2, e3, e4, tagB_true.2 ⟨by omega, by omega⟩, lenB_true.2 ⟨by omega, by omega⟩, withinB_true.2 ⟨by omega, by omega, by omega⟩]
      rfl
    · have := h.apart j hj hne hh
      unfold overE
      rw [e2, e3]
      simp only [Bool.and_eq_false_iff, decide_eq_false_iff_not]
      omega
  exact h1.putR 0 (rawR l 0) (fun j hj => by rw [h.rots j hj]; split <;> simp_all) (by
    cases hz : zeroE (rawR l 0) with
    | true => exact .inl rfl
    | false => exact .inr ⟨h1.root 0 (by omega) hz, fun j hj hne hz' => (h1.name j hj 0 (by omega) hz' hz).symm⟩)
/-- no object is another one -/
theorem MoveIs.keep (h : MoveIs l l' k a) (hg : Good l) {j : Nat} (hj : j < 40) : objT l' j = objT l j ∧ objS l' j = objS l j := by
  by_cases e : j = k
  · subst e
    obtain ⟨e1, e2, e3, e4⟩ := h.ent hg
    unfold objT objS
    rw [e1, h.has, e2, e3, e4]
    simp only [if_true]
    exact ⟨trivial, h.body⟩
  · refine obj_congr (by rw [h.ents j hj, if_neg e]) fun hh => ?_
    have := strayE_false (hg.s.fit j hj hh)
    have := h.apart j hj e hh
    exact h.rest _ _ (by omega) (by omega)
theorem MoveIs.roots (h : MoveIs l l' k a) : rootsL l' = rootsL l := by
  unfold rootsL rootsF
  rw [List.filter_congr (fun i hi => by rw [h.rots i (List.mem_range.1 hi)])]
  exact List.map_congr_left fun i hi => by rw [h.rots i (List.mem_range.1 (List.mem_filter.1 hi).1)]
theorem MoveIs.entries (h : MoveIs l l' k a) (hg : Good l) : entriesL l' = (entriesL l).map (swapE ((k : Int) + 1, rawE l k) (rawE l' k)) := by
  have he := h.ent hg
  unfold entriesL entsL
  rw [List.map_map, List.filter_congr (q := fun j => hasE (rawE l j)) (fun j hj => by
    have hj := List.mem_range.1 hj
    by_cases e : j = k
    · rw [e, he.1, h.has]
    · rw [h.ents j hj, if_neg e])]
  refine List.map_congr_left fun j hj => ?_
  have hj := List.mem_range.1 (List.mem_filter.1 hj).1
  simp only [Function.comp_apply, swapE]
  by_cases e : j = k
  · subst e; rw [if_pos rfl]
  · rw [if_neg (by omega), h.ents j hj, if_neg e]
theorem MoveIs.taken (h : MoveIs l l' k a) (hg : Good l) : (takenL l').length = (takenL l).length ∧ sumX (takenL l') = sumX (takenL l) := by
  have he := h.ent hg
  have hE := h.entries hg
  constructor
  · unfold takenL; rw [List.length_map, List.length_map, hE, List.length_map]
  · have key : ∀ L : List Ent, (∀ e ∈ L, e.1 = (k : Int) + 1 → rLen e.2 = rLen (rawE l k)) → sumX ((L.map (swapE ((k : Int) + 1, rawE l k) (rawE l' k))).map takeX) = sumX (L.map takeX) := by
      intro L
      induction L with
      | nil => intro _; rfl
      | cons x r ih =>
        intro hL
        rw [List.map_cons, List.map_cons, List.map_cons, sumX_cons, sumX_cons, ih (fun e he => hL e (List.mem_cons_of_mem _ he))]
        congr 1
        unfold swapE takeX
        by_cases e : x.1 = (k : Int) + 1
        · rw [if_pos e]
          have := hL x (List.mem_cons_self ..) e
          dsimp only; omega
        · rw [if_neg e]
    unfold takenL
    rw [hE]
    exact key _ fun e he1 he2 => by
      obtain ⟨j, hj, hh, rfl⟩ := entL_mem.1 he1
      dsimp only at he2 ⊢
      rw [show j = k by omega]
end
/-- a step, if there is one -/
theorem step_is {l : Bytes} (hg : Good l) {e : Ent} {a : Nat} (h : gapM 288 (sortM l) = some (e, a)) : ∃ k : Nat, e = ((k : Int) + 1, rawE l k) ∧ MoveIs l (moveL l k a) k a ∧ packM 288 (sortM (moveL l k a)) < packM 288 (sortM l) := by
  have ht := tidy_sortM hg
  have hn := sortM_nodup l
  have hmem : e ∈ sortM l ∧ 288 ≤ a ∧ a < rAt e.2 ∧ ∀ x ∈ sortM l, x.1 ≠ e.1 → a + rLen e.2 ≤ rAt x.2 ∨ rAt x.2 + rLen x.2 ≤ a := by
    have aux : ∀ {S : List Ent} {b n : Nat}, TidyM b S n → S.Pairwise (fun x y => x.1 ≠ y.1) → gapM b S = some (e, a) → e ∈ S ∧ b ≤ a ∧ a < rAt e.2 ∧ ∀ x ∈ S, x.1 ≠ e.1 → a + rLen e.2 ≤ rAt x.2 ∨ rAt x.2 + rLen x.2 ≤ a := by
      intro S
      induction S with
      | nil => intro b n _ _ h; cases h
      | cons x r ih =>
        intro b n ⟨t1, t2, t3⟩ hp h
        rw [List.pairwise_cons] at hp
        unfold gapM at h
        by_cases hc : b < rAt x.2
        · rw [if_pos hc] at h
          have h' := Option.some.inj h
          injection h' with h3 h4
          subst h3 h4
          refine ⟨List.mem_cons_self .., Nat.le_refl _, hc, fun y hy hne => ?_⟩
          rcases List.mem_cons.1 hy with rfl | hy
          · exact absurd rfl hne
          · have := tidyM_mem t3 y hy; left; omega
        · rw [if_neg hc] at h
          obtain ⟨g1, g2, g3, g4⟩ := ih t3 hp.2 h
          refine ⟨List.mem_cons_of_mem _ g1, by omega, g3, fun y hy hne => ?_⟩
          rcases List.mem_cons.1 hy with rfl | hy
          · right; omega
          · exact g4 y hy hne
    exact aux ht hn h
  obtain ⟨m1, m2, m3, m4⟩ := hmem
  obtain ⟨k, hk, hh, rfl⟩ := entL_mem.1 ((sortM_perm l).mem_iff.1 m1)
  dsimp only at m3 m4
  have hM := move_is hg hk hh m2 m3 (fun j hj hne hj2 => by
    have := m4 ((j : Int) + 1, rawE l j) ((sortM_perm l).mem_iff.2 (entL_mem.2 ⟨j, hj, hj2, rfl⟩)) (by dsimp only; omega)
    exact this)
  refine ⟨k, rfl, hM, ?_⟩
  obtain ⟨e1, e2, e3, e4⟩ := hM.ent hg
  obtain ⟨g1, g2, -⟩ := gap_swap (r' := rawE (moveL l k a) k) e2 e3 ht hn h
  have hp : ((sortM l).map (swapE ((k : Int) + 1, rawE l k) (rawE (moveL l k a) k))).Perm (entriesL (moveL l k a)) := by
    rw [hM.entries hg]; exact (sortM_perm l).map _
  rw [sortM_unique hp g1]
  exact g2
/-- all that is free is one run -/
theorem packed_runs : ∀ {S : List Ent} {a n : Nat}, TidyM a S n → gapM a S = none → (runsX ((a : Int) - 288) (S.map takeX) ((n : Int) - 288)).length ≤ 1
  | [], a, n, _, _ => by
    rw [List.map_nil, runsX_nil]; split <;> simp
  | e :: r, a, n, ⟨t1, t2, t3⟩, h => by
    unfold gapM at h
    by_cases hc : a < rAt e.2
    · rw [if_pos hc] at h; cases h
    · rw [if_neg hc] at h
      have := packed_runs t3 h
      rw [List.map_cons, runsX_cons]
      unfold takeX
      dsimp only
      rw [if_neg (by omega), List.nil_append, show ((rAt e.2 : Int) - 288 + rLen e.2) = ((rAt e.2 + rLen e.2 : Nat) : Int) - 288 by omega]
      exact this
theorem tidy_take : ∀ {S : List Ent} {a n : Nat}, TidyM a S n → Tidy ((a : Int) - 288) (S.map takeX) ((n : Int) - 288)
  | [], a, n, h => by
    have h : a ≤ n := h
    show (a : Int) - 288 ≤ (n : Int) - 288
    omega
  | e :: r, a, n, ⟨t1, t2, t3⟩ => by
    have := tidy_take t3
    refine ⟨?_, ?_, ?_⟩
    · unfold takeX; dsimp only; omega
    · unfold takeX; dsimp only; omega
    · show Tidy ((rAt e.2 : Int) - 288 + rLen e.2) (r.map takeX) _
      rw [show ((rAt e.2 : Int) - 288 + rLen e.2) = ((rAt e.2 + rLen e.2 : Nat) : Int) - 288 by omega]
      exact this
theorem packed_holes {l : Bytes} (hg : Good l) (h : gapM 288 (sortM l) = none) : (holesX ((l.length : Int) - 288) (takenL l)).length ≤ 1 ∧ mostX (holesX ((l.length : Int) - 288) (takenL l)) = ((l.length : Int) - 288) - sumX (takenL l) := by
  have ht := tidy_sortM hg
  have hc := good_chk hg
  have hs : sortE (takenL l) = (sortM l).map takeX := sortE_unique (a := ((288 : Nat) : Int) - 288) (by unfold takenL; exact (sortM_perm l).map _) (tidy_take ht)
  have h1 := packed_runs ht h
  have e : holesX ((l.length : Int) - 288) (takenL l) = runsX (((288 : Nat) : Int) - 288) ((sortM l).map takeX) ((l.length : Int) - 288) := by rw [holes_runs, hs]; rfl
  rw [← e] at h1
  refine ⟨h1, ?_⟩
  have hsum := holds_sum hc
  have hm := holes_mem hc
  generalize holesX ((l.length : Int) - 288) (takenL l) = H at *
  rcases H with _ | ⟨x, _ | ⟨y, r⟩⟩
  · have : sumX ([] : List Ext) = 0 := rfl
    show (0 : Int) = _
    omega
  · have hx := hm x (by simp)
    have e1 : sumX [x] = x.2 := by show (0 : Int) + x.2 = x.2; omega
    have e2 : mostX [x] = max 0 x.2 := rfl
    rw [e2, Int.max_eq_right (by omega)]
    omega
  · simp at h1
end Go.Proofs.YtcahgmnkphmnhaaGreat
/- Laid: library functions whose contracts are proved over whatever program: the table of numbers, and a field a function or a type. -/
namespace Go.Proofs.YtcahgmnkphmnhaaGreat
open Go.Shelf
def layE_ren : Go.Shelf.Ren := ⟨fun | 6 => 101 | 15 => 142 | 14 => 141 | 28 => 169 | 29 => 170 | 20 => 161 | 21 => 162 | 22 => 163 | 23 => 164 | 24 => 165 | 25 => 166 | 26 => 167 | 27 => 168 | 46 => 192 | 47 => 193 | 48 => 194 | 49 => 195 | 50 => 196 | 57 => 212 | n => n, fun | 22 => 124 | 24 => 97 | 25 => 162 | 3 => 3 | 39 => 195 | 0 => 0 | 53 => 217 | 55 => 219 | 4 => 4 | 46 => 211 | 45 => 210 | 50 => 129 | 5 => 5 | 9 => 9 | 66 => 234 | 70 => 238 | 76 => 250 | 77 => 113 | n => n, fun | n => n⟩
theorem layE : Go.Proofs.SlLaysF0.n6 Tryz.prog layE_ren := {
  mixed := by kernel_rfl
  f6 := ⟨Tryz.f101.name, by decide, Tryz.func101.trans (congrArg some (by kernel_rfl))⟩
  f14 := ⟨Tryz.f141.name, by decide, Tryz.func141.trans (congrArg some (by kernel_rfl))⟩
  f15 := Tryz.func142.trans (congrArg some (by kernel_rfl))
  f20 := ⟨Tryz.f161.name, by decide, Tryz.func161.trans (congrArg some (by kernel_rfl))⟩
  f21 := ⟨Tryz.f162.name, by decide, Tryz.func162.trans (congrArg some (by kernel_rfl))⟩
  f22 := ⟨Tryz.f163.name, by decide, Tryz.func163.trans (congrArg some (by kernel_rfl))⟩
  f23 := ⟨Tryz.f164.name, by decide, Tryz.func164.trans (congrArg some (by kernel_rfl))⟩
  f24 := ⟨Tryz.f165.name, by decide, Tryz.func165.trans (congrArg some (by kernel_rfl))⟩
  f25 := ⟨Tryz.f166.name, by decide, Tryz.func166.trans (congrArg some (by kernel_rfl))⟩
  f26 := ⟨Tryz.f167.name, by decide, Tryz.func167.trans (congrArg some (by kernel_rfl))⟩
  f27 := ⟨Tryz.f168.name, by decide, Tryz.func168.trans (congrArg some (by kernel_rfl))⟩
  f28 := Tryz.func169.trans (congrArg some (by kernel_rfl))
  f29 := Tryz.func170.trans (congrArg some (by kernel_rfl))
  f46 := ⟨Tryz.f192.name, by decide, Tryz.func192.trans (congrArg some (by kernel_rfl))⟩
  f47 := Tryz.func193.trans (congrArg some (by kernel_rfl))
  f48 := Tryz.func194.trans (congrArg some (by kernel_rfl))
  f49 := ⟨Tryz.f195.name, by decide, Tryz.func195.trans (congrArg some (by kernel_rfl))⟩
  f50 := ⟨Tryz.f196.name, by decide, Tryz.func196.trans (congrArg some (by kernel_rfl))⟩
  f57 := ⟨Tryz.f212.name, by decide, Tryz.func212.trans (congrArg some (by kernel_rfl))⟩
  t0 := Tryz.underlying0
  a0 := Tryz.isAgg0
  z0 := Tryz.sizeOf0
  v0 := Tryz.zeroValue0
  t3 := Tryz.underlying3
  a3 := Tryz.isAgg3
  z3 := Tryz.sizeOf3
  v3 := Tryz.zeroValue3
  t4 := Tryz.underlying4
  a4 := Tryz.isAgg4
  z4 := Tryz.sizeOf4
  v4 := Tryz.zeroValue4
  t5 := Tryz.underlying5
  a5 := Tryz.isAgg5
  z5 := Tryz.sizeOf5
  v5 := Tryz.zeroValue5
  t9 := Tryz.underlying9
  a9 := Tryz.isAgg9
  z9 := Tryz.sizeOf9
  v9 := Tryz.zeroValue9
  t22 := Tryz.underlying124
  a22 := Tryz.isAgg124
  z22 := Tryz.sizeOf124
  v22 := Tryz.zeroValue124
  t25 := Tryz.underlying162
  a25 := Tryz.isAgg162
  z25 := Tryz.sizeOf162
  v25 := Tryz.zeroValue162
  t39 := Tryz.underlying195
  a39 := Tryz.isAgg195
  z39 := Tryz.sizeOf195
  v39 := Tryz.zeroValue195
  t45 := Tryz.underlying210
  a45 := Tryz.isAgg210
  z45 := Tryz.sizeOf210
  v45 := Tryz.zeroValue210
  t46 := Tryz.underlying211
  a46 := Tryz.isAgg211
  z46 := Tryz.sizeOf211
  v46 := Tryz.zeroValue211
  t50 := Tryz.underlying129
  a50 := Tryz.isAgg129
  z50 := Tryz.sizeOf129
  v50 := Tryz.zeroValue129
  t53 := Tryz.underlying217
  a53 := Tryz.isAgg217
  z53 := Tryz.sizeOf217
  v53 := Tryz.zeroValue217
  t55 := Tryz.underlying219
  a55 := Tryz.isAgg219
  z55 := Tryz.sizeOf219
  v55 := Tryz.zeroValue219
  t66 := Tryz.underlying234
  a66 := Tryz.isAgg234
  z66 := Tryz.sizeOf234
  v66 := Tryz.zeroValue234
  t70 := Tryz.underlying238
  a70 := Tryz.isAgg238
  z70 := Tryz.sizeOf238
  v70 := Tryz.zeroValue238
  t76 := Tryz.underlying250
  a76 := Tryz.isAgg250
  z76 := Tryz.sizeOf250
  v76 := Tryz.zeroValue250
  t77 := Tryz.underlying113
  a77 := Tryz.isAgg113
  z77 := Tryz.sizeOf113
  v77 := Tryz.zeroValue113 }
end Go.Proofs.YtcahgmnkphmnhaaGreat
/- The contracts of heap.Move and of package move's Step. -/
namespace Go.Proofs.YtcahgmnkphmnhaaGreat
open Go.RowKit Go.Sort Go.Shelf Go.Lib

theorem HpM.rowB {w0 w w' : World} {F F' : Nat → Prop} {h : Nat} {l' : Bytes} (hm : HpM w0 w w' F F' h l') {g cap : Nat} {b : Bytes} (hr : Row w 5 g cap b) (hn : ¬ F g) : Row w' 5 g cap b ∧ ¬ F' g :=
  ⟨hr.block (hm.kp.block _ hr.lt hn), fun hk => by rcases hm.nw _ hk with h | h; exact hn h; have := hr.lt; omega⟩
/-- the closure of Step -/
theorem closeM (x y : Ent) (W : World) : Calls Tryz.prog 102 #[.agg #[.int .i64 x.1, .int .i64 (rAt x.2), .int .i64 (rLen x.2), .int .i64 (rTag x.2)], .agg #[.int .i64 y.1, .int .i64 (rAt y.2), .int .i64 (rLen y.2), .int .i64 (rTag y.2)]] W fun e w' => e = .returned (.int .i64 (cmpM x y)) ∧ ∃ q os', w' = grow (W.drewN q) os' := by
  have hcon := fun W' => compare_any (rAt x.2 : Int) (rAt y.2 : Int) W'
  have HC := Hidden.mk hcon
  have HX : Hidden (cmpM x y = Lib.compareInt (rAt x.2 : Int) (rAt y.2 : Int)) := ⟨rfl⟩
  clear hcon
  rw [HX.out]
  generalize Lib.compareInt (rAt x.2 : Int) (rAt y.2 : Int) = r at *
  generalize (rAt x.2 : Int) = xa at *
  generalize (rLen x.2 : Int) = xl at *
  generalize (rTag x.2) = xt at *
  generalize (rAt y.2 : Int) = ya at *
  generalize (rLen y.2 : Int) = yl at *
  generalize (rTag y.2) = yt at *
  go_enter Tryz.func102, Tryz.ntmps102
  go_wp2_with (go_at_call 103; refine (HC.out _).mono ?_; rintro e w' ⟨rfl, rfl⟩)
  go_ret
  exact ⟨rfl, 0, _, by rw [alloc_eq_grow, alloc_eq_grow, grow_grow]; rfl⟩
theorem sortN_any (w : World) (base n : Nat) (v : Value) (L : List Ent) (hn : L.length = n) (hl : n ≤ 1000) (hown : w.ownsRow base 97 4 v n (L.flatMap ecells)) :
    Calls Tryz.prog 101 #[v, .func (.func 102) #[] #[]] w fun e w' => e = .returned (.tuple #[]) ∧ w'.ownsRow base 97 4 v n ((pdqL cmpM L).flatMap ecells) ∧ w.grownBy w' v.ownBlock := by
  rcases hown.2 with ⟨rfl, h0⟩ | ⟨g, cap, cur, rfl, hb, hh, _⟩
  · have hL : L = [] := List.eq_nil_of_length_eq_zero (by omega)
    subst hL h0
    have hs : pdqL cmpM [] = [] := List.Perm.eq_nil (pdqL_perm cmpM swoM []).1
    have hc := AnyF.slices_SortFunc_none layE none 0 (.func (.func 102) #[] #[]) w
    change Calls Tryz.prog 101 _ _ _ at hc
    refine hc.mono ?_
    rintro e w' ⟨rfl, rfl⟩
    exact ⟨rfl, by rw [hs]; exact hown, World.grownBy.refl _ _⟩
  · have eg : ∀ args w, (callFunc 102 args).run Tryz.prog w = .ok (.enter 102 args) w := enters_of Tryz.func102 (by kernel_rfl) rfl
    have hcon := AnyQ.slices_SortFunc_eq layE 4 Tryz.isAgg97 Tryz.sizeOf97 ecells (fun _ => rfl) (fun x v hv => by simp [ecells] at hv; rcases hv with rfl | rfl | rfl | rfl <;> rfl) cmpM swoM 102 #[] g 0 cap L.toArray w eg
      (fun _ _ _ _ x y => closeM x y _) (holdsK_own (k := 4) (enc := ecells) (fun _ => rfl) (by decide) hown) (Array.getElem?_eq_some_iff.1 hh).1 (by simp only [List.size_toArray]; omega)
    change Calls Tryz.prog 101 _ _ _ at hcon
    have hsz : L.toArray.size = n := by simpa using hn
    rw [hsz] at hcon
    refine hcon.mono ?_
    rintro e w' ⟨rfl, m, os, rfl⟩
    have hds : (pdq (ltOf cmpM) L.toArray 0 n (Lib.bitLen n) true true).size = n := by
      have := (pdqL_perm cmpM swoM L).1.length_eq
      unfold pdqL at this
      rw [Array.length_toList, hn] at this
      exact this
    have h2 := own_sortedK (k := 4) (m := m) (os := os) (enc := ecells) (fun _ => rfl) (by decide) hds hown
    refine ⟨rfl, ?_, h2.2⟩
    have he : pdqL cmpM L = (pdq (ltOf cmpM) L.toArray 0 n (Lib.bitLen n) true true).toList := by unfold pdqL; rw [hn]
    rw [he]
    exact h2.1
section
variable {w0 w : World} {F : Nat → Prop} {h : Nat} {l : Bytes}
set_option maxRecDepth 100000 in
theorem hmove_ok (k a : Nat) (hp : Hp w0 w F h l) (hg : Good l) (hk : k < 40) (hh : hasE (rawE l k) = true) (ha : 288 ≤ a) (ha1 : a < rAt (rawE l k)) :
    Calls Tryz.prog 104 #[.pointer (some ⟨h, 0, none⟩), .agg #[.int .i64 ((k : Int) + 1), .int .i64 (rAt (rawE l k)), .int .i64 (rLen (rawE l k)), .int .i64 (rTag (rawE l k))], .int .i64 (a : Int)] w fun e w' => e = .returned .nilIface ∧ ∃ F', HpM w0 w w' F F' h (moveL l k a) := by
  have hb := hg.bd
  have hs := strayE_false (hg.s.fit k hk hh)
  obtain ⟨g, cap, c0, -, hcap, -, hrow, hF⟩ := hp.head
  have hbl : ((l.drop (rAt (rawE l k))).take (rLen (rawE l k))).length = rLen (rawE l k) := by simp; omega
  have hcut := hrow.rd.cut (rAt (rawE l k)) (rLen (rawE l k)) (by omega)
  rw [Option.map_some, Addr.add_lit, Nat.zero_add] at hcut
  have hPT : putEnt l ((k : Int) + 1) (a : Int) (rLen (rawE l k)) (rTag (rawE l k)) = splice l (5 * k) (entB a (rLen (rawE l k)) (rTag (rawE l k)).toNat) := by unfold putEnt; rw [entO_k]; rfl
  have hpl : (putEnt l ((k : Int) + 1) (a : Int) (rLen (rawE l k)) (rTag (rawE l k))).length = l.length := putEnt_len l _ _ _ _ (by omega) (by omega) (by omega)
  have hML : moveL l k a = splice (putEnt l ((k : Int) + 1) (a : Int) (rLen (rawE l k)) (rTag (rawE l k))) a ((l.drop (rAt (rawE l k))).take (rLen (rawE l k))) := by rw [hPT]; rfl
  have HPUT := Hidden.mk (fun (W : World) (hW : Hp w0 W F h l) => hput_ok ((k : Int) + 1) (a : Int) (rLen (rawE l k)) (rTag (rawE l k)) hW (handleB_true.2 (by omega)) (tagB_true.2 (by omega)) (lenB_true.2 (by omega)) (withinB_true.2 (by omega)))
  rw [hML]
  have HPL := Hidden.mk hpl
  have HP := Hidden.mk hp
  have HBD : Hidden (a + rLen (rawE l k) ≤ l.length ∧ rAt (rawE l k) + rLen (rawE l k) ≤ l.length ∧ l.length ≤ 6400 ∧ 1 ≤ rLen (rawE l k)) := ⟨by omega⟩
  generalize putEnt l ((k : Int) + 1) (a : Int) (rLen (rawE l k)) (rTag (rawE l k)) = l1 at *
  generalize rTag (rawE l k) = tg at *
  generalize rLen (rawE l k) = m at *
  generalize rAt (rawE l k) = ea at *
  generalize (l.drop ea).take m = body at *
  generalize (k : Int) + 1 = x at *
  have HBL := Hidden.mk hbl
  have HCUT := Hidden.mk hcut
  have hal := (Below.refl w.heap.size w).alloc (Nat.le_refl _) (.cells #[.int .i64 x, .int .i64 (ea : Int), .int .i64 (m : Int), .int .i64 tg] 97)
  have hf := fourAt_one w x (ea : Int) (m : Int) tg 97
  have hbk := heap_alloc_new w (.cells #[.int .i64 x, .int .i64 (ea : Int), .int .i64 (m : Int), .int .i64 tg] 97)
  have HOF := Hidden.mk (hof_any (h := h) g cap ea m x tg (w.alloc (.cells #[.int .i64 x, .int .i64 (ea : Int), .int .i64 (m : Int), .int .i64 tg] 97)) ⟨_, (hal.cell (p := ⟨h, 0, none⟩) (block_lt_of_cell c0)).trans c0⟩ (by omega) (by omega) (by omega))
  have HAL := Hidden.mk hal
  have HF4 := Hidden.mk hf
  have HBK := Hidden.mk hbk
  obtain ⟨f0, f1, f2, f3⟩ := hf
  have hcw := hrow.le.2
  clear hp hg hb hs hh ha ha1 hrow hbl hcut hPT hpl hML hal hbk c0 hk
  go_enter Tryz.func104, Tryz.ntmps104
  go_wp2_with fail
  generalize w.alloc (.cells #[.int .i64 x, .int .i64 (ea : Int), .int .i64 (m : Int), .int .i64 tg] 97) = w1 at *
  refine HOF.out.mono ?_
  rintro e w2 ⟨rfl, hb2⟩
  have HB2 := Hidden.mk (HAL.out.trans (hb2.mono HAL.out.size))
  have HK2 := Hidden.mk ((hb2.block _ (block_lt_of_cell f0)).trans HBK.out)
  have HCL := Hidden.mk (clone_some ⟨g, ea, none⟩ m (cap - ea) body w2 HBL.out (by have := HBD.out; omega) (HCUT.out.below HB2.out))
  clear hb2 HOF f0 f1 f2 f3 HAL HF4 HBK
  go_wp2_with fail
  refine HCL.out.mono ?_
  rintro e w3 ⟨gB, cB, rfl, hgB, hrowB, hb3⟩
  have HB3 := Hidden.mk (HB2.out.trans (hb3.mono HB2.out.size))
  have hlt2 : w.heap.size < w2.heap.size := (Array.getElem?_eq_some_iff.1 HK2.out).1
  have hk3 := (hb3.block _ hlt2).trans HK2.out
  have hfz : w3.frozen? ⟨w.heap.size, 1, none⟩ = false := frozen_of_row _ _ 1 _ _ hk3
  have f0 : w3.cell? ⟨w.heap.size, 0, none⟩ = some (.int .i64 x) := by simp [World.cell?, hk3]
  have f1 : w3.cell? ⟨w.heap.size, 1, none⟩ = some (.int .i64 (ea : Int)) := by simp [World.cell?, hk3]
  have hk4 := heap_setK (k := 1) hk3 (.int .i64 (a : Int))
  have hrB4 := hrowB.block (Below.heap_setCell w3 ⟨w.heap.size, 1, none⟩ (.int .i64 (a : Int)) _ (show gB ≠ w.heap.size by omega))
  have HB4 := Hidden.mk (HB3.out.setCell (p := ⟨w.heap.size, 1, none⟩) (Nat.le_refl _) (.int .i64 (a : Int)))
  have hn4 : ¬ F gB := fun hk => by have := HP.out.flt _ hk; have := HB2.out.size; omega
  clear hlt2 hb3 HCL HK2 HCUT hgB hrowB
  have HP4 := Hidden.mk (HP.out.below HB4.out)
  have HRB := Hidden.mk hrB4
  have HN4 := Hidden.mk hn4
  clear hrB4 hn4
  go_upto_region 3 with (fail)
  generalize w3.setCell ⟨w.heap.size, 1, none⟩ (.int .i64 (a : Int)) = w4 at *
  have g0 : w4.cell? ⟨w.heap.size, 0, none⟩ = some (.int .i64 x) := by simp [World.cell?, hk4]
  have g1 : w4.cell? ⟨w.heap.size, 1, none⟩ = some (.int .i64 (a : Int)) := by simp [World.cell?, hk4]
  have g2 : w4.cell? ⟨w.heap.size, 2, none⟩ = some (.int .i64 (m : Int)) := by simp [World.cell?, hk4]
  have g3 : w4.cell? ⟨w.heap.size, 3, none⟩ = some (.int .i64 tg) := by simp [World.cell?, hk4]
  have HK4 := Hidden.mk hk4
  clear hk3 hfz f0 f1 hk4
  go_wp2_with fail
  refine (HPUT.out _ HP4.out).mono ?_
  rintro e w5 ⟨rfl, F5, hm5⟩
  have hno : ¬ F w.heap.size := fun hk => by have := HP.out.flt _ hk; omega
  have hk5 := (hm5.kp.block _ (Array.getElem?_eq_some_iff.1 HK4.out).1 hno).trans HK4.out
  have j0 : w5.cell? ⟨w.heap.size, 0, none⟩ = some (.int .i64 x) := by simp [World.cell?, hk5]
  have j1 : w5.cell? ⟨w.heap.size, 1, none⟩ = some (.int .i64 (a : Int)) := by simp [World.cell?, hk5]
  have j2 : w5.cell? ⟨w.heap.size, 2, none⟩ = some (.int .i64 (m : Int)) := by simp [World.cell?, hk5]
  have j3 : w5.cell? ⟨w.heap.size, 3, none⟩ = some (.int .i64 tg) := by simp [World.cell?, hk5]
  have HRB5 := Hidden.mk (hm5.rowB HRB.out HN4.out).1
  obtain ⟨gi, ci, cur5, y0, -, -, hci, -, -, -, -⟩ := hm5.hp.rowW
  rw [HPL.out] at y0 hci
  have HOF := Hidden.mk (hof_any (h := h) gi ci a m x tg w5 ⟨_, y0⟩ (by have := HBD.out; omega) (by have := HBD.out; omega) (by have := HBD.out; omega))
  have HM := Hidden.mk ((HP.out.same HB4.out).trans hm5)
  have HY0 := Hidden.mk y0
  clear g0 g1 g2 g3 hno hk5 hm5 y0 HPUT HK4 HRB HN4 HP4
  go_wp2_with fail
  refine HOF.out.mono ?_
  rintro e w6 ⟨rfl, hb6⟩
  have hm6 := HM.out.trans (HM.out.hp.same hb6)
  obtain ⟨g6, c6, cur6, z0, z1, z2, z3, -, -, -, z4⟩ := hm6.hp.rowW
  have hyz := ((hb6.cell (p := ⟨h, 0, none⟩) (block_lt_of_cell HY0.out)).trans HY0.out).symm.trans z0
  have hyz := Option.some.inj hyz
  injection hyz with q1 q2 q3
  injection q1 with q1
  injection q1 with q1
  subst q1 q3
  rw [HPL.out] at z3
  have hrb6 := HRB5.out.below hb6 HRB5.out.lt
  have hcp := fun ty => run_copy_rd w6 gi a m (ci - a) m cB m (some ⟨gB, 0, none⟩) body cur6 _ z1 HBL.out hrb6.rd (by simp) (by have := HBD.out; omega) ty
  have HFIN : Hidden (HpM w0 w (w6.setRow gi (setB cur6 a ((body.take m).map bv))) F F5 h (splice l1 a body)) := ⟨by
    have hbt : body.take m = body := List.take_of_length_le (by rw [HBL.out]; exact Nat.le_refl _)
    rw [hbt]
    have := z4 a body (by rw [HPL.out, HBL.out]; have := HBD.out; omega)
    exact hm6.trans ⟨this.1, this.2, fun k hk => .inl hk⟩⟩
  clear z0 z1 z2 z3 z4 hm6 hb6 HOF HM HY0 q2 hrb6 HRB5 j0 j1 j2 j3
  go_wp2_with fail
  go_ret
  exact ⟨rfl, F5, by have hF := HFIN.out; rw [List.map_take] at hF; exact hF⟩
end
end Go.Proofs.YtcahgmnkphmnhaaGreat
/- Package move: Step, All, Gain; stat.Heap. -/
namespace Go.Proofs.YtcahgmnkphmnhaaGreat
open Go.RowKit Go.Sort Go.Shelf Go.Lib

/-- is there a step; the image behind it -/
def stepB (l : Bytes) : Bool := (gapM 288 (sortM l)).isSome
def stepL (l : Bytes) : Bytes := match gapM 288 (sortM l) with
  | some (e, a) => moveL l (e.1 - 1).toNat a
  | none => l
theorem stepL_some {l : Bytes} {e : Ent} {a : Nat} (h : gapM 288 (sortM l) = some (e, a)) : stepL l = moveL l (e.1 - 1).toNat a := by unfold stepL; rw [h]
theorem stepL_none {l : Bytes} (h : gapM 288 (sortM l) = none) : stepL l = l := by unfold stepL; rw [h]
theorem gapM_ge : ∀ {S : List Ent} {b n : Nat} {e : Ent} {a : Nat}, TidyM b S n → gapM b S = some (e, a) → b ≤ a ∧ a < rAt e.2 ∧ e ∈ S
  | [], _, _, _, _, _, h => by cases h
  | x :: r, b, n, e, a, ⟨t1, t2, t3⟩, h => by
    unfold gapM at h
    by_cases hc : b < rAt x.2
    · rw [if_pos hc] at h
      have h' := Option.some.inj h
      injection h' with h3 h4
      subst h3 h4
      exact ⟨Nat.le_refl _, hc, List.mem_cons_self ..⟩
    · rw [if_neg hc] at h
      obtain ⟨g1, g2, g3⟩ := gapM_ge t3 h
      exact ⟨by omega, g2, List.mem_cons_of_mem _ g3⟩
section
variable {w0 w : World} {F : Nat → Prop} {h : Nat} {l : Bytes}
set_option maxRecDepth 100000 in
theorem mstep_any (hp : Hp w0 w F h l) (hg : Good l) :
    Calls Tryz.prog 63 #[.pointer (some ⟨h, 0, none⟩)] w fun e w' => e = .returned (.tuple #[.bool (stepB l), .nilIface]) ∧ ∃ F', HpM w0 w w' F F' h (stepL l) := by
  have hl40 : (entriesL l).length ≤ 40 := entsL_len _ _ 40
  have HC := Hidden.mk (hentries_any hp)
  have HP := Hidden.mk hp
  have htd := tidy_sortM hg
  have HSLN : Hidden ((sortM l).length = (entriesL l).length) := ⟨(sortM_perm l).length_eq⟩
  have HSB : Hidden (∀ e ∈ sortM l, rAt e.2 ≤ 6400 ∧ rLen e.2 ≤ 6400) := ⟨fun e he => by have := tidyM_mem htd e he; have := hg.bd; omega⟩
  have HSORT : Hidden (∀ W v, W.ownsRow w.heap.size 97 4 v (entriesL l).length ((entriesL l).flatMap ecells) → Calls Tryz.prog 101 #[v, .func (.func 102) #[] #[]] W fun e w' => e = .returned (.tuple #[]) ∧ w'.ownsRow w.heap.size 97 4 v (entriesL l).length ((sortM l).flatMap ecells) ∧ W.grownBy w' v.ownBlock) := ⟨fun W v hown => sortN_any W w.heap.size _ v (entriesL l) rfl (by omega) hown⟩
  have HMV : Hidden (∀ (W : World) (e : Ent) (a : Nat), Hp w0 W F h l → gapM 288 (sortM l) = some (e, a) → Calls Tryz.prog 104 #[.pointer (some ⟨h, 0, none⟩), .agg #[.int .i64 e.1, .int .i64 (rAt e.2), .int .i64 (rLen e.2), .int .i64 (rTag e.2)], .int .i64 (a : Int)] W fun e w' => e = .returned .nilIface ∧ ∃ F', HpM w0 W w' F F' h (stepL l)) := ⟨fun W e a hW hgap => by
    obtain ⟨g1, g2, g3⟩ := gapM_ge htd hgap
    obtain ⟨k, hk, hh, rfl⟩ := entL_mem.1 ((sortM_perm l).mem_iff.1 g3)
    rw [stepL_some hgap, show ((((k : Int) + 1, rawE l k) : Ent).1 - 1).toNat = k by dsimp only; omega]
    exact hmove_ok k a hW hg hk hh g1 g2⟩
  have HNO : Hidden (gapM 288 (sortM l) = none → stepL l = l) := ⟨stepL_none⟩
  have HB : Hidden (stepB l = (gapM 288 (sortM l)).isSome) := ⟨rfl⟩
  generalize stepL l = l' at *
  generalize stepB l = sb at *
  generalize sortM l = T at *
  generalize entriesL l = E at *
  generalize hm : E.length = m at *
  have HM := Hidden.mk hm
  clear hp hg htd hm
  go_enter Tryz.func63, Tryz.ntmps63
  go_wp2_with fail
  refine HC.out.mono ?_
  rintro e w1 ⟨v1, rfl, hown1, hb1⟩
  have HO1 := Hidden.mk (And.intro hown1 hb1)
  clear hown1 hb1 HC
  go_wp2_with fail
  refine (HSORT.out _ _ HO1.out.1).mono ?_
  rintro e w2 ⟨rfl, hown2, hg2⟩
  have hb2 : Below w.heap.size w w2 := HO1.out.2.grown hg2 HO1.out.2.size (fun q hq => (HO1.out.1.lt q hq).1)
  obtain ⟨A2, c2, rfl, hc2, -⟩ := own_split hown2
  have HRX := Hidden.mk (own_rdX3 (f := ecells) (fun _ => rfl) HSLN.out hown2)
  have HB2 := Hidden.mk hb2
  clear hown2 hb2 hg2 HO1 HSORT
  go_wp2_with fail
  go_loopg [5, 14] m (fun q av i wr => ∃ (k a : Nat), k ≤ m ∧ q = m - k ∧ i = .int .i64 (k : Int) ∧ av = .int .i64 (a : Int) ∧ a ≤ 12800 ∧ Hidden (gapM 288 T = gapM a (T.drop k) ∧ Below w2.heap.size w2 wr))
  case atStart => exact ⟨0, 288, by omega, rfl, rfl, rfl, by omega, ⟨by rw [List.drop_zero], Below.refl _ _⟩⟩
  case round =>
    obtain ⟨k, a, hk, rfl, rfl, rfl, ha, hst⟩ := hrel
    by_cases hlt : k < m
    · have hkT : k < T.length := by rw [HSLN.out]; exact hlt
      obtain ⟨pp, oo, rfl, hcx⟩ := (HRX.out.below hst.out.2) k hkT
      have x0 := hcx 0 _ rfl
      have x1 := hcx 1 _ rfl
      have x2 := hcx 2 _ rfl
      have x3 := hcx 3 _ rfl
      rw [Nat.add_zero] at x0
      have HG : Hidden (gapM 288 T = if a < rAt T[k].2 then some (T[k], a) else gapM (rAt T[k].2 + rLen T[k].2) (T.drop (k + 1))) := ⟨by rw [hst.out.1, List.drop_eq_getElem_cons hkT]; rfl⟩
      have hbd := HSB.out T[k] (List.getElem_mem hkT)
      have HMVK : Hidden (∀ W : World, Hp w0 W F h l → gapM 288 T = some (T[k], a) → Calls Tryz.prog 104 #[.pointer (some ⟨h, 0, none⟩), .agg #[.int .i64 T[k].1, .int .i64 (rAt T[k].2), .int .i64 (rLen T[k].2), .int .i64 (rTag T[k].2)], .int .i64 (a : Int)] W fun e w' => e = .returned .nilIface ∧ ∃ F', HpM w0 W w' F F' h l') := ⟨fun W hW hgap => HMV.out W _ a hW hgap⟩
      generalize T[k] = e at *
      have HSM : Hidden (gapM 288 T = some (e, a) → sb = true) := ⟨fun hh => by rw [HB.out, hh]; rfl⟩
      generalize some (e, a) = se at *
      generalize e.1 = e0 at *
      generalize rAt e.2 = e1 at *
      generalize rLen e.2 = e2 at *
      generalize rTag e.2 = e3 at *
      have i0 : (0 : Int) ≤ k := by omega
      have i1 : (k : Int) < m := by omega
      have s1 : IntKind.i64.wrap ((e1 : Int) + e2) = (e1 : Int) + e2 := IntWalk.i64_in _ (by omega)
      have s3 : IntKind.i64.wrap ((k : Int) + 1) = (k : Int) + 1 := IntWalk.i64_in _ (by omega)
      have hal : Below wr.heap.size wr (wr.alloc (.cells #[.int .i64 e0, .int .i64 e1, .int .i64 e2, .int .i64 e3] 97)) := (Below.refl _ _).alloc (Nat.le_refl _) _
      have HN := Hidden.mk (hst.out.2.trans (hal.mono hst.out.2.size))
      clear hcx hal hst
      by_cases hc : a < e1
      · have d1 : decide ((a : Int) < e1) = true := by simp; omega
        have d1' : decide (a < e1) = true := by simpa using hc
        have hgs : gapM 288 T = se := by rw [HG.out, if_pos hc]
        have hsb := HSM.out hgs
        subst hsb
        have hbw := HB2.out.trans (HN.out.mono HB2.out.size)
        have HCM := Hidden.mk (HMVK.out _ (HP.out.below hbw) hgs)
        have HBW := Hidden.mk (HP.out.same hbw)
        clear hgs hbw HSM HMVK HG hc
        go_wp2_with fail
        refine HCM.out.mono ?_
        rintro e w9 ⟨rfl, F', hm9⟩
        have HF := Hidden.mk (HBW.out.trans hm9)
        clear hm9 HCM
        go_wp2_with fail
        go_ret2
        exact ⟨rfl, F', HF.out⟩
      · have d1 : decide ((a : Int) < e1) = false := by simp; omega
        have d1' : decide (a < e1) = false := by simpa using hc
        have hgs : Hidden (gapM 288 T = gapM (e1 + e2) (T.drop (k + 1))) := ⟨by rw [HG.out, if_neg hc]⟩
        clear HSM HMVK HG hc
        go_wp2_with fail
        go_roundg (m - (k + 1))
        case measure => omega
        case rel => exact ⟨k + 1, e1 + e2, by omega, rfl, by go_num, by go_num, by omega, ⟨hgs.out, HN.out⟩⟩
    · obtain rfl : k = m := by omega
      have hgn : gapM 288 T = none := by rw [hst.out.1, List.drop_eq_nil_of_le (by rw [HSLN.out]; exact Nat.le_refl _)]; rfl
      have hsb : sb = false := by rw [HB.out, hgn]; rfl
      have hll := HNO.out hgn
      subst hsb hll
      have HF := Hidden.mk (HP.out.same (HB2.out.trans (hst.out.2.mono HB2.out.size)))
      clear hst hgn
      go_wp2_with fail
      go_ret2
      exact ⟨rfl, F, HF.out⟩
end
end Go.Proofs.YtcahgmnkphmnhaaGreat
/- Package move: All, Gain; stat.Heap. -/
namespace Go.Proofs.YtcahgmnkphmnhaaGreat
open Go.RowKit

/-- what moving leaves as it was -/
structure MovedR (l l' : Bytes) : Prop where
  good : Good l'
  len : l'.length = l.length
  obj : ∀ j, j < 40 → objT l' j = objT l j ∧ objS l' j = objS l j
  roots : rootsL l' = rootsL l
  rots : ∀ i, i < 8 → rawR l' i = rawR l i
  many : (takenL l').length = (takenL l).length
  sum : sumX (takenL l') = sumX (takenL l)
  has : ∀ j, j < 40 → hasE (rawE l' j) = hasE (rawE l j)
theorem MovedR.refl {l : Bytes} (hg : Good l) : MovedR l l := ⟨hg, rfl, fun _ _ => ⟨rfl, rfl⟩, rfl, fun _ _ => rfl, rfl, rfl, fun _ _ => rfl⟩
theorem MovedR.trans {l l' l'' : Bytes} (a : MovedR l l') (b : MovedR l' l'') : MovedR l l'' :=
  ⟨b.good, b.len.trans a.len, fun j hj => ⟨(b.obj j hj).1.trans (a.obj j hj).1, (b.obj j hj).2.trans (a.obj j hj).2⟩, b.roots.trans a.roots, fun i hi => (b.rots i hi).trans (a.rots i hi), b.many.trans a.many, b.sum.trans a.sum, fun j hj => (b.has j hj).trans (a.has j hj)⟩
theorem MoveIs.moved {l l' : Bytes} {k a : Nat} (h : MoveIs l l' k a) (hg : Good l) : MovedR l l' := by
  obtain ⟨t1, t2⟩ := h.taken hg
  refine ⟨h.good hg, h.len, fun j hj => h.keep hg hj, h.roots, h.rots, t1, t2, fun j hj => ?_⟩
  by_cases e : j = k
  · rw [e, (h.ent hg).1, h.has]
  · rw [h.ents j hj, if_neg e]
theorem step_moved {l : Bytes} (hg : Good l) : MovedR l (stepL l) ∧ (stepB l = true → packM 288 (sortM (stepL l)) < packM 288 (sortM l)) ∧ (stepB l = false → stepL l = l ∧ gapM 288 (sortM l) = none) := by
  cases hgap : gapM 288 (sortM l) with
  | none => exact ⟨by rw [stepL_none hgap]; exact MovedR.refl hg, fun h => (by unfold stepB at h; rw [hgap] at h; cases h), fun _ => ⟨stepL_none hgap, rfl⟩⟩
  | some p =>
    obtain ⟨e, a⟩ := p
    obtain ⟨k, he, hM, hp⟩ := step_is hg hgap
    have hk : (e.1 - 1).toNat = k := by rw [he]; dsimp only; omega
    have hs := stepL_some hgap
    rw [hk] at hs
    exact ⟨by rw [hs]; exact hM.moved hg, fun _ => (by rw [hs]; exact hp), fun h => (by unfold stepB at h; rw [hgap] at h; cases h)⟩
/-- step by step -/
def allF : Nat → Bytes → Nat × Bytes
  | 0, l => (0, l)
  | f + 1, l => if stepB l = true then ((allF f (stepL l)).1 + 1, (allF f (stepL l)).2) else (0, l)
def allN (l : Bytes) : Nat := (allF 40 l).1
def allL (l : Bytes) : Bytes := (allF 40 l).2
theorem pack40 (l : Bytes) : packM 288 (sortM l) ≤ 40 := Nat.le_trans (packM_le _ _) (by rw [(sortM_perm l).length_eq]; exact entsL_len _ _ 40)
theorem allF_done : ∀ (f : Nat) (l : Bytes), Good l → packM 288 (sortM l) ≤ f → MovedR l (allF f l).2 ∧ gapM 288 (sortM (allF f l).2) = none ∧ (allF f l).1 ≤ f
  | 0, l, hg, h => ⟨MovedR.refl hg, packM_zero (Nat.le_zero.1 h), Nat.le_refl _⟩
  | f + 1, l, hg, h => by
    obtain ⟨h1, h2, h3⟩ := step_moved hg
    unfold allF
    cases hs : stepB l with
    | true =>
      have := h2 hs
      obtain ⟨i1, i2, i3⟩ := allF_done f (stepL l) h1.good (by omega)
      simp only [if_true]
      exact ⟨h1.trans i1, i2, by omega⟩
    | false =>
      simp only [Bool.false_eq_true, if_false]
      exact ⟨MovedR.refl hg, (h3 hs).2, by omega⟩
theorem all_done {l : Bytes} (hg : Good l) : MovedR l (allL l) ∧ gapM 288 (sortM (allL l)) = none ∧ allN l ≤ 40 := allF_done 40 l hg (pack40 l)
section
variable {w0 w : World} {F : Nat → Prop} {h : Nat} {l : Bytes}
set_option maxRecDepth 100000 in
theorem mall_any (hp : Hp w0 w F h l) (hg : Good l) :
    Calls Tryz.prog 19 #[.pointer (some ⟨h, 0, none⟩)] w fun e w' => e = .returned (.tuple #[.int .i64 (allN l : Int), .nilIface]) ∧ ∃ F', HpM w0 w w' F F' h (allL l) := by
  have HP : Hidden (HpM w0 w w F F h l ∧ Good l ∧ packM 288 (sortM l) ≤ 40 ∧ (allN l, allL l) = (0 + (allF 40 l).1, (allF 40 l).2)) := ⟨hp.same (Below.refl _ _), hg, pack40 l, by rw [Nat.zero_add]; rfl⟩
  clear hp hg
  generalize allN l = an at *
  generalize allL l = al at *
  go_enter Tryz.func19, Tryz.ntmps19
  go_wp2_with fail
  go_loopg [4] 41 (fun q nv wr => ∃ (n f : Nat) (F' : Nat → Prop) (l' : Bytes), n + f = 40 ∧ q = f + 1 ∧ nv = .int .i64 (n : Int) ∧ Hidden (HpM w0 w wr F F' h l' ∧ Good l' ∧ packM 288 (sortM l') ≤ f ∧ (an, al) = (n + (allF f l').1, (allF f l').2)))
  case atStart => exact ⟨0, 40, F, l, rfl, rfl, rfl, HP⟩
  case round =>
    obtain ⟨n, f, F', l', hnf, rfl, rfl, hst⟩ := hrel
    have HST := Hidden.mk hst.out
    have HC := Hidden.mk (mstep_any hst.out.1.hp hst.out.2.1)
    have hbf : f = 0 → stepB l' = false := fun h0 => by
      have hgn := packM_zero (a := 288) (S := sortM l') (by have := hst.out.2.2.1; omega)
      unfold stepB; rw [hgn]; rfl
    have HBF := Hidden.mk hbf
    have HSM := Hidden.mk (step_moved hst.out.2.1)
    have HAF : Hidden (∀ g, f = g + 1 → allF f l' = if stepB l' = true then ((allF g (stepL l')).1 + 1, (allF g (stepL l')).2) else (0, l')) := ⟨fun g hg => by rw [hg]; rfl⟩
    have HAZ : Hidden (f = 0 → allF f l' = (0, l')) := ⟨fun hg => by rw [hg]; rfl⟩
    have s1 : IntKind.i64.wrap ((n : Int) + 1) = (n : Int) + 1 := IntWalk.i64_in _ (by omega)
    clear hst hbf HP
    cases hb : stepB l' with
    | true =>
      rw [hb] at HC
      have hf : f ≠ 0 := fun h0 => by have := HBF.out h0; rw [hb] at this; cases this
      obtain ⟨g, rfl⟩ : ∃ g, f = g + 1 := ⟨f - 1, by omega⟩
      have HA1 := Hidden.mk (HAF.out g rfl)
      rw [hb, if_pos rfl] at HA1
      have hlt := HSM.out.2.1 hb
      have HN : Hidden (Good (stepL l') ∧ packM 288 (sortM (stepL l')) ≤ g ∧ (an, al) = (n + 1 + (allF g (stepL l')).1, (allF g (stepL l')).2)) := ⟨HSM.out.1.good, by have := HST.out.2.2.1; omega, by rw [HST.out.2.2.2, HA1.out]; simp; omega⟩
      clear hlt HAF HAZ HBF HSM HA1 hb hf
      generalize stepL l' = l2 at *
      go_wp2_with fail
      refine HC.out.mono ?_
      rintro e w5 ⟨rfl, F5, hm⟩
      have HM := Hidden.mk (HST.out.1.trans hm)
      clear hm HC HST
      go_wp2_with fail
      go_roundg (g + 1)
      case measure => omega
      case rel => exact ⟨n + 1, g, F5, l2, by omega, rfl, by go_num, ⟨HM.out, HN.out⟩⟩
    | false =>
      rw [hb] at HC
      have hsl := (HSM.out.2.2 hb).1
      rw [hsl] at HC
      have HE : Hidden ((an, al) = (n, l')) := ⟨by
        have h1 := HST.out.2.2.2
        rw [h1]
        by_cases h0 : f = 0
        · rw [HAZ.out h0]; rfl
        · rw [HAF.out (f - 1) (by omega), hb]; rfl⟩
      have he1 : an = n := congrArg Prod.fst HE.out
      have he2 : al = l' := congrArg Prod.snd HE.out
      subst he1 he2
      clear HAF HAZ HBF HSM hb hsl HE
      go_wp2_with fail
      refine HC.out.mono ?_
      rintro e w5 ⟨rfl, F5, hm⟩
      have HM := Hidden.mk (HST.out.1.trans hm)
      clear hm HC HST
      go_wp2_with fail
      go_ret2
      exact ⟨rfl, F5, HM.out⟩
/-- how full a heap is -/
def statH (l : Bytes) : Value := statX ((l.length : Int) - 288) (takenL l)
theorem statH_good {l : Bytes} (hg : Good l) : statH l = statV (takenL l).length (sumX (takenL l)) ((l.length : Int) - 288 - sumX (takenL l)) (mostX (holesX ((l.length : Int) - 288) (takenL l))) (holesX ((l.length : Int) - 288) (takenL l)).length := by
  unfold statH statX; rw [if_pos (good_chk hg)]
set_option maxRecDepth 100000 in
theorem sheap_any (hp : Hp w0 w F h l) (hg : Good l) :
    Calls Tryz.prog 24 #[.pointer (some ⟨h, 0, none⟩)] w fun e w' => e = .returned (.tuple #[statH l, .nilIface]) ∧ Below w.heap.size w w' := by
  have HC : Hidden (∀ W, Below w.heap.size w W → Calls Tryz.prog 50 #[.pointer (some ⟨h, 0, none⟩)] W fun e w' => ∃ A m c, e = .returned (.tuple #[.int .i64 ((l.length : Int) - 288), .slice A m c]) ∧ (takenL l).length = m ∧ m ≤ c ∧ RdX tcells 2 w' A (takenL l) ∧ Below W.heap.size W w') := ⟨fun W hW => htaken_any (hp.below hW)⟩
  have HX : Hidden (∀ (A : Option Addr) (m c : Nat) (W : World), (takenL l).length = m → m ≤ c → RdX tcells 2 W A (takenL l) → Calls Tryz.prog 68 #[.int .i64 ((l.length : Int) - 288), .slice A m c] W fun e w' => e = .returned (.tuple #[statH l, .nilIface]) ∧ Below W.heap.size W w') := ⟨fun A m c W h1 h2 h3 => by
    have := xstat_any ((l.length : Int) - 288) A m c (takenL l) W h1 h2 h3
    rw [good_chk hg, show errV 0 = Value.nilIface from rfl] at this
    exact this⟩
  have HB0 := Hidden.mk ((Below.refl w.heap.size w).alloc (Nat.le_refl _) (.cells #[.int .i64 0, .int .i64 0, .int .i64 0, .int .i64 0, .int .i64 0] 57))
  have HBK0 := Hidden.mk (heap_alloc_new w (.cells #[.int .i64 0, .int .i64 0, .int .i64 0, .int .i64 0, .int .i64 0] 57))
  rw [statH_good hg] at *
  unfold statV at *
  generalize (sumX (takenL l)) = a1 at *
  generalize mostX (holesX ((l.length : Int) - 288) (takenL l)) = a3 at *
  generalize ((holesX ((l.length : Int) - 288) (takenL l)).length : Int) = a4 at *
  generalize ((takenL l).length : Int) = a0 at *
  generalize (l.length : Int) - 288 = nn at *
  generalize nn - a1 = a2 at *
  clear hp hg
  go_enter Tryz.func24, Tryz.ntmps24
  go_wp2_with fail
  generalize w.alloc (.cells #[.int .i64 0, .int .i64 0, .int .i64 0, .int .i64 0, .int .i64 0] 57) = w0' at *
  refine (HC.out _ HB0.out).mono ?_
  rintro e w1 ⟨A, m, c, rfl, hm, hmc, hr, hb1⟩
  have hlt : w.heap.size < w0'.heap.size := (Array.getElem?_eq_some_iff.1 HBK0.out).1
  have HBK1 := Hidden.mk ((hb1.block _ hlt).trans HBK0.out)
  have HB1 := Hidden.mk (HB0.out.trans (hb1.mono HB0.out.size))
  have HCS := Hidden.mk (HX.out A m c w1 hm hmc hr)
  clear hm hmc hr hb1 hlt HC HX HB0 HBK0
  go_wp2_with fail
  refine HCS.out.mono ?_
  rintro e w2 ⟨rfl, hb2⟩
  have hbk := (hb2.block _ (Array.getElem?_eq_some_iff.1 HBK1.out).1).trans HBK1.out
  have HB2 := Hidden.mk (HB1.out.trans (hb2.mono HB1.out.size))
  have y0 : ∀ q, w2.frozen? ⟨w.heap.size, q, none⟩ = false := fun q => frozen_of_row _ _ q _ _ hbk
  have z0 : w2.cell? ⟨w.heap.size, 0, none⟩ = some (.int .i64 0) := by simp [World.cell?, hbk]
  have z1 : w2.cell? ⟨w.heap.size, 1, none⟩ = some (.int .i64 0) := by simp [World.cell?, hbk]
  have z2 : w2.cell? ⟨w.heap.size, 2, none⟩ = some (.int .i64 0) := by simp [World.cell?, hbk]
  have z3 : w2.cell? ⟨w.heap.size, 3, none⟩ = some (.int .i64 0) := by simp [World.cell?, hbk]
  have z4 : w2.cell? ⟨w.heap.size, 4, none⟩ = some (.int .i64 0) := by simp [World.cell?, hbk]
  clear hb2 hbk HBK1 HB1 HCS
  go_wp2_with fail
  refine bodyPost_ret (v := .tuple #[.agg #[.int .i64 a0, .int .i64 a1, .int .i64 a2, .int .i64 a3, .int .i64 a4], .nilIface]) ?_ rfl ?_
  · rw [results_cell_tmp rfl]
    go_simp
  · exact ⟨rfl, ((((HB2.out.setCell (p := ⟨w.heap.size, 0, none⟩) (Nat.le_refl _) _).setCell (p := ⟨w.heap.size, 1, none⟩) (Nat.le_refl _) _).setCell (p := ⟨w.heap.size, 2, none⟩) (Nat.le_refl _) _).setCell (p := ⟨w.heap.size, 3, none⟩) (Nat.le_refl _) _).setCell (p := ⟨w.heap.size, 4, none⟩) (Nat.le_refl _) _⟩
/-- what moving would gain -/
def gainL (l : Bytes) : Int := (l.length : Int) - 288 - sumX (takenL l) - mostX (holesX ((l.length : Int) - 288) (takenL l))
end
end Go.Proofs.YtcahgmnkphmnhaaGreat
/- Package reach: what an object names. -/
namespace Go.Proofs.YtcahgmnkphmnhaaGreat
open Go.RowKit

theorem indexN_any (A : Option Addr) (n c : Nat) (L : List Nat) (x : Nat) (w : World) (hn : L.length = n) (hl : n ≤ 100000) (hr : RdX ncell 1 w A L) :
    Calls Tryz.prog 146 #[.slice A n c, .int .i64 (x : Int)] w fun e w' => ∃ z : Int, e = .returned (.int .i64 z) ∧ decide (0 ≤ z) = decide (x ∈ L) ∧ w = w' := by
  subst hn
  go_enter Tryz.func146, Tryz.ntmps146
  go_wp2_with fail
  go_loopw [8] (fun i wr => w = wr ∧ ∃ k : Nat, k ≤ L.length ∧ i = .int .i64 k ∧ Hidden (x ∉ L.take k)) (fun i _ => L.length - (intOf i).toNat)
  case atStart => exact ⟨rfl, 0, Nat.zero_le _, rfl, ⟨by simp⟩⟩
  case round =>
    obtain ⟨rfl, k, hk, rfl, hnot⟩ := hrel
    by_cases hlt : k < L.length
    · obtain ⟨b, off, rfl, hcx⟩ := hr k hlt
      have c0 : w.cell? ⟨b, off + k, none⟩ = some (.int .i64 (L[k] : Int)) := by simpa using hcx 0 _ rfl
      have i0 : (0 : Int) ≤ k := by omega
      have i1 : (k : Int) < L.length := by omega
      by_cases he : x = L[k]
      · have hi : Hidden (true = decide (x ∈ L)) := ⟨(decide_eq_true (he ▸ List.getElem_mem hlt)).symm⟩
        have d1 : decide ((x : Int) = (L[k] : Int)) = true := decide_eq_true (by omega)
        have d2 : ((x : Int) == (L[k] : Int)) = true := by simp; omega
        have d3 : decide (x = L[k]) = true := decide_eq_true he
        generalize L[k] = y at *
        clear hcx he
        go_wp2_with fail
        go_ret
        exact ⟨_, rfl, by rw [← hi.out]; simp, rfl⟩
      · have hnk : Hidden (x ∉ L.take (k + 1)) := ⟨fun h => by
          rw [List.take_succ_eq_append_getElem hlt] at h
          rcases List.mem_append.1 h with h | h
          · exact hnot.out h
          · simp only [List.mem_singleton] at h; exact he h⟩
        have d1 : decide ((x : Int) = (L[k] : Int)) = false := decide_eq_false (by omega)
        have d2 : ((x : Int) == (L[k] : Int)) = false := by simp; omega
        have d3 : decide (x = L[k]) = false := decide_eq_false he
        generalize L[k] = y at *
        clear hnot hcx he
        go_wp2_with fail
        go_roundw
        case rel => exact ⟨by trivial, k + 1, by omega, by go_num, hnk⟩
        case measure => simp [intOf]; omega
    · have hi : Hidden (false = decide (x ∈ L)) := ⟨by
        have := hnot.out
        rw [List.take_of_length_le (by omega)] at this
        exact (decide_eq_false this).symm⟩
      go_wp2_with fail
      go_ret
      exact ⟨-1, rfl, by rw [← hi.out]; rfl, rfl⟩
theorem containsN_any (A : Option Addr) (n c : Nat) (L : List Nat) (x : Nat) (w : World) (hn : L.length = n) (hl : n ≤ 100000) (hr : RdX ncell 1 w A L) :
    Calls Tryz.prog 113 #[.slice A n c, .int .i64 (x : Int)] w fun e w' => e = .returned (.bool (decide (x ∈ L))) ∧ w = w' := by
  have HC := Hidden.mk (indexN_any A n c L x w hn hl hr)
  go_enter Tryz.func113, Tryz.ntmps113
  go_wp2_with fail
  refine HC.out.mono ?_
  rintro e w1 ⟨z, rfl, hz, rfl⟩
  have HZ := Hidden.mk hz
  clear hz
  go_wp2_with fail
  go_ret
  exact ⟨congrArg (fun b => Ending.returned (.bool b)) HZ.out, rfl⟩
/-- the objects that some bytes name -/
def refB (l : Bytes) (out : List Nat) (c : UInt8) : List Nat := if hE l (c.toNat : Int) = 0 ∧ c.toNat ∉ out then out ++ [c.toNat] else out
def refsB (l b : Bytes) : List Nat := b.foldl (refB l) []
/-- the objects that an object names -/
def refsL (l : Bytes) (x : Int) : List Nat := refsB l (readL l x 0 (min (gL l x) (gT l x)))
theorem refsB_succ (l b : Bytes) (k : Nat) (hk : k < b.length) : refsB l (b.take (k + 1)) = refB l (refsB l (b.take k)) b[k] := by
  unfold refsB; rw [List.take_succ_eq_append_getElem hk, List.foldl_append]; rfl
theorem refsB_len (l b : Bytes) : ∀ k, k ≤ b.length → (refsB l (b.take k)).length ≤ k
  | 0, _ => by simp [refsB]
  | k + 1, hk => by
    rw [refsB_succ l b k hk]
    have := refsB_len l b k (by omega)
    unfold refB
    split
    · simp; omega
    · omega
theorem refsB_mem (l b : Bytes) : ∀ k, k ≤ b.length → ∀ x ∈ refsB l (b.take k), hE l (x : Int) = 0
  | 0, _, x, h => by simp [refsB] at h
  | k + 1, hk, x, h => by
    rw [refsB_succ l b k hk] at h
    unfold refB at h
    split at h
    · rename_i hc
      rcases List.mem_append.1 h with h | h
      · exact refsB_mem l b k (by omega) x h
      · simp only [List.mem_singleton] at h; subst h; exact hc.1
    · exact refsB_mem l b k (by omega) x h
section
variable {w0 w : World} {F : Nat → Prop} {h : Nat} {l : Bytes}
set_option maxRecDepth 100000 in
theorem refs_any (x : Int) (hp : Hp w0 w F h l) (hg : Good l) :
    Calls Tryz.prog 72 #[.pointer (some ⟨h, 0, none⟩), .int .i64 x] w fun e w' => ∃ v, e = .returned v ∧ w'.ownsRow w.heap.size 3 1 v (refsL l x).length ((refsL l x).flatMap ncell) ∧ Below w.heap.size w w' := by
  obtain ⟨i0', hi0, hz0, hz1, hz2⟩ := info_parts int_infoC
  have HI := Hidden.mk (And.intro hi0 (And.intro hz0 (And.intro hz1 hz2)))
  have HP := Hidden.mk hp
  have HSZ := Hidden.mk (hsize_any x hp)
  have HTG : Hidden (∀ (y : Int) (W : World), Below w.heap.size w W → Calls Tryz.prog 60 #[.pointer (some ⟨h, 0, none⟩), .int .i64 y] W fun e w' => e = .returned (.tuple #[.int .i64 (gT l y), errV (hE l y)]) ∧ Below W.heap.size W w') := ⟨fun y W hW => htag_any y (hp.below hW)⟩
  have hgl : gL l x ≤ 65535 := by
    unfold gL; split
    · have := rLen_le (hR l x); omega
    · omega
  have HRD : Hidden (∀ W, Below w.heap.size w W → Calls Tryz.prog 112 #[.pointer (some ⟨h, 0, none⟩), .int .i64 x, .int .i64 0, .int .i64 (min (gL l x) (gT l x))] W fun e w' => ∃ A' c', e = .returned (.tuple #[.slice A' (readL l x 0 (min (gL l x) (gT l x))).length c', errV (someE l x 0 (min (gL l x) (gT l x)))]) ∧ (readL l x 0 (min (gL l x) (gT l x))).length ≤ c' ∧ Rd w' A' (readL l x 0 (min (gL l x) (gT l x))) ∧ (∀ ad, A' = some ad → W.heap.size ≤ ad.block) ∧ Below W.heap.size W w') := ⟨fun W hW => hread_any x 0 _ (hp.below hW) hg (by omega)⟩
  have hbl : (readL l x 0 (min (gL l x) (gT l x))).length ≤ 65535 := by
    unfold readL; split
    · simp; omega
    · simp
  have HRL : Hidden (refsL l x = refsB l (readL l x 0 (min (gL l x) (gT l x)))) := ⟨rfl⟩
  generalize readL l x 0 (min (gL l x) (gT l x)) = b at *
  generalize refsL l x = R at *
  generalize errV (someE l x 0 (min (gL l x) (gT l x))) = er at *
  have HTX := Hidden.mk (HTG.out x)
  generalize errV (hE l x) = ex at *
  generalize gL l x = n0 at *
  generalize gT l x = t0 at *
  clear hi0 hz0 hz1 hz2 hp hg
  go_enter Tryz.func72, Tryz.ntmps72
  go_wp2_with fail
  refine HSZ.out.mono ?_
  rintro e w1 ⟨rfl, hb1⟩
  have HB1 := Hidden.mk hb1
  clear hb1 HSZ
  go_wp2_with fail
  refine (HTX.out w1 HB1.out).mono ?_
  rintro e w2 ⟨rfl, hb2⟩
  have HB2 := Hidden.mk (HB1.out.trans (hb2.mono HB1.out.size))
  clear hb2 HTX HB1
  go_wp2_with fail
  refine (HRD.out w2 HB2.out).mono ?_
  rintro e w3 ⟨A3, c3, rfl, hc3, hr3, -, hb3⟩
  have HB3 := Hidden.mk (HB2.out.trans (hb3.mono HB2.out.size))
  have HR3 := Hidden.mk hr3
  generalize hm : b.length = m at *
  have HM := Hidden.mk hm
  clear hc3 hr3 hb3 HRD HB2 hm
  go_wp2_with fail
  go_loopg [4, 38] m (fun q v i wr => ∃ k : Nat, k ≤ m ∧ q = m - k ∧ i = .int .i64 (k : Int) ∧ Hidden (Below w3.heap.size w3 wr ∧ wr.ownsRow w3.heap.size 3 1 v (refsB l (b.take k)).length ((refsB l (b.take k)).flatMap ncell)))
  case atStart => exact ⟨0, by omega, rfl, rfl, ⟨Below.refl _ _, World.ownsRow_nil _ _ _ _⟩⟩
  case round =>
    obtain ⟨k, hk, rfl, rfl, hst⟩ := hrel
    by_cases hlt : k < m
    · have hkb : k < b.length := by rw [HM.out]; exact hlt
      have HS := Hidden.mk (refsB_succ l b k hkb)
      have hll := refsB_len l b k (by omega)
      obtain ⟨pb, ob, rfl, x0⟩ := (HR3.out.below hst.out.1) k hkb
      obtain ⟨A4, c4, rfl, hc4, hc4m⟩ := own_split hst.out.2
      have hc255 := u8_lt b[k]
      have HO4 := Hidden.mk hst.out
      have HBW : Hidden (Below w.heap.size w wr) := ⟨HB3.out.trans (hst.out.1.mono HB3.out.size)⟩
      generalize b[k] = cb at *
      generalize refsB l (b.take k) = L at *
      generalize hL2 : refsB l (b.take (k + 1)) = L2 at *
      have HL2 := Hidden.mk hL2
      have i0 : (0 : Int) ≤ k := by omega
      have i1 : (k : Int) < m := by omega
      have s1 : IntKind.i64.wrap (cb.toNat : Int) = (cb.toNat : Int) := IntWalk.i64_in _ (by omega)
      have s3 : IntKind.i64.wrap ((k : Int) + 1) = (k : Int) + 1 := IntWalk.i64_in _ (by omega)
      have HT := Hidden.mk (HTG.out (cb.toNat : Int) wr HBW.out)
      generalize gT l (cb.toNat : Int) = tg at *
      clear hst hL2
      by_cases h0 : hE l (cb.toNat : Int) = 0
      · rw [h0, show errV 0 = Value.nilIface from rfl] at HT
        have HS1 : Hidden (L2 = if cb.toNat ∉ L then L ++ [cb.toNat] else L) := ⟨by rw [HS.out]; unfold refB; simp only [h0, true_and]⟩
        clear h0 HS
        go_wp2_with fail
        refine HT.out.mono ?_
        rintro e w5 ⟨rfl, hb5⟩
        have HO5 : Hidden (Below w3.heap.size w3 w5 ∧ w5.ownsRow w3.heap.size 3 1 (.slice A4 L.length c4) L.length (L.flatMap ncell)) := ⟨HO4.out.1.trans (hb5.mono HO4.out.1.size), own_below HO4.out.2 hb5⟩
        have HCN := Hidden.mk (containsN_any A4 L.length c4 L cb.toNat w5 rfl (by omega) (own_rdX3 (f := ncell) (fun _ => rfl) rfl HO5.out.2))
        clear hb5 HT HO4
        by_cases hin : cb.toNat ∈ L
        · rw [decide_eq_true hin] at HCN
          have HLL : Hidden (L2 = L) := ⟨by rw [HS1.out, if_neg (fun h => h hin)]⟩
          clear hin HS1
          go_wp2_with fail
          refine HCN.out.mono ?_
          rintro e w6 ⟨rfl, rfl⟩
          clear HCN
          go_wp2_with fail
          go_roundg (m - (k + 1))
          case measure => omega
          case rel => exact ⟨k + 1, by omega, rfl, by go_num, ⟨by rw [HL2.out, HLL.out]; exact HO5.out⟩⟩
        · rw [decide_eq_false hin] at HCN
          have HLL : Hidden (L2 = L ++ [cb.toNat]) := ⟨by rw [HS1.out, if_pos hin]⟩
          obtain ⟨hi0, hz0, hz1, hz2⟩ := HI.out
          clear hin HS1
          go_wp2_with fail
          refine HCN.out.mono ?_
          rintro e w6 ⟨rfl, rfl⟩
          clear HCN
          go_wp2_with (at_builtin; refine wpList_append_lies _ rfl (.tmp 58) (.tmp 61) _ rfl w3.heap.size 3 i0' _ 1 8 Tryz.underlying24 hi0 hz0 hz1 hz2 rfl (by decide) (.slice A4 L.length c4) L.length (L.flatMap ncell) rfl (own_below HO5.out.2 ((Below.refl _ _).alloc (Nat.le_refl _) _)) ⟨(w5).heap.size, 0, none⟩ 1 1 [.int .i64 (cb.toNat : Int)] rfl rfl (World.news_of_block (cs := #[.int .i64 (cb.toNat : Int)]) (t := 3) (fr := (0, 0)) (heap_alloc_new (w5) _)) (by simp [Value.oneCell']) (by omega) (by simp only [maxLen]; omega) (by omega) (by have hz_ := HO5.out.1.size; rw [World.size_alloc]; omega) ((w5).heap.size + 1) (by simp) ?_; intro g8 cap8 w8 hown8 hg8 hat8 hlt8)
          have hgW := grown_trans' ((Below.refl w5.heap.size w5).alloc (Nat.le_refl _) _) hg8
          have hB8 : Below w3.heap.size w3 w8 := HO5.out.1.grown hgW HO5.out.1.size (fun q hq => (HO5.out.2.lt q hq).1)
          have HF : Hidden (Below w3.heap.size w3 w8 ∧ w8.ownsRow w3.heap.size 3 1 (.slice (some ⟨g8, 0, none⟩) (L.length + 1) cap8) L2.length (L2.flatMap ncell)) := ⟨hB8, by rw [HLL.out]; simpa [ncell] using hown8⟩
          clear hgW hB8 hown8 hg8 hat8 hlt8 hi0 hz0 hz1 hz2
          go_roundg (m - (k + 1))
          case measure => omega
          case rel => exact ⟨k + 1, by omega, rfl, by go_num, ⟨by rw [HL2.out]; exact HF.out⟩⟩
      · obtain ⟨ec, hec⟩ : ∃ ec, hE l (cb.toNat : Int) = ec + 1 := ⟨hE l (cb.toNat : Int) - 1, by omega⟩
        have HLL : Hidden (L2 = L) := ⟨by rw [HS.out]; unfold refB; rw [if_neg (fun h => h0 h.1)]⟩
        rw [hec, show errV (ec + 1) = .iface 88 (.int .i64 ((ec + 1 : Nat) : Int)) from rfl] at HT
        clear h0 hec HS
        go_wp2_with fail
        refine HT.out.mono ?_
        rintro e w5 ⟨rfl, hb5⟩
        have HO5 : Hidden (Below w3.heap.size w3 w5 ∧ w5.ownsRow w3.heap.size 3 1 (.slice A4 L.length c4) L.length (L.flatMap ncell)) := ⟨HO4.out.1.trans (hb5.mono HO4.out.1.size), own_below HO4.out.2 hb5⟩
        clear hb5 HT HO4
        go_wp2_with fail
        go_roundg (m - (k + 1))
        case measure => omega
        case rel => exact ⟨k + 1, by omega, rfl, by go_num, ⟨by rw [HL2.out, HLL.out]; exact HO5.out⟩⟩
    · have hkm : k = m := by omega
      have hT := hst.out
      rw [hkm, List.take_of_length_le (by rw [HM.out]; exact Nat.le_refl _), ← HRL.out] at hT
      have HF : Hidden (wr.ownsRow w.heap.size 3 1 u4 R.length (R.flatMap ncell) ∧ Below w.heap.size w wr) := ⟨own_base hT.2 HB3.out.size, HB3.out.trans (hT.1.mono HB3.out.size)⟩
      have dk : decide ((k : Int) < m) = false := decide_eq_false (by omega)
      have dk' : decide (k < m) = false := decide_eq_false (by omega)
      clear hT hst hkm
      go_wp2_with fail
      go_ret
      exact ⟨_, rfl, HF.out.1, HF.out.2⟩
theorem reachRefs_no (x : Int) (hp : Hp w0 w F h l) (h0 : hE l x ≠ 0) :
    Calls Tryz.prog 33 #[.pointer (some ⟨h, 0, none⟩), .int .i64 x] w fun e w' => e = .returned (.tuple #[.slice none 0 0, errV (hE l x)]) ∧ Below w.heap.size w w' := by
  have HT := Hidden.mk (htag_any x hp)
  obtain ⟨ec, hec⟩ : ∃ ec, hE l x = ec + 1 := ⟨hE l x - 1, by omega⟩
  rw [hec, show errV (ec + 1) = .iface 88 (.int .i64 ((ec + 1 : Nat) : Int)) from rfl] at HT ⊢
  generalize gT l x = tg at *
  generalize ((ec + 1 : Nat) : Int) = ei at *
  clear hp h0 hec
  go_enter Tryz.func33, Tryz.ntmps33
  go_wp2_with fail
  refine HT.out.mono ?_
  rintro e w1 ⟨rfl, hb1⟩
  have HB := Hidden.mk hb1
  clear hb1 HT
  go_wp2_with fail
  go_ret2
  exact ⟨rfl, HB.out⟩
theorem reachRefs_ok (x : Int) (hp : Hp w0 w F h l) (hg : Good l) (h0 : hE l x = 0) :
    Calls Tryz.prog 33 #[.pointer (some ⟨h, 0, none⟩), .int .i64 x] w fun e w' => ∃ v, e = .returned (.tuple #[v, .nilIface]) ∧ w'.ownsRow w.heap.size 3 1 v (refsL l x).length ((refsL l x).flatMap ncell) ∧ Below w.heap.size w w' := by
  have HT := Hidden.mk (htag_any x hp)
  rw [h0, show errV 0 = Value.nilIface from rfl] at HT
  have HR : Hidden (∀ W, Below w.heap.size w W → Calls Tryz.prog 72 #[.pointer (some ⟨h, 0, none⟩), .int .i64 x] W fun e w' => ∃ v, e = .returned v ∧ w'.ownsRow W.heap.size 3 1 v (refsL l x).length ((refsL l x).flatMap ncell) ∧ Below W.heap.size W w') := ⟨fun W hW => refs_any x (hp.below hW) hg⟩
  generalize gT l x = tg at *
  generalize refsL l x = R at *
  clear hp hg h0
  go_enter Tryz.func33, Tryz.ntmps33
  go_wp2_with fail
  refine HT.out.mono ?_
  rintro e w1 ⟨rfl, hb1⟩
  have HB := Hidden.mk hb1
  clear hb1 HT
  go_wp2_with fail
  refine (HR.out w1 HB.out).mono ?_
  rintro e w2 ⟨v, rfl, hown, hb2⟩
  obtain ⟨A4, c4, rfl, -, -⟩ := own_split hown
  have HF : Hidden (w2.ownsRow w.heap.size 3 1 (.slice A4 R.length c4) R.length (R.flatMap ncell) ∧ Below w.heap.size w w2) := ⟨own_base hown HB.out.size, HB.out.trans (hb2.mono HB.out.size)⟩
  clear hown hb2 HR HB
  go_wp2_with fail
  go_ret2
  exact ⟨_, rfl, HF.out.1, HF.out.2⟩
end
end Go.Proofs.YtcahgmnkphmnhaaGreat
