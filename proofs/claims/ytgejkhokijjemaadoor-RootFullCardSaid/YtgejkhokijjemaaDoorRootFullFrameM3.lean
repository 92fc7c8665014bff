/- Contracts and plain laws, put together: RefI5, Root1, Ext4, ExtP, Heap6, HeapP, Root2, Root3, RootFullP, RootFullQ, Told, Told2, Told3, RootFull1. -/
import Derived.Test.YtgejkhokijjemaaDoorRootFullFrameM2
import Derived.Deep.RegionHeld3
import Derived.Test.YtgejkhokijjemaaDoorRootFullFrameM1
import Derived.LaidEql
import Derived.Stop.Asserts
import Derived.RowKitTokens
/- The reference on images: PutRoot. -/
namespace Go.Proofs.YtgejkhokijjemaaDoor
open Go.RowKit

/-- the fault of a root that is put -/
def rootE (i : Int) (s : Bytes) (h : Int) : Nat := if i < 0 ∨ 8 ≤ i then 1 else if s = [] ∧ h = 0 then 0 else if handleB h = false then 1 else if isName s = false then 2 else 0
def rootF (l : Bytes) (i : Int) (s : Bytes) (h : Int) : Bytes := if rootE i s h = 0 then splice l (rootO i) (if s = [] ∧ h = 0 then List.replicate 11 0 else rootB s h) else []
theorem rootB_get (s : Bytes) (h : Int) (h8 : s.length ≤ 8) (q : Nat) : (rootB s h)[q]? = if q < s.length then s[q]? else if q < 10 then some 0 else if q = 10 then some (UInt8.ofNat h.toNat) else none := by
  unfold rootB nameB
  by_cases h1 : q < s.length
  · rw [if_pos h1, List.append_assoc, List.getElem?_append_left h1]
  · rw [if_neg h1, List.append_assoc, List.getElem?_append_right (by omega)]
    have he : ∀ r, r < 10 - s.length → ((List.replicate (8 - s.length) (0 : UInt8)) ++ [0, 0, UInt8.ofNat h.toNat])[r]? = some 0 := fun r hr => by
      by_cases h2 : r < 8 - s.length
      · rw [List.getElem?_append_left (by simpa using h2)]; simp [h2]
      · rw [List.getElem?_append_right (by simpa using h2), List.length_replicate]
        have : r - (8 - s.length) = 0 ∨ r - (8 - s.length) = 1 := by omega
        rcases this with h | h <;> rw [h] <;> rfl
    by_cases h2 : q < 10
    · rw [if_pos h2, he _ (by omega)]
    · rw [if_neg h2]
      by_cases h3 : q = 10
      · rw [if_pos h3, List.getElem?_append_right (by simp; omega), List.length_replicate, show q - s.length - (8 - s.length) = 2 by omega]; rfl
      · rw [if_neg h3, List.getElem?_append_right (by simp; omega), List.length_replicate]
        apply List.getElem?_eq_none
        simp; omega
theorem rootB_set (l s : Bytes) (o : Nat) (h : Int) (h8 : s.length ≤ 8) (ho : o + 11 ≤ l.length) : (splice (splice l o (List.replicate 11 0)) o s).set (o + 10) (UInt8.ofNat h.toNat) = splice l o (rootB s h) := by
  have hrl : (rootB s h).length = 11 := by unfold rootB nameB; simp; omega
  have hl1 : (splice l o (List.replicate 11 (0 : UInt8))).length = l.length := splice_len _ _ _ (by simpa using ho)
  have hl2 : (splice (splice l o (List.replicate 11 (0 : UInt8))) o s).length = l.length := by rw [splice_len _ _ _ (by rw [hl1]; omega)]; exact hl1
  apply List.ext_getElem?
  intro p
  rw [List.getElem?_set, hl2, splice_at _ _ _ _ (by rw [hl1]; omega), splice_at _ _ _ _ (by simpa using ho), splice_at _ _ _ _ (by rw [hrl]; exact ho), rootB_get s h h8, hrl, List.length_replicate]
  by_cases h1 : o ≤ p ∧ p < o + 11
  · simp only [if_pos h1]
    by_cases h2 : p - o < s.length
    · rw [if_pos h2, if_neg (by omega), if_pos (by omega)]
    · rw [if_neg h2]
      by_cases h3 : p - o < 10
      · rw [if_pos h3, if_neg (by omega), if_neg (by omega), List.getElem?_replicate, if_pos (by omega)]
      · rw [if_neg h3, if_pos (by omega), if_pos (by omega), if_pos (by omega)]
  · simp only [if_neg h1]
    rw [if_neg (by omega), if_neg (by omega)]
theorem two_cells {w w' : World} {a b : Value} {t : TypeId} (hb : Below (w.alloc (.cells #[a, b] t)).heap.size (w.alloc (.cells #[a, b] t)) w') : w'.cell? ⟨w.heap.size, 0, none⟩ = some a ∧ w'.cell? ⟨w.heap.size, 1, none⟩ = some b := by
  have h := (hb.block w.heap.size (by simp)).trans (heap_alloc_new w (.cells #[a, b] t))
  refine ⟨?_, ?_⟩ <;> simp [World.cell?, h]
/-- the program's PutRoot, told likewise -/
theorem iroot_ans (A : Option Addr) (n c : Nat) (l : Bytes) (i : Int) (s : Bytes) (h : Int) (w : World) (hs : s.length ≤ 140737488351232) (hln : l.length = n) (hnc : n ≤ c) (hr : rightB n = true) (hrd : Rd w A l) :
    Calls Tryd.prog 118 #[.slice A n c, .int .i64 i, rootV s h] w fun e w' => RowAns w w' e (rootF l i s h) (errV (rootE i s h)) := by
  have hnb := rightB_true.1 hr
  have hlen : ∀ X : Bytes, X.length = 11 → 0 ≤ i → i < 8 → (splice l (rootO i) X).length = n := fun X hX h1 h2 => by
    rw [splice_len _ _ _ (by unfold rootO; omega)]; exact hln
  unfold rootF
  by_cases hi : i < 0 ∨ 8 ≤ i
  · have hE : rootE i s h = 1 := by unfold rootE; rw [if_pos hi]
    rw [hE]
    exact (root_e1 A n c i s h w hr hi).mono fun e w' ⟨he, hb⟩ => ⟨none, 0, he, Rd.nil_, hb⟩
  by_cases h0 : s = [] ∧ h = 0
  · have hE : rootE i s h = 0 := by unfold rootE; rw [if_neg hi, if_pos h0]
    rw [hE, if_pos rfl, if_pos h0]
    obtain ⟨rfl, rfl⟩ := h0
    refine (root_zero A n c l i w hln hnc hrd hr (by omega) (by omega)).mono ?_
    rintro e w' ⟨g, cap, rfl, hg, hrow, hb⟩
    exact ⟨some ⟨g, 0, none⟩, cap, by rw [hlen _ (by simp) (by omega) (by omega)]; rfl, hrow.rd, hb⟩
  cases hh : handleB h with
  | false =>
    have hE : rootE i s h = 1 := by unfold rootE; rw [if_neg hi, if_neg h0, if_pos hh]
    rw [hE]
    exact (root_e1h A n c i s h w hr (by omega) (by omega) h0 hh).mono fun e w' ⟨he, hb⟩ => ⟨none, 0, he, Rd.nil_, hb⟩
  | true =>
    cases hnm : isName s with
    | false =>
      have hE : rootE i s h = 2 := by unfold rootE; rw [if_neg hi, if_neg h0, if_neg (by simp [hh]), if_pos hnm]
      rw [hE]
      exact (root_e2 A n c i s h w hs hr (by omega) (by omega) hh hnm).mono fun e w' ⟨he, hb⟩ => ⟨none, 0, he, Rd.nil_, hb⟩
    | true =>
      have hE : rootE i s h = 0 := by unfold rootE; rw [if_neg hi, if_neg h0, if_neg (by simp [hh]), if_neg (by simp [hnm])]
      rw [hE, if_pos rfl, if_neg h0]
      refine (root_ok A n c l i s h w hln hrd hr (by omega) (by omega) hh hnm).mono ?_
      rintro e w' ⟨g, cap, rfl, hg, hrow, hb⟩
      have hl11 : (rootB s h).length = 11 := by have := nameB_len s hnm; unfold rootB; simp; omega
      exact ⟨some ⟨g, 0, none⟩, cap, by rw [hlen _ hl11 (by omega) (by omega)]; rfl, hrow.rd, hb⟩
end Go.Proofs.YtgejkhokijjemaaDoor
/- Names that lead: root.Get; the reference's Lead and Object. -/
namespace Go.Proofs.YtgejkhokijjemaaDoor
open Go.RowKit

/-- where a name leads first; 0: nowhere -/
def leadR (L : List (Bytes × Nat)) (s : Bytes) : Nat := match L.find? (fun r => r.1 == s) with
  | none => 0
  | some r => r.2
theorem leadR_none {L : List (Bytes × Nat)} {s : Bytes} (h : ∀ x ∈ L, (x.1 == s) = false) : leadR L s = 0 := by
  unfold leadR
  rw [List.find?_eq_none.2 (fun x hx => by rw [h x hx]; decide)]
theorem leadR_at {L : List (Bytes × Nat)} {s : Bytes} (k : Nat) (hk : k < L.length) (h : (L[k].1 == s) = true) (hn : ∀ j (hj : j < k), (L[j].1 == s) = false) : leadR L s = L[k].2 := by
  unfold leadR
  rw [(List.find?_eq_some_iff_getElem (p := fun r : Bytes × Nat => r.1 == s)).2 ⟨h, k, hk, rfl, fun j hj => by rw [hn j hj]; rfl⟩]
theorem good_roots {l : Bytes} (hg : Good l) {r : Bytes × Nat} (h : r ∈ rootsL l) : 1 ≤ r.2 ∧ r.2 ≤ 40 ∧ hE l r.2 = 0 := by
  unfold rootsL rootsF at h
  simp only [List.mem_map, List.mem_filter, List.mem_range, Bool.not_eq_true'] at h
  obtain ⟨i, ⟨hi, hz⟩, rfl⟩ := h
  have hb := badR_lead (hg.s.root i hi hz)
  obtain ⟨k, hk, hh, hx⟩ := leadsS_iff.1 hb
  have he := (hE_has hk hh).1
  simp only [rootP]
  rw [hx]
  exact ⟨by omega, by omega, by simpa using he⟩
def getRE (l s : Bytes) (tag : Int) : Nat := if isName s = false then 2 else if tag < -1 ∨ 15 < tag then 1 else if leadR (rootsL l) s = 0 then 5 else if 0 ≤ tag ∧ gT l (leadR (rootsL l) s) ≠ tag then 8 else 0
def getRH (l s : Bytes) (tag : Int) : Nat := if getRE l s tag = 0 then leadR (rootsL l) s else 0
section
variable {w0 w : World} {F : Nat → Prop} {h : Nat} {l : Bytes}
set_option maxRecDepth 100000 in
theorem rget_any (s : Bytes) (tag : Int) (hp : Hp w0 w F h l) (hg : Good l) (hs : s.length ≤ 140737488351232) :
    Calls Tryd.prog 17 #[.pointer (some ⟨h, 0, none⟩), sv s, .int .i64 tag] w fun e w' => e = .returned (.tuple #[.int .i64 (getRH l s tag : Int), errV (getRE l s tag)]) ∧ Below w.heap.size w w' := by
  have HAL := Hidden.mk ((Below.refl w.heap.size w).alloc (Nat.le_refl _) (.cells #[sv s] 9))
  have HBX := Hidden.mk (heap_alloc_new w (.cells #[sv s] 9))
  have HP := Hidden.mk hp
  have HE : Hidden (getRE l s tag = if isName s = false then 2 else if tag < -1 ∨ 15 < tag then 1 else if leadR (rootsL l) s = 0 then 5 else if 0 ≤ tag ∧ gT l (leadR (rootsL l) s) ≠ tag then 8 else 0) := ⟨rfl⟩
  have HH : Hidden (getRH l s tag = if getRE l s tag = 0 then leadR (rootsL l) s else 0) := ⟨rfl⟩
  have hbx0 : (w.alloc (.cells #[sv s] 9)).cell? ⟨w.heap.size, 0, none⟩ = some (sv s) := by simp only [World.cell?]; rw [HBX.out]; rfl
  clear hp
  cases hn : isName s with
  | false =>
    have he : getRE l s tag = 2 := by rw [HE.out, if_pos hn]
    have hh : getRH l s tag = 0 := by rw [HH.out, he]; rfl
    rw [he, hh]
    have HC := Hidden.mk (putName_no s (w.alloc (.cells #[sv s] 9)) hs hn)
    clear HE HH he hh hn hg
    go_enter Tryd.func17, Tryd.ntmps17
    go_wp2_with fail
    generalize w.alloc (.cells #[sv s] 9) = w1 at *
    refine HC.out.mono ?_
    rintro e w2 ⟨rfl, hb2⟩
    have HB := Hidden.mk (HAL.out.trans (hb2.mono HAL.out.size))
    clear hb2 HC hbx0
    go_wp2_with fail
    go_ret2
    exact ⟨rfl, HB.out⟩
  | true =>
    have HC := Hidden.mk (putName_ok s (w.alloc (.cells #[sv s] 9)) hn)
    have HE := Hidden.mk (show getRE l s tag = if tag < -1 ∨ 15 < tag then 1 else if leadR (rootsL l) s = 0 then 5 else if 0 ≤ tag ∧ gT l (leadR (rootsL l) s) ≠ tag then 8 else 0 by rw [HE.out, if_neg (by rw [hn]; decide)])
    have HGR : Hidden (∀ r ∈ rootsL l, 1 ≤ r.2 ∧ r.2 ≤ 40 ∧ hE l r.2 = 0) := ⟨fun r hr => good_roots hg hr⟩
    have HRT : Hidden (∀ W, Hp w0 W F h l → Calls Tryd.prog 78 #[.pointer (some ⟨h, 0, none⟩)] W fun e w' => ∃ v, e = .returned v ∧ w'.ownsRow W.heap.size 36 2 v (rootsL l).length ((rootsL l).flatMap rcells) ∧ Below W.heap.size W w') := ⟨fun W hW => hroots_any hW⟩
    have HRL : Hidden ((rootsL l).length ≤ 8) := ⟨rootsF_len _ _⟩
    generalize getRE l s tag = ge at *
    generalize getRH l s tag = gh at *
    generalize rootsL l = RL at *
    clear hn hg hs
    go_enter Tryd.func17, Tryd.ntmps17
    go_wp2_with fail
    generalize w.alloc (.cells #[sv s] 9) = w1 at *
    refine HC.out.mono ?_
    rintro e w2 ⟨gn, rfl, -, -, hb2⟩
    have HB2 := Hidden.mk (HAL.out.trans (hb2.mono HAL.out.size))
    have HBX2 := Hidden.mk ((hb2.block _ (Array.getElem?_eq_some_iff.1 HBX.out).1).trans HBX.out)
    clear hb2 HC hbx0 HBX HAL
    by_cases t1 : tag < -1
    · have he : ge = 1 := by rw [HE.out, if_pos (.inl t1)]
      have hh : gh = 0 := by rw [HH.out, he]; rfl
      have d1 : decide (tag < -1) = true := by simpa using t1
      subst he hh
      clear HE HH t1
      go_wp2_with fail
      go_ret2
      exact ⟨rfl, HB2.out⟩
    by_cases t2 : 15 < tag
    · have he : ge = 1 := by rw [HE.out, if_pos (.inr t2)]
      have hh : gh = 0 := by rw [HH.out, he]; rfl
      have d1 : decide (tag < -1) = false := by simpa using t1
      have d2 : decide (15 < tag) = true := by simpa using t2
      subst he hh
      clear HE HH t1 t2
      go_wp2_with fail
      go_ret2
      exact ⟨rfl, HB2.out⟩
    have d1 : decide (tag < -1) = false := by simpa using t1
    have d2 : decide (15 < tag) = false := by simpa using t2
    have HE := Hidden.mk (show ge = if leadR RL s = 0 then 5 else if 0 ≤ tag ∧ gT l (leadR RL s) ≠ tag then 8 else 0 by rw [HE.out, if_neg (by omega)])
    clear t1 t2
    go_wp2_with fail
    clear d1 d2
    refine (HRT.out _ (HP.out.below HB2.out)).mono ?_
    rintro e w3 ⟨v, rfl, hown, hb3⟩
    have HB3 := Hidden.mk (HB2.out.trans (hb3.mono HB2.out.size))
    have HBX3 := Hidden.mk ((hb3.block _ (Array.getElem?_eq_some_iff.1 HBX2.out).1).trans HBX2.out)
    obtain ⟨A3, c3, rfl, hc3, -⟩ := own_split hown
    have HRX := Hidden.mk (own_rdX3 (f := rcells) (fun _ => rfl) rfl hown)
    have HCF := Hidden.mk (idxR_get (fun r => r.1 == s) A3 RL.length c3 RL (.pointer (some ⟨w.heap.size, 0, none⟩)) w3 rfl (by have := HRL.out; omega) HRX.out
      (fun y _ W hW => root1_get y s w.heap.size W (by have := (hW.block _ (Array.getElem?_eq_some_iff.1 HBX3.out).1).trans HBX3.out; simp [World.cell?, this])))
    clear hown hb3 HRT HBX2 HB2
    go_wp2_with fail
    refine HCF.out.mono ?_
    rintro e w4 ⟨rfl, hb4⟩
    have HB4 := Hidden.mk (HB3.out.trans (hb4.mono HB3.out.size))
    have HRX4 := Hidden.mk (HRX.out.below hb4)
    clear hb4 HCF HRX HB3 HBX3
    by_cases ha : RL.any (fun r => r.1 == s) = true
    · obtain ⟨k, hk, e1, e2, e3⟩ := ixP_lt (fun r : Bytes × Nat => r.1 == s) RL ha
      have hl := leadR_at k hk e2 e3
      have hgr := HGR.out RL[k] (List.getElem_mem hk)
      rw [e1]
      obtain ⟨pp, off, rfl, hcx⟩ := HRX4.out k hk
      have x1 := hcx 1 _ rfl
      have plt : pp < w4.heap.size := block_lt_of_cell x1
      have HT := Hidden.mk (htag_any (RL[k].2 : Int) (HP.out.below HB4.out))
      rw [hgr.2.2, show errV 0 = Value.nilIface from rfl] at HT
      rw [hl] at HE HH
      generalize RL[k].2 = hd at *
      generalize gT l (hd : Int) = gt at *
      have HE := Hidden.mk (show ge = if 0 ≤ tag ∧ gt ≠ tag then 8 else 0 by rw [HE.out, if_neg (by omega)])
      have i0 : decide ((k : Int) < 0) = false := by simp
      have i1 : (0 : Int) ≤ k := by omega
      have i2 : (k : Int) < RL.length := by omega
      have HX1 : Hidden (∀ W, Below w4.heap.size w4 W → W.cell? ⟨pp, off + k * 2 + 1, none⟩ = some (.int .i64 hd)) := ⟨fun W hW => (hW.cell (p := ⟨pp, off + k * 2 + 1, none⟩) plt).trans x1⟩
      clear hcx e1 e2 e3 ha hl hgr HRX4 HGR plt HRL
      go_wp2_with fail
      refine HT.out.mono ?_
      rintro e w5 ⟨rfl, hb5⟩
      have x5 := HX1.out w5 hb5
      have HB5 := Hidden.mk (HB4.out.trans (hb5.mono HB4.out.size))
      clear hb5 HT x1
      by_cases t1 : 0 ≤ tag
      · have d1 : decide (0 ≤ tag) = true := by simpa using t1
        by_cases t2 : gt = tag
        · have he : ge = 0 := by rw [HE.out, if_neg (by omega)]
          have hh : gh = hd := by rw [HH.out, he]; rfl
          have d2 : (gt == tag) = true := by simpa using t2
          have d3 : (gt != tag) = false := by simpa using t2
          subst he hh
          clear HE HH t1 t2 HX1
          go_wp2_with fail
          go_ret2
          exact ⟨rfl, HB5.out⟩
        · have he : ge = 8 := by rw [HE.out, if_pos ⟨t1, t2⟩]
          have hh : gh = 0 := by rw [HH.out, he]; rfl
          have d2 : (gt == tag) = false := by simpa using t2
          have d3 : (gt != tag) = true := by simpa using t2
          subst he hh
          clear HE HH t1 t2 HX1
          go_wp2_with fail
          go_ret2
          exact ⟨rfl, HB5.out⟩
      · have d1 : decide (0 ≤ tag) = false := by simpa using t1
        have he : ge = 0 := by rw [HE.out, if_neg (fun h => t1 h.1)]
        have hh : gh = hd := by rw [HH.out, he]; rfl
        subst he hh
        clear HE HH t1 HX1
        go_wp2_with fail
        go_ret2
        exact ⟨rfl, HB5.out⟩
    · have ha' : ∀ x ∈ RL, (x.1 == s) = false := by
        rw [Bool.not_eq_true, List.any_eq_false] at ha
        intro x hx
        simpa using ha x hx
      rw [ixP_none _ _ ha']
      have hl := leadR_none ha'
      have he : ge = 5 := by rw [HE.out, if_pos hl]
      have hh : gh = 0 := by rw [HH.out, he]; rfl
      subst he hh
      clear HE HH ha ha' hl HRX4
      go_wp2_with fail
      go_ret2
      exact ⟨rfl, HB4.out⟩
theorem rall_any (hp : Hp w0 w F h l) :
    Calls Tryd.prog 16 #[.pointer (some ⟨h, 0, none⟩)] w fun e w' => ∃ v, e = .returned v ∧ w'.ownsRow w.heap.size 36 2 v (rootsL l).length ((rootsL l).flatMap rcells) ∧ Below w.heap.size w w' := by
  have HC := Hidden.mk (hroots_any hp)
  clear hp
  go_enter Tryd.func16, Tryd.ntmps16
  go_wp2_with fail
  refine HC.out.mono ?_
  rintro e w1 ⟨v, rfl, hown, hb1⟩
  have HB := Hidden.mk (And.intro hown hb1)
  clear hb1 hown HC
  go_wp2_with fail
  go_ret
  exact ⟨v, rfl, HB.out⟩
end
/-- an object's tag, and its bytes, as the reference tells them -/
def objT (l : Bytes) (k : Nat) : Int := if hasE (rawE l k) = true then rTag (rawE l k) else -1
def objS (l : Bytes) (k : Nat) : Bytes := if hasE (rawE l k) = true then (l.drop (rAt (rawE l k))).take (rLen (rawE l k)) else []
end Go.Proofs.YtgejkhokijjemaaDoor
/- The contract of extent.Stat. -/
namespace Go.Proofs.YtgejkhokijjemaaDoor
open Go.RowKit

def statV (o u f m r : Int) : Value := .agg #[.int .i64 o, .int .i64 u, .int .i64 f, .int .i64 m, .int .i64 r]
def sumX (l : List Ext) : Int := l.foldl (fun s e => s + e.2) 0
def mostX (H : List Ext) : Int := H.foldl (fun s e => max s e.2) 0
theorem sumX_succ (l : List Ext) (k : Nat) (hk : k < l.length) : sumX (l.take (k + 1)) = sumX (l.take k) + l[k].2 := by
  unfold sumX; rw [List.take_succ_eq_append_getElem hk, List.foldl_append]; rfl
theorem mostX_succ (l : List Ext) (k : Nat) (hk : k < l.length) : mostX (l.take (k + 1)) = max (mostX (l.take k)) l[k].2 := by
  unfold mostX; rw [List.take_succ_eq_append_getElem hk, List.foldl_append]; rfl
theorem sumX_bd (l : List Ext) (h : OkX l) : ∀ k, k ≤ l.length → 0 ≤ sumX (l.take k) ∧ sumX (l.take k) ≤ 6400 * k
  | 0, _ => by simp [sumX]
  | k + 1, hk => by
    have ih := sumX_bd l h k (by omega)
    have := h l[k] (List.getElem_mem (by omega))
    rw [sumX_succ l k (by omega)]
    omega
/-- what Stat says -/
def statX (n : Int) (l : List Ext) : Value := if chkX n l = 0 then statV l.length (sumX l) (n - sumX l) (mostX (holesX n l)) (holesX n l).length else statV 0 0 0 0 0
set_option maxRecDepth 100000 in
theorem xstat_any (n : Int) (A : Option Addr) (m c : Nat) (l : List Ext) (w : World) (hl : l.length = m) (hmc : m ≤ c) (hr : RdX tcells 2 w A l) :
    Calls Tryd.prog 57 #[.int .i64 n, .slice A m c] w fun e w' => e = .returned (.tuple #[statX n l, errV (chkX n l)]) ∧ Below w.heap.size w w' := by
  have HC : Hidden (∀ W, Below w.heap.size w W → Calls Tryd.prog 51 #[.int .i64 n, .slice A m c] W fun e w' => e = .returned (errV (chkX n l)) ∧ Below W.heap.size W w') := ⟨fun W hW => xcheck_any n A m c l W hl hmc (hr.below hW)⟩
  have HB0 : Hidden (Below w.heap.size w (w.alloc (.cells #[.int .i64 0, .int .i64 0, .int .i64 0, .int .i64 0, .int .i64 0] 101))) := ⟨(Below.refl _ _).alloc (Nat.le_refl _) _⟩
  have HBK0 : Hidden ((w.alloc (.cells #[.int .i64 0, .int .i64 0, .int .i64 0, .int .i64 0, .int .i64 0] 101)).heap[w.heap.size]? = some (.cells #[.int .i64 0, .int .i64 0, .int .i64 0, .int .i64 0, .int .i64 0] 101 (0, 0))) := ⟨heap_alloc_new w _⟩
  have HSX : Hidden (statX n l = if chkX n l = 0 then statV l.length (sumX l) (n - sumX l) (mostX (holesX n l)) (holesX n l).length else statV 0 0 0 0 0) := ⟨rfl⟩
  by_cases h0 : chkX n l = 0
  · obtain ⟨o0, o1, o2, o3, -⟩ := chkX_ok h0
    have HH : Hidden (∀ W, Below w.heap.size w W → Calls Tryd.prog 103 #[.int .i64 n, .slice A m c] W fun e w' => ∃ v, e = .returned v ∧ w'.ownsRow W.heap.size 123 2 v (holesX n l).length ((holesX n l).flatMap tcells) ∧ Below W.heap.size W w') := ⟨fun W hW => xholes_any n A m c l W o0 o1 hl (by omega) (hr.below hW) o3⟩
    have hHl := holesX_len n l
    rw [h0] at HC
    rw [show errV 0 = Value.nilIface from rfl] at HC
    have hsx := HSX.out
    rw [if_pos h0] at hsx
    rw [hsx, h0, show errV 0 = Value.nilIface from rfl]
    have HR := Hidden.mk hr
    have HO := Hidden.mk o3
    have HL := Hidden.mk hl
    have hm200 : m ≤ 200 := by omega
    generalize holesX n l = H at *
    clear HSX hsx h0 hr o3 hl
    unfold statV
    go_enter Tryd.func57, Tryd.ntmps57
    go_wp2_with fail
    generalize w.alloc (.cells #[.int .i64 0, .int .i64 0, .int .i64 0, .int .i64 0, .int .i64 0] 101) = w0 at *
    refine (HC.out _ HB0.out).mono ?_
    rintro e w1 ⟨rfl, hb1⟩
    have hlt : w.heap.size < w0.heap.size := (Array.getElem?_eq_some_iff.1 HBK0.out).1
    have hal : Below w1.heap.size w1 (w1.alloc (.cells #[.int .i64 m, .int .i64 0, .int .i64 0, .int .i64 0, .int .i64 0] 101)) := (Below.refl _ _).alloc (Nat.le_refl _) _
    have hB1 := HB0.out.trans (hb1.mono HB0.out.size)
    have hlt1 : w.heap.size < w1.heap.size := Nat.lt_of_lt_of_le hlt hb1.size
    have HST : Hidden (Below w.heap.size w (w1.alloc (.cells #[.int .i64 m, .int .i64 0, .int .i64 0, .int .i64 0, .int .i64 0] 101)) ∧ (w1.alloc (.cells #[.int .i64 m, .int .i64 0, .int .i64 0, .int .i64 0, .int .i64 0] 101)).heap[w.heap.size]? = some (.cells #[.int .i64 0, .int .i64 0, .int .i64 0, .int .i64 0, .int .i64 0] 101 (0, 0)) ∧ (w1.alloc (.cells #[.int .i64 m, .int .i64 0, .int .i64 0, .int .i64 0, .int .i64 0] 101)).heap[w1.heap.size]? = some (.cells #[.int .i64 m, .int .i64 0, .int .i64 0, .int .i64 0, .int .i64 0] 101 (0, 0))) :=
      ⟨hB1.trans (hal.mono hB1.size), (hal.block _ hlt1).trans ((hb1.block _ hlt).trans HBK0.out), heap_alloc_new w1 _⟩
    clear hb1 hal hB1 hlt
    go_wp2_with fail
    generalize w1.alloc (.cells #[.int .i64 m, .int .i64 0, .int .i64 0, .int .i64 0, .int .i64 0] 101) = w2 at *
    generalize w1.heap.size = sb at *
    go_loopg [24] m (fun q i wr => ∃ (k : Nat) (u : Int), k ≤ m ∧ q = m - k ∧ i = .int .i64 (k : Int) ∧ 0 ≤ u ∧ u ≤ 6400 * k ∧ Hidden (sumX (l.take k) = u ∧ Below w.heap.size w wr ∧ wr.heap[w.heap.size]? = some (.cells #[.int .i64 0, .int .i64 0, .int .i64 0, .int .i64 0, .int .i64 0] 101 (0, 0)) ∧ wr.heap[sb]? = some (.cells #[.int .i64 m, .int .i64 u, .int .i64 0, .int .i64 0, .int .i64 0] 101 (0, 0))))
    case atStart => exact ⟨0, 0, by omega, rfl, rfl, by omega, by omega, ⟨rfl, HST.out⟩⟩
    case round =>
      obtain ⟨k, u, hk, rfl, rfl, hu0, hu1, hst⟩ := hrel
      by_cases hlt : k < m
      · have hkl : k < l.length := by have := HL.out; omega
        obtain ⟨p, off, rfl, hcx⟩ := (HR.out.below hst.out.2.1) k hkl
        have c0 := hcx 0 _ rfl
        have c1 := hcx 1 _ rfl
        rw [Nat.add_zero] at c0
        have HS := Hidden.mk (sumX_succ l k hkl)
        rw [hst.out.1] at HS
        have hb := HO.out l[k] (List.getElem_mem hkl)
        generalize l[k] = e at *
        obtain ⟨e1, e2⟩ := e
        dsimp only at c0 c1 HS hb
        obtain ⟨b0, b1, b2⟩ := hb
        have hal : Below wr.heap.size wr (wr.alloc (.cells #[.int .i64 e1, .int .i64 e2] 123)) := (Below.refl _ _).alloc (Nat.le_refl _) _
        have HN : Hidden (Below w.heap.size w (wr.alloc (.cells #[.int .i64 e1, .int .i64 e2] 123)) ∧ (wr.alloc (.cells #[.int .i64 e1, .int .i64 e2] 123)).heap[w.heap.size]? = some (.cells #[.int .i64 0, .int .i64 0, .int .i64 0, .int .i64 0, .int .i64 0] 101 (0, 0)) ∧ (wr.alloc (.cells #[.int .i64 e1, .int .i64 e2] 123)).heap[sb]? = some (.cells #[.int .i64 m, .int .i64 u, .int .i64 0, .int .i64 0, .int .i64 0] 101 (0, 0))) :=
          ⟨hst.out.2.1.trans (hal.mono hst.out.2.1.size), (hal.block _ (Array.getElem?_eq_some_iff.1 hst.out.2.2.1).1).trans hst.out.2.2.1, (hal.block _ (Array.getElem?_eq_some_iff.1 hst.out.2.2.2).1).trans hst.out.2.2.2⟩
        have hbk := HN.out.2.2
        have z1 : (wr.alloc (.cells #[.int .i64 e1, .int .i64 e2] 123)).cell? ⟨sb, 1, none⟩ = some (.int .i64 u) := by simp [World.cell?, hbk]
        have hfz : ∀ q, (wr.alloc (.cells #[.int .i64 e1, .int .i64 e2] 123)).frozen? ⟨sb, q, none⟩ = false := fun q => frozen_of_row _ sb q _ _ hbk
        have HNE : Hidden (w.heap.size ≠ sb) := ⟨by omega⟩
        have HN2 : Hidden (Below w.heap.size w ((wr.alloc (.cells #[.int .i64 e1, .int .i64 e2] 123)).setCell ⟨sb, 1, none⟩ (.int .i64 (u + e2))) ∧ ((wr.alloc (.cells #[.int .i64 e1, .int .i64 e2] 123)).setCell ⟨sb, 1, none⟩ (.int .i64 (u + e2))).heap[w.heap.size]? = some (.cells #[.int .i64 0, .int .i64 0, .int .i64 0, .int .i64 0, .int .i64 0] 101 (0, 0)) ∧ ((wr.alloc (.cells #[.int .i64 e1, .int .i64 e2] 123)).setCell ⟨sb, 1, none⟩ (.int .i64 (u + e2))).heap[sb]? = some (.cells #[.int .i64 m, .int .i64 (u + e2), .int .i64 0, .int .i64 0, .int .i64 0] 101 (0, 0))) :=
          ⟨HN.out.1.setCell (p := ⟨sb, 1, none⟩) (by simp; omega) _, (Below.heap_setCell _ _ _ _ HNE.out).trans HN.out.2.1, heap_setK HN.out.2.2 _⟩
        have s1 : IntKind.i64.wrap (u + e2) = u + e2 := IntWalk.i64_in _ (by omega)
        have s3 : IntKind.i64.wrap ((k : Int) + 1) = (k : Int) + 1 := IntWalk.i64_in _ (by omega)
        have hne : wr.heap.size ≠ sb := by have := (Array.getElem?_eq_some_iff.1 hst.out.2.2.2).1; omega
        have k0 : (0 : Int) ≤ k := by omega
        have k1 : (k : Int) < m := by omega
        clear hcx hal hbk HN hst
        go_wp2_with fail
        go_roundg (m - (k + 1))
        case measure => omega
        case rel => exact ⟨k + 1, u + e2, by omega, rfl, by go_num, by omega, by omega, ⟨HS.out, HN2.out⟩⟩
      · obtain rfl : k = m := by omega
        have hsu := hst.out.1
        rw [List.take_of_length_le (by have := HL.out; omega)] at hsu
        have HSU := Hidden.mk hsu
        have hbk := hst.out.2.2.2
        have z1 : wr.cell? ⟨sb, 1, none⟩ = some (.int .i64 u) := by simp [World.cell?, hbk]
        have z2 : wr.cell? ⟨sb, 2, none⟩ = some (.int .i64 0) := by simp [World.cell?, hbk]
        have hfz : ∀ q, wr.frozen? ⟨sb, q, none⟩ = false := fun q => frozen_of_row _ sb q _ _ hbk
        have s1 : IntKind.i64.wrap (n - u) = n - u := IntWalk.i64_in _ (by omega)
        have HNE : Hidden (w.heap.size ≠ sb) := ⟨by omega⟩
        have H2 : Hidden (Below w.heap.size w (wr.setCell ⟨sb, 2, none⟩ (.int .i64 (n - u))) ∧ (wr.setCell ⟨sb, 2, none⟩ (.int .i64 (n - u))).heap[w.heap.size]? = some (.cells #[.int .i64 0, .int .i64 0, .int .i64 0, .int .i64 0, .int .i64 0] 101 (0, 0)) ∧ (wr.setCell ⟨sb, 2, none⟩ (.int .i64 (n - u))).heap[sb]? = some (.cells #[.int .i64 k, .int .i64 u, .int .i64 (n - u), .int .i64 0, .int .i64 0] 101 (0, 0))) :=
          ⟨hst.out.2.1.setCell (p := ⟨sb, 2, none⟩) (by simp; omega) _, (Below.heap_setCell _ _ _ _ HNE.out).trans hst.out.2.2.1, heap_setK hbk _⟩
        clear hsu hbk hst HST
        go_wp2_with fail
        generalize wr.setCell ⟨sb, 2, none⟩ (.int .i64 (n - u)) = w5 at *
        refine (HH.out _ H2.out.1).mono ?_
        rintro e w6 ⟨v, rfl, hown, hb6⟩
        have H6 : Hidden (Below w.heap.size w w6 ∧ w6.heap[w.heap.size]? = some (.cells #[.int .i64 0, .int .i64 0, .int .i64 0, .int .i64 0, .int .i64 0] 101 (0, 0)) ∧ w6.heap[sb]? = some (.cells #[.int .i64 k, .int .i64 u, .int .i64 (n - u), .int .i64 0, .int .i64 0] 101 (0, 0)) ∧ w6.ownsRow w5.heap.size 123 2 v H.length (H.flatMap tcells) ∧ sb < w5.heap.size ∧ w.heap.size < w5.heap.size) :=
          ⟨H2.out.1.trans (hb6.mono H2.out.1.size), (hb6.block _ (Array.getElem?_eq_some_iff.1 H2.out.2.1).1).trans H2.out.2.1, (hb6.block _ (Array.getElem?_eq_some_iff.1 H2.out.2.2).1).trans H2.out.2.2, hown, (Array.getElem?_eq_some_iff.1 H2.out.2.2).1, (Array.getElem?_eq_some_iff.1 H2.out.2.1).1⟩
        obtain ⟨A3, c3, rfl, hc3, -⟩ := own_split hown
        clear hown hb6 H2 HH HC z1 z2 hfz HR
        generalize hhl : H.length = hl at *
        have HHL := Hidden.mk hhl
        clear hhl
        go_wp2_with fail
        go_loopg [44] hl (fun q i wr => ∃ (j : Nat) (x : Int), j ≤ hl ∧ q = hl - j ∧ i = .int .i64 (j : Int) ∧ Hidden (mostX (H.take j) = x ∧ Below w.heap.size w wr ∧ wr.heap[w.heap.size]? = some (.cells #[.int .i64 0, .int .i64 0, .int .i64 0, .int .i64 0, .int .i64 0] 101 (0, 0)) ∧ wr.heap[sb]? = some (.cells #[.int .i64 k, .int .i64 u, .int .i64 (n - u), .int .i64 x, .int .i64 j] 101 (0, 0)) ∧ wr.ownsRow w5.heap.size 123 2 (.slice A3 hl c3) hl (H.flatMap tcells)))
        case atStart => exact ⟨0, 0, by omega, rfl, rfl, ⟨rfl, H6.out.1, H6.out.2.1, H6.out.2.2.1, H6.out.2.2.2.1⟩⟩
        case round =>
          obtain ⟨j, x, hj, rfl, rfl, hst⟩ := hrel
          by_cases hlt2 : j < hl
          · have hjH : j < H.length := by have := HHL.out; omega
            obtain ⟨g, off, rfl, hgb, hgl, hcx⟩ := own_at tcells_len hst.out.2.2.2.2 j hjH (by omega)
            have c0 := hcx 0 _ rfl
            have c1 := hcx 1 _ rfl
            simp only [Nat.add_zero] at c0
            have HS := Hidden.mk (mostX_succ H j hjH)
            rw [hst.out.1] at HS
            generalize H[j] = e at *
            obtain ⟨e1, e2⟩ := e
            dsimp only at c0 c1 HS
            have hal : Below wr.heap.size wr (wr.alloc (.cells #[.int .i64 e1, .int .i64 e2] 123)) := (Below.refl _ _).alloc (Nat.le_refl _) _
            have hsbl := (Array.getElem?_eq_some_iff.1 hst.out.2.2.2.1).1
            have hbk := (hal.block _ hsbl).trans hst.out.2.2.2.1
            have HWE : Hidden ((wr.alloc (.cells #[.int .i64 e1, .int .i64 e2] 123)).heap[w.heap.size]? = some (.cells #[.int .i64 0, .int .i64 0, .int .i64 0, .int .i64 0, .int .i64 0] 101 (0, 0)) ∧ Below w.heap.size w (wr.alloc (.cells #[.int .i64 e1, .int .i64 e2] 123)) ∧ (wr.alloc (.cells #[.int .i64 e1, .int .i64 e2] 123)).ownsRow w5.heap.size 123 2 (.slice (some ⟨g, off, none⟩) hl c3) hl (H.flatMap tcells)) := ⟨(hal.block _ (Array.getElem?_eq_some_iff.1 hst.out.2.2.1).1).trans hst.out.2.2.1, hst.out.2.1.trans (hal.mono hst.out.2.1.size), own_below hst.out.2.2.2.2 hal⟩
            have z3 : (wr.alloc (.cells #[.int .i64 e1, .int .i64 e2] 123)).cell? ⟨sb, 3, none⟩ = some (.int .i64 x) := by simp [World.cell?, hbk]
            have z4 : (wr.alloc (.cells #[.int .i64 e1, .int .i64 e2] 123)).cell? ⟨sb, 4, none⟩ = some (.int .i64 (j : Int)) := by simp [World.cell?, hbk]
            have hfz : ∀ q, (wr.alloc (.cells #[.int .i64 e1, .int .i64 e2] 123)).frozen? ⟨sb, q, none⟩ = false := fun q => frozen_of_row _ sb q _ _ hbk
            have s3 : IntKind.i64.wrap ((j : Int) + 1) = (j : Int) + 1 := IntWalk.i64_in _ (by omega)
            have HBK := Hidden.mk hbk
            have hne : wr.heap.size ≠ sb := by omega
            have k0 : (0 : Int) ≤ j := by omega
            have k1 : (j : Int) < hl := by omega
            have HSB : Hidden (w.heap.size ≤ sb ∧ sb < w5.heap.size) := ⟨by omega, H6.out.2.2.2.2.1⟩
            clear hcx hal hbk hst H6 hsbl
            have HN3 : Hidden ((((wr.alloc (.cells #[.int .i64 e1, .int .i64 e2] 123)).setCell ⟨sb, 3, none⟩ (.int .i64 (max x e2))).heap[sb]? = some (.cells #[.int .i64 k, .int .i64 u, .int .i64 (n - u), .int .i64 (max x e2), .int .i64 j] 101 (0, 0)))) := ⟨heap_setK HBK.out _⟩
            have z4' : ((wr.alloc (.cells #[.int .i64 e1, .int .i64 e2] 123)).setCell ⟨sb, 3, none⟩ (.int .i64 (max x e2))).cell? ⟨sb, 4, none⟩ = some (.int .i64 (j : Int)) := by simp only [World.cell?, HN3.out]; rfl
            have HN4 : Hidden (Below w.heap.size w (((wr.alloc (.cells #[.int .i64 e1, .int .i64 e2] 123)).setCell ⟨sb, 3, none⟩ (.int .i64 (max x e2))).setCell ⟨sb, 4, none⟩ (.int .i64 ((j : Int) + 1))) ∧ (((wr.alloc (.cells #[.int .i64 e1, .int .i64 e2] 123)).setCell ⟨sb, 3, none⟩ (.int .i64 (max x e2))).setCell ⟨sb, 4, none⟩ (.int .i64 ((j : Int) + 1))).heap[w.heap.size]? = some (.cells #[.int .i64 0, .int .i64 0, .int .i64 0, .int .i64 0, .int .i64 0] 101 (0, 0)) ∧ (((wr.alloc (.cells #[.int .i64 e1, .int .i64 e2] 123)).setCell ⟨sb, 3, none⟩ (.int .i64 (max x e2))).setCell ⟨sb, 4, none⟩ (.int .i64 ((j : Int) + 1))).heap[sb]? = some (.cells #[.int .i64 k, .int .i64 u, .int .i64 (n - u), .int .i64 (max x e2), .int .i64 ((j : Int) + 1)] 101 (0, 0)) ∧ (((wr.alloc (.cells #[.int .i64 e1, .int .i64 e2] 123)).setCell ⟨sb, 3, none⟩ (.int .i64 (max x e2))).setCell ⟨sb, 4, none⟩ (.int .i64 ((j : Int) + 1))).ownsRow w5.heap.size 123 2 (.slice (some ⟨g, off, none⟩) hl c3) hl (H.flatMap tcells)) :=
              ⟨(HWE.out.2.1.setCell (p := ⟨sb, 3, none⟩) HSB.out.1 _).setCell (p := ⟨sb, 4, none⟩) HSB.out.1 _, (Below.heap_setCell _ _ _ _ HNE.out).trans ((Below.heap_setCell _ _ _ _ HNE.out).trans HWE.out.1), heap_setK HN3.out _,
                ownsRow_block HWE.out.2.2 fun q hq => (Below.heap_setCell _ _ _ _ (fun e => by have := (HWE.out.2.2.lt q hq).1; have := HSB.out.2; simp at e; omega)).trans (Below.heap_setCell _ _ _ _ (fun e => by have := (HWE.out.2.2.lt q hq).1; have := HSB.out.2; simp at e; omega))⟩
            clear HN3 HWE HBK
            go_wp2_with fail
            go_roundg (hl - (j + 1))
            case measure => omega
            case rel => exact ⟨j + 1, max x e2, by omega, rfl, by go_num, ⟨HS.out, HN4.out.1, HN4.out.2.1, HN4.out.2.2.1, HN4.out.2.2.2⟩⟩
          · obtain rfl : j = hl := by omega
            have hmx := hst.out.1
            rw [List.take_of_length_le (by have := HHL.out; omega)] at hmx
            have HMX := Hidden.mk hmx
            have hbk := hst.out.2.2.2.1
            have hrk := hst.out.2.2.1
            have y0 : ∀ q, wr.frozen? ⟨w.heap.size, q, none⟩ = false := fun q => frozen_of_row _ _ q _ _ hrk
            have z0 : wr.cell? ⟨sb, 0, none⟩ = some (.int .i64 k) := by simp [World.cell?, hbk]
            have z1 : wr.cell? ⟨sb, 1, none⟩ = some (.int .i64 u) := by simp [World.cell?, hbk]
            have z2 : wr.cell? ⟨sb, 2, none⟩ = some (.int .i64 (n - u)) := by simp [World.cell?, hbk]
            have z3 : wr.cell? ⟨sb, 3, none⟩ = some (.int .i64 x) := by simp [World.cell?, hbk]
            have z4 : wr.cell? ⟨sb, 4, none⟩ = some (.int .i64 (j : Int)) := by simp [World.cell?, hbk]
            have r0 : wr.cell? ⟨w.heap.size, 0, none⟩ = some (.int .i64 0) := by simp [World.cell?, hrk]
            have r1 : wr.cell? ⟨w.heap.size, 1, none⟩ = some (.int .i64 0) := by simp [World.cell?, hrk]
            have r2 : wr.cell? ⟨w.heap.size, 2, none⟩ = some (.int .i64 0) := by simp [World.cell?, hrk]
            have r3 : wr.cell? ⟨w.heap.size, 3, none⟩ = some (.int .i64 0) := by simp [World.cell?, hrk]
            have r4 : wr.cell? ⟨w.heap.size, 4, none⟩ = some (.int .i64 0) := by simp [World.cell?, hrk]
            have HB := Hidden.mk hst.out.2.1
            have HF : Hidden ((l.length : Int) = k ∧ sumX l = u ∧ mostX H = x ∧ (H.length : Int) = j) := ⟨by rw [HL.out], HSU.out, HMX.out, by rw [HHL.out]⟩
            clear hmx hbk hrk hst H6
            go_wp2_with fail
            refine bodyPost_ret (v := .tuple #[.agg #[.int .i64 k, .int .i64 u, .int .i64 (n - u), .int .i64 x, .int .i64 (j : Int)], .nilIface]) ?_ rfl ?_
            · rw [results_cell_tmp rfl]
              go_simp
            · refine ⟨by rw [HF.out.1, HF.out.2.1, HF.out.2.2.1, HF.out.2.2.2], ((((HB.out.setCell (p := ⟨w.heap.size, 0, none⟩) (Nat.le_refl _) _).setCell (p := ⟨w.heap.size, 1, none⟩) (Nat.le_refl _) _).setCell (p := ⟨w.heap.size, 2, none⟩) (Nat.le_refl _) _).setCell (p := ⟨w.heap.size, 3, none⟩) (Nat.le_refl _) _).setCell (p := ⟨w.heap.size, 4, none⟩) (Nat.le_refl _) _⟩
  · have hsx := HSX.out
    rw [if_neg h0] at hsx
    rw [hsx]
    have hev : errV (chkX n l) = .iface 121 (.int .i64 (chkX n l)) := by unfold errV; rw [if_neg h0]
    rw [hev] at HC ⊢
    unfold statV
    generalize chkX n l = q at *
    clear h0 hev HSX hsx hr hl
    go_enter Tryd.func57, Tryd.ntmps57
    go_wp2_with fail
    generalize w.alloc (.cells #[.int .i64 0, .int .i64 0, .int .i64 0, .int .i64 0, .int .i64 0] 101) = w0 at *
    refine (HC.out _ HB0.out).mono ?_
    rintro e w1 ⟨rfl, hb1⟩
    have hlt : w.heap.size < w0.heap.size := (Array.getElem?_eq_some_iff.1 HBK0.out).1
    have hbk := (hb1.block _ hlt).trans HBK0.out
    have HB1 := Hidden.mk (HB0.out.trans (hb1.mono HB0.out.size))
    have y0 : ∀ q, w1.frozen? ⟨w.heap.size, q, none⟩ = false := fun q => frozen_of_row _ _ q _ _ hbk
    have z0 : w1.cell? ⟨w.heap.size, 0, none⟩ = some (.int .i64 0) := by simp [World.cell?, hbk]
    have z1 : w1.cell? ⟨w.heap.size, 1, none⟩ = some (.int .i64 0) := by simp [World.cell?, hbk]
    have z2 : w1.cell? ⟨w.heap.size, 2, none⟩ = some (.int .i64 0) := by simp [World.cell?, hbk]
    have z3 : w1.cell? ⟨w.heap.size, 3, none⟩ = some (.int .i64 0) := by simp [World.cell?, hbk]
    have z4 : w1.cell? ⟨w.heap.size, 4, none⟩ = some (.int .i64 0) := by simp [World.cell?, hbk]
    clear hb1 hlt hbk
    go_wp2_with fail
    refine bodyPost_ret (v := .tuple #[.agg #[.int .i64 0, .int .i64 0, .int .i64 0, .int .i64 0, .int .i64 0], .iface 121 (.int .i64 q)]) ?_ rfl ?_
    · rw [results_cell_tmp rfl]
      go_simp
    · exact ⟨rfl, ((((HB1.out.setCell (p := ⟨w.heap.size, 0, none⟩) (Nat.le_refl _) _).setCell (p := ⟨w.heap.size, 1, none⟩) (Nat.le_refl _) _).setCell (p := ⟨w.heap.size, 2, none⟩) (Nat.le_refl _) _).setCell (p := ⟨w.heap.size, 3, none⟩) (Nat.le_refl _) _).setCell (p := ⟨w.heap.size, 4, none⟩) (Nat.le_refl _) _⟩
end Go.Proofs.YtgejkhokijjemaaDoor
/- Extents, the plain law: what is free between extents that are right. No walk here. -/
namespace Go.Proofs.YtgejkhokijjemaaDoor
open Go.RowKit

/-- behind each other, from a to n -/
def Tidy : Int → List Ext → Int → Prop
  | a, [], n => a ≤ n
  | a, e :: r, n => a ≤ e.1 ∧ 1 ≤ e.2 ∧ Tidy (e.1 + e.2) r n
theorem hitX_symm (e o : Ext) : hitX e o = hitX o e := by unfold hitX; rw [Bool.and_comm]
theorem chkX_pair {n : Int} {l : List Ext} (h : chkX n l = 0) : l.Pairwise (fun a b => hitX a b = false) := by
  obtain ⟨_, _, _, _, h5⟩ := chkX_ok h
  rw [List.pairwise_iff_getElem]
  intro i j hi hj hij
  have h2 := (h5 j hj).2
  rw [List.any_eq_false] at h2
  have hm : l[i] ∈ l.take j := by
    rw [List.mem_take_iff_getElem]
    exact ⟨i, by omega, rfl⟩
  have := h2 _ hm
  rw [hitX_symm]
  simpa using this
theorem loopX_of (n : Int) (l : List Ext) : ∀ k, k ≤ l.length → (∀ j (hj : j < l.length), j < k → badX n l[j] = false ∧ (l.take j).any (hitX l[j]) = false) → loopX n l k = 0
  | 0, _, _ => rfl
  | k + 1, hk, h => by
    have h0 := loopX_of n l k (by omega) (fun j hj hjk => h j hj (by omega))
    obtain ⟨h1, h2⟩ := h k (by omega) (by omega)
    rw [loopX, if_pos h0]
    have hg : l.getD k (0, 0) = l[k] := by simp [show k < l.length by omega]
    rw [hg]
    unfold faultX
    rw [h1, h2]; rfl
theorem chkX_of {n : Int} {l : List Ext} (h0 : 0 ≤ n) (h1 : n ≤ 6400) (h2 : l.length ≤ 200) (hb : ∀ e ∈ l, badX n e = false) (hp : l.Pairwise (fun a b => hitX a b = false)) : chkX n l = 0 := by
  unfold chkX
  rw [if_neg (by omega), if_neg (by omega)]
  refine loopX_of n l _ (Nat.le_refl _) fun j hj _ => ⟨hb _ (List.getElem_mem hj), ?_⟩
  rw [List.any_eq_false]
  intro x hx
  rw [List.mem_take_iff_getElem] at hx
  obtain ⟨i, hi, rfl⟩ := hx
  rw [List.pairwise_iff_getElem] at hp
  have := hp i j (by omega) hj (by omega)
  rw [hitX_symm]
  simpa using this
theorem badX_of {n : Int} {e : Ext} (h : 1 ≤ e.2 ∧ 0 ≤ e.1 ∧ e.1 + e.2 ≤ n) : badX n e = false := by
  unfold badX
  simp only [Bool.or_eq_false_iff, decide_eq_false_iff_not]
  omega
theorem hitX_false {e o : Ext} : hitX e o = false ↔ (o.1 + o.2 ≤ e.1 ∨ e.1 + e.2 ≤ o.1) := by
  unfold hitX
  simp only [Bool.and_eq_false_iff, decide_eq_false_iff_not]
  omega
theorem tidy_mk (n : Int) : ∀ (S : List Ext) (a : Int), (∀ e ∈ S, a ≤ e.1 ∧ 1 ≤ e.2 ∧ e.1 + e.2 ≤ n) → S.Pairwise (fun x y => x.1 + x.2 ≤ y.1) → a ≤ n → Tidy a S n
  | [], _, _, _, h => h
  | e :: r, a, hb, hp, _ => by
    obtain ⟨h1, h2, h3⟩ := hb e (List.mem_cons_self ..)
    rw [List.pairwise_cons] at hp
    exact ⟨h1, h2, tidy_mk n r _ (fun x hx => by have := hb x (List.mem_cons_of_mem _ hx); have := hp.1 x hx; omega) hp.2 (by omega)⟩
theorem tidy_of {n : Int} {l : List Ext} (h : chkX n l = 0) : Tidy 0 (sortE l) n := by
  obtain ⟨h0, h1, h2, _, h5⟩ := chkX_ok h
  have hbad : ∀ e ∈ sortE l, badX n e = false := fun e he => by
    obtain ⟨j, hj, rfl⟩ := List.getElem_of_mem ((sortE_perm l).mem_iff.1 he)
    exact (h5 j hj).1
  refine tidy_mk n _ 0 (fun e he => by have := badX_false (hbad e he); omega) ?_ h0
  have hp : (sortE l).Pairwise (fun a b => hitX a b = false) := ((sortE_perm l).pairwise_iff (fun {x y} h => by rw [hitX_symm]; exact h)).2 (chkX_pair h)
  rw [List.pairwise_iff_getElem] at hp ⊢
  have hs := sortE_sorted l
  rw [List.pairwise_iff_getElem] at hs
  intro i j hi hj hij
  have a1 := hitX_false.1 (hp i j hi hj hij)
  have a2 := hs i j hi hj hij
  have a3 := badX_false (hbad _ (List.getElem_mem hi))
  have a4 := badX_false (hbad _ (List.getElem_mem hj))
  omega
theorem tidy_le : ∀ {S : List Ext} {a n : Int}, Tidy a S n → a ≤ n
  | [], _, _, h => h
  | e :: r, a, n, ⟨h1, h2, h3⟩ => by have := tidy_le h3; omega
theorem tidy_mem : ∀ {S : List Ext} {a n : Int}, Tidy a S n → ∀ e ∈ S, a ≤ e.1 ∧ 1 ≤ e.2 ∧ e.1 + e.2 ≤ n
  | e :: r, a, n, ⟨h1, h2, h3⟩, x, hx => by
    rcases List.mem_cons.1 hx with rfl | hx
    · exact ⟨h1, h2, tidy_le h3⟩
    · have := tidy_mem h3 x hx; omega
theorem tidy_strict : ∀ {S : List Ext} {a n : Int}, Tidy a S n → S.Pairwise (fun x y => x.1 < y.1)
  | [], _, _, _ => List.Pairwise.nil
  | e :: r, a, n, ⟨h1, h2, h3⟩ => List.Pairwise.cons (fun x hx => by have := tidy_mem h3 x hx; omega) (tidy_strict h3)
/-- holes of a tidy list, with its end -/
def runsX (a : Int) (S : List Ext) (n : Int) : List Ext := holesGo a (S ++ [(n, 0)])
theorem runsX_nil (a n : Int) : runsX a [] n = if a < n then [(a, n - a)] else [] := by
  unfold runsX
  simp [holesGo]
theorem runsX_cons (a : Int) (e : Ext) (r : List Ext) (n : Int) : runsX a (e :: r) n = (if a < e.1 then [(a, e.1 - a)] else []) ++ runsX (e.1 + e.2) r n := rfl
theorem runs_mem : ∀ {S : List Ext} {a n : Int}, Tidy a S n → ∀ h ∈ runsX a S n, a ≤ h.1 ∧ 1 ≤ h.2 ∧ h.1 + h.2 ≤ n ∧ ∀ e ∈ S, h.1 + h.2 ≤ e.1 ∨ e.1 + e.2 ≤ h.1
  | [], a, n, ht, h, hh => by
    rw [runsX_nil] at hh
    split at hh
    · rw [List.mem_singleton.1 hh]
      dsimp only
      exact ⟨by omega, by omega, by omega, fun e he => by cases he⟩
    · cases hh
  | e :: r, a, n, ⟨h1, h2, h3⟩, h, hh => by
    rw [runsX_cons] at hh
    rcases List.mem_append.1 hh with hh | hh
    · split at hh
      · rw [List.mem_singleton.1 hh]
        have := tidy_le h3
        dsimp only
        refine ⟨by omega, by omega, by omega, fun x hx => .inl ?_⟩
        rcases List.mem_cons.1 hx with rfl | hx
        · omega
        · have := tidy_mem h3 x hx; omega
      · cases hh
    · obtain ⟨i1, i2, i3, i4⟩ := runs_mem h3 h hh
      refine ⟨by omega, i2, i3, fun x hx => ?_⟩
      rcases List.mem_cons.1 hx with rfl | hx
      · right; omega
      · exact i4 x hx
theorem runs_pair : ∀ {S : List Ext} {a n : Int}, Tidy a S n → (runsX a S n).Pairwise (fun x y => x.1 + x.2 ≤ y.1)
  | [], a, n, _ => by
    rw [runsX_nil]; split <;> simp
  | e :: r, a, n, ⟨h1, h2, h3⟩ => by
    rw [runsX_cons]
    have ih := runs_pair h3
    split
    · refine List.Pairwise.cons (fun x hx => ?_) ih
      have := runs_mem h3 x hx
      dsimp only
      omega
    · exact ih
theorem foldl_sum (l : List Ext) : ∀ s : Int, l.foldl (fun s e => s + e.2) s = s + l.foldl (fun s e => s + e.2) 0 := by
  induction l with
  | nil => intro s; simp
  | cons x l ih => intro s; rw [List.foldl_cons, ih, List.foldl_cons, ih (0 + x.2)]; omega
theorem sumX_cons (e : Ext) (l : List Ext) : sumX (e :: l) = e.2 + sumX l := by
  unfold sumX; rw [List.foldl_cons, foldl_sum]; omega
theorem sumX_append (l m : List Ext) : sumX (l ++ m) = sumX l + sumX m := by
  induction l with
  | nil => simp [sumX]
  | cons x l ih => rw [List.cons_append, sumX_cons, sumX_cons, ih]; omega
theorem sumX_perm {l m : List Ext} (h : l.Perm m) : sumX l = sumX m := by
  induction h with
  | nil => rfl
  | cons x _ ih => rw [sumX_cons, sumX_cons, ih]
  | swap x y l => rw [sumX_cons, sumX_cons, sumX_cons, sumX_cons]; omega
  | trans _ _ h1 h2 => rw [h1, h2]
theorem runs_sum : ∀ {S : List Ext} {a n : Int}, Tidy a S n → sumX S + sumX (runsX a S n) = n - a
  | [], a, n, h => by
    have : a ≤ n := h
    rw [runsX_nil]; split
    · rw [sumX_cons]; simp [sumX]
    · simp [sumX]; omega
  | e :: r, a, n, ⟨h1, h2, h3⟩ => by
    rw [runsX_cons, sumX_cons, sumX_append]
    have ih := runs_sum h3
    split
    · rw [sumX_cons]
      have : sumX [] = 0 := rfl
      dsimp only
      omega
    · have : sumX [] = 0 := rfl
      omega
/-- one more, where it fits -/
theorem runs_insert : ∀ {S : List Ext} {a n at_ L size : Int}, Tidy a S n → (at_, L) ∈ runsX a S n → 1 ≤ size → size ≤ L →
    ∃ S', S'.Perm ((at_, size) :: S) ∧ Tidy a S' n ∧ (runsX a S' n).length ≤ (runsX a S n).length ∧ ∀ h ∈ runsX a S' n, ∃ h' ∈ runsX a S n, h.2 ≤ h'.2
  | [], a, n, at_, L, size, ht, hm, h1, h2 => by
    rw [runsX_nil] at hm
    split at hm
    · rename_i hlt
      have he := List.mem_singleton.1 hm
      injection he with e1 e2
      subst e1 e2
      refine ⟨[(at_, size)], List.Perm.refl _, ⟨Int.le_refl _, h1, (by omega : at_ + size ≤ n)⟩, ?_, ?_⟩
      · rw [runsX_cons, runsX_nil, runsX_nil, if_neg (by dsimp only; omega), if_pos hlt]
        dsimp only
        split <;> simp
      · intro h hh
        rw [runsX_cons, runsX_nil, if_neg (by dsimp only; omega)] at hh
        dsimp only at hh
        split at hh
        · have hm' : h = (at_ + size, n - (at_ + size)) := by simpa using hh
          rw [hm', runsX_nil, if_pos hlt]
          exact ⟨_, List.mem_singleton.2 rfl, by dsimp only; omega⟩
        · simp at hh
    · cases hm
  | e :: r, a, n, at_, L, size, ⟨t1, t2, t3⟩, hm, h1, h2 => by
    rw [runsX_cons] at hm
    rcases List.mem_append.1 hm with hm | hm
    · split at hm
      · rename_i hlt
        have he := List.mem_singleton.1 hm
        injection he with e1 e2
        subst e1 e2
        refine ⟨(at_, size) :: e :: r, List.Perm.refl _, ⟨Int.le_refl _, h1, (by dsimp only; omega), t2, t3⟩, ?_, ?_⟩
        · rw [runsX_cons, runsX_cons, runsX_cons, if_neg (by dsimp only; omega), if_pos hlt]
          dsimp only
          split <;> simp
        · intro h hh
          rw [runsX_cons, runsX_cons, if_neg (by dsimp only; omega)] at hh
          dsimp only at hh
          rw [runsX_cons, if_pos hlt]
          rw [List.nil_append] at hh
          rcases List.mem_append.1 hh with hh | hh
          · split at hh
            · rw [List.mem_singleton.1 hh]
              exact ⟨_, List.mem_cons_self .., by dsimp only; omega⟩
            · cases hh
          · exact ⟨h, List.mem_cons_of_mem _ hh, Int.le_refl _⟩
      · cases hm
    · obtain ⟨S', p1, p2, p3, p4⟩ := runs_insert t3 hm h1 h2
      refine ⟨e :: S', (List.Perm.cons e p1).trans (List.Perm.swap _ _ _), ⟨t1, t2, p2⟩, ?_, ?_⟩
      · rw [runsX_cons, runsX_cons, List.length_append, List.length_append]; omega
      · intro h hh
        rw [runsX_cons] at hh ⊢
        rcases List.mem_append.1 hh with hh | hh
        · exact ⟨h, List.mem_append_left _ hh, Int.le_refl _⟩
        · obtain ⟨h', m1, m2⟩ := p4 h hh
          exact ⟨h', List.mem_append_right _ m1, m2⟩
theorem sortE_unique {l S : List Ext} {a n : Int} (hp : S.Perm l) (ht : Tidy a S n) : sortE l = S := by
  have h1 : (sortE l).Perm S := (sortE_perm l).trans hp.symm
  have hs := tidy_strict ht
  refine List.Perm.eq_of_pairwise (le := fun x y : Ext => x.1 ≤ y.1) (fun x y hx hy h h' => ?_) (sortE_sorted l) (hs.imp fun h => Int.le_of_lt h) h1
  have hx' : x ∈ S := h1.mem_iff.1 hx
  obtain ⟨i, hi, rfl⟩ := List.getElem_of_mem hx'
  obtain ⟨j, hj, rfl⟩ := List.getElem_of_mem hy
  rw [List.pairwise_iff_getElem] at hs
  rcases Nat.lt_trichotomy i j with hij | rfl | hij
  · have := hs i j hi hj hij; omega
  · rfl
  · have := hs j i hj hi hij; omega
theorem bestX_snoc (size : Int) (H : List Ext) (x : Ext) : bestX size (H ++ [x]) = if size ≤ x.2 ∧ ((bestX size H).2 = 0 ∨ x.2 < (bestX size H).2) then x else bestX size H := by
  unfold bestX; rw [List.foldl_append]; rfl
theorem snocE {p : List Ext → Prop} (h0 : p []) (h1 : ∀ L x, p L → p (L ++ [x])) (L : List Ext) : p L := by
  rw [← List.reverse_reverse L]
  induction L.reverse with
  | nil => exact h0
  | cons x L ih => rw [List.reverse_cons]; exact h1 _ _ ih
theorem best_inv (size : Int) (h1 : 1 ≤ size) (H : List Ext) : (bestX size H = (0, 0) ∧ ∀ h ∈ H, h.2 < size) ∨ (bestX size H ∈ H ∧ size ≤ (bestX size H).2 ∧ ∀ h ∈ H, size ≤ h.2 → (bestX size H).2 ≤ h.2) := by
  induction H using snocE with
  | h0 => exact .inl ⟨rfl, fun h hh => by cases hh⟩
  | h1 L x ih =>
    rw [bestX_snoc]
    rcases ih with ⟨e, hall⟩ | ⟨hm, hs, hall⟩
    · rw [e]
      by_cases hx : size ≤ x.2
      · rw [if_pos ⟨hx, .inl rfl⟩]
        refine .inr ⟨by simp, hx, fun h hh hsz => ?_⟩
        rcases List.mem_append.1 hh with hh | hh
        · have := hall h hh; omega
        · rw [List.mem_singleton.1 hh]; exact Int.le_refl _
      · rw [if_neg (fun h => hx h.1)]
        refine .inl ⟨rfl, fun h hh => ?_⟩
        rcases List.mem_append.1 hh with hh | hh
        · exact hall h hh
        · rw [List.mem_singleton.1 hh]; omega
    · by_cases hx : size ≤ x.2 ∧ ((bestX size L).2 = 0 ∨ x.2 < (bestX size L).2)
      · rw [if_pos hx]
        refine .inr ⟨by simp, hx.1, fun h hh hsz => ?_⟩
        rcases List.mem_append.1 hh with hh | hh
        · have := hall h hh hsz; omega
        · rw [List.mem_singleton.1 hh]; exact Int.le_refl _
      · rw [if_neg hx]
        refine .inr ⟨List.mem_append_left _ hm, hs, fun h hh hsz => ?_⟩
        rcases List.mem_append.1 hh with hh | hh
        · exact hall h hh hsz
        · rw [List.mem_singleton.1 hh] at hsz ⊢; omega
section
variable {n : Int} {l : List Ext}
theorem holes_runs (n : Int) (l : List Ext) : holesX n l = runsX 0 (sortE l) n := rfl
theorem holes_mem (h : chkX n l = 0) : ∀ x ∈ holesX n l, 0 ≤ x.1 ∧ 1 ≤ x.2 ∧ x.1 + x.2 ≤ n ∧ ∀ e ∈ l, x.1 + x.2 ≤ e.1 ∨ e.1 + e.2 ≤ x.1 := fun x hx => by
  obtain ⟨i1, i2, i3, i4⟩ := runs_mem (tidy_of h) x hx
  exact ⟨i1, i2, i3, fun e he => i4 e ((sortE_perm l).mem_iff.2 he)⟩
theorem holds_sum (h : chkX n l = 0) : sumX l + sumX (holesX n l) = n := by
  have h1 := runs_sum (tidy_of h)
  rw [sumX_perm (sortE_perm l)] at h1
  rw [holes_runs]; omega
theorem holds_bad (h : chkX n l = 0) : ∀ e ∈ l, badX n e = false := fun e he => by
  obtain ⟨_, _, _, _, h5⟩ := chkX_ok h
  obtain ⟨j, hj, rfl⟩ := List.getElem_of_mem he
  exact (h5 j hj).1
theorem holds_chk (h : chkX n l = 0) (hl : (l ++ holesX n l).length ≤ 200) : chkX n (l ++ holesX n l) = 0 := by
  obtain ⟨h0, h1, _, _, _⟩ := chkX_ok h
  have hm := holes_mem h
  refine chkX_of h0 h1 hl (fun e he => ?_) ?_
  · rcases List.mem_append.1 he with he | he
    · exact holds_bad h e he
    · have := hm e he; exact badX_of (by omega)
  · rw [List.pairwise_append]
    refine ⟨chkX_pair h, (runs_pair (tidy_of h)).imp fun hxy => hitX_false.2 (.inr hxy), fun e he x hx => ?_⟩
    have := (hm x hx).2.2.2 e he
    exact hitX_false.2 (by omega)
theorem more_chk (h : chkX n l = 0) {at_ L size : Int} (hm : (at_, L) ∈ holesX n l) (h1 : 1 ≤ size) (h2 : size ≤ L) (hl : l.length + 1 ≤ 200) : chkX n (l ++ [(at_, size)]) = 0 ∧ chkX n ((at_, size) :: l) = 0 := by
  obtain ⟨o0, o1, _, _, _⟩ := chkX_ok h
  obtain ⟨m1, m2, m3, m4⟩ := holes_mem h _ hm
  dsimp only at m1 m2 m3 m4
  have hb : ∀ e ∈ (at_, size) :: l, badX n e = false := fun e he => by
    rcases List.mem_cons.1 he with rfl | he
    · exact badX_of (by dsimp only; omega)
    · exact holds_bad h e he
  have hx : ∀ e ∈ l, hitX (at_, size) e = false := fun e he => hitX_false.2 (by have := m4 e he; dsimp only; omega)
  constructor
  · refine chkX_of o0 o1 (by simp; omega) (fun e he => hb e (by simp at he ⊢; rcases he with h | h; exact .inr h; exact .inl h)) ?_
    rw [List.pairwise_append]
    refine ⟨chkX_pair h, by simp, fun e he x hx' => ?_⟩
    rw [List.mem_singleton.1 hx', hitX_symm]
    exact hx e he
  · refine chkX_of o0 o1 (by simp; omega) hb ?_
    exact List.Pairwise.cons hx (chkX_pair h)
theorem fit_none (h : chkX n l = 0) {size : Int} (hf : fitE n l size ≠ 0) : ∀ x ∈ holesX n l, 1 ≤ size → x.2 < size := fun x hx hs => by
  obtain ⟨o0, o1, _, _, _⟩ := chkX_ok h
  have hm := holes_mem h x hx
  unfold fitE at hf
  rw [if_pos h] at hf
  by_cases h1 : size < 1 ∨ 6400 < size
  · omega
  · rw [if_neg h1] at hf
    rcases best_inv size hs (holesX n l) with ⟨e, hall⟩ | ⟨_, h2, _⟩
    · exact hall x hx
    · rw [if_neg (by omega)] at hf; exact absurd rfl hf
theorem fit_some (h : chkX n l = 0) {size : Int} (hf : fitE n l size = 0) : ∃ L, (fitA n l size, L) ∈ holesX n l ∧ 1 ≤ size ∧ size ≤ L ∧ (∀ x ∈ holesX n l, size ≤ x.2 → L ≤ x.2) ∧ (∀ x ∈ holesX n l, x.1 = fitA n l size → x.2 = L) := by
  have hA : fitA n l size = (bestX size (holesX n l)).1 := by unfold fitA; rw [if_pos hf]
  unfold fitE at hf
  rw [if_pos h] at hf
  by_cases h1 : size < 1 ∨ 6400 < size
  · rw [if_pos h1] at hf; cases hf
  · rw [if_neg h1] at hf
    have hs : 1 ≤ size := by omega
    rcases best_inv size hs (holesX n l) with ⟨e, _⟩ | ⟨hm, h2, h3⟩
    · rw [e] at hf; cases hf
    · refine ⟨(bestX size (holesX n l)).2, by rw [hA]; exact hm, hs, h2, h3, fun x hx hxa => ?_⟩
      rw [hA] at hxa
      have hp := runs_pair (tidy_of h)
      rw [← holes_runs, List.pairwise_iff_getElem] at hp
      obtain ⟨i, hi, rfl⟩ := List.getElem_of_mem hx
      obtain ⟨j, hj, hjb⟩ := List.getElem_of_mem hm
      rw [← hjb] at hxa ⊢
      have pi := holes_mem h _ (List.getElem_mem hi)
      have pj := holes_mem h _ (List.getElem_mem hj)
      rcases Nat.lt_trichotomy i j with hij | rfl | hij
      · have := hp i j hi hj hij; omega
      · rfl
      · have := hp j i hj hi hij; omega
theorem mostX_snoc (H : List Ext) (x : Ext) : mostX (H ++ [x]) = max (mostX H) x.2 := by
  unfold mostX; rw [List.foldl_append]; rfl
theorem mostX_mem (H : List Ext) : 0 ≤ mostX H ∧ (∀ x ∈ H, x.2 ≤ mostX H) ∧ ∀ M, 0 ≤ M → (∀ x ∈ H, x.2 ≤ M) → mostX H ≤ M := by
  induction H using snocE with
  | h0 => exact ⟨Int.le_refl _, fun x hx => (by cases hx), fun M hM _ => hM⟩
  | h1 L x ih =>
    obtain ⟨i0, i1, i2⟩ := ih
    rw [mostX_snoc]
    refine ⟨by omega, fun y hy => ?_, fun M hM hall => ?_⟩
    · rcases List.mem_append.1 hy with hy | hy
      · have := i1 y hy; omega
      · rw [List.mem_singleton.1 hy]; omega
    · have := i2 M hM (fun y hy => hall y (List.mem_append_left _ hy))
      have := hall x (by simp)
      omega
theorem sum_mem {H : List Ext} (hp : ∀ x ∈ H, 0 ≤ x.2) : 0 ≤ sumX H ∧ ∀ x ∈ H, x.2 ≤ sumX H := by
  induction H with
  | nil => exact ⟨Int.le_refl _, fun x hx => by cases hx⟩
  | cons y r ih =>
    obtain ⟨i0, i1⟩ := ih (fun x hx => hp x (List.mem_cons_of_mem _ hx))
    have := hp y (List.mem_cons_self ..)
    rw [sumX_cons]
    refine ⟨by omega, fun x hx => ?_⟩
    rcases List.mem_cons.1 hx with rfl | hx
    · omega
    · have := i1 x hx; omega
/-- what is most is free -/
theorem most_free (h : chkX n l = 0) : mostX (holesX n l) ≤ n - sumX l := by
  have hs := holds_sum h
  have hm := sum_mem (H := holesX n l) (fun x hx => by have := holes_mem h x hx; omega)
  exact (mostX_mem _).2.2 _ (by omega) (fun x hx => by have := hm.2 x hx; omega)
theorem fit_most (h : chkX n l = 0) {size : Int} (hf : fitE n l size ≠ 0) : size < 1 ∨ mostX (holesX n l) < size := by
  by_cases h1 : size < 1
  · exact .inl h1
  · right
    have := (mostX_mem (holesX n l)).2.2 (size - 1) (by omega) (fun x hx => by have := fit_none h hf x hx (by omega); omega)
    omega
theorem more_stat (h : chkX n l = 0) {at_ L size : Int} (hm : (at_, L) ∈ holesX n l) (h1 : 1 ≤ size) (h2 : size ≤ L) :
    mostX (holesX n ((at_, size) :: l)) ≤ mostX (holesX n l) ∧ (holesX n ((at_, size) :: l)).length ≤ (holesX n l).length ∧ sumX ((at_, size) :: l) = size + sumX l := by
  obtain ⟨S', p1, p2, p3, p4⟩ := runs_insert (tidy_of h) hm h1 h2
  have hu : sortE ((at_, size) :: l) = S' := sortE_unique (p1.trans (List.Perm.cons _ (sortE_perm l))) p2
  rw [holes_runs n (_ :: l), hu]
  refine ⟨(mostX_mem _).2.2 _ (mostX_mem _).1 (fun x hx => ?_), p3, sumX_cons _ _⟩
  obtain ⟨x', m1, m2⟩ := p4 x hx
  have := (mostX_mem (holesX n l)).2.1 x' m1
  omega
end
end Go.Proofs.YtgejkhokijjemaaDoor
/- The heap: Alloc. -/
namespace Go.Proofs.YtgejkhokijjemaaDoor
open Go.RowKit

section
variable {w0 w : World} {F : Nat → Prop} {h : Nat} {l : Bytes}
/-- a heap's image, for a walk that writes into it -/
theorem Hp.rowW (hp : Hp w0 w F h l) : ∃ g cap cur, w.cell? ⟨h, 0, none⟩ = some (.slice (some ⟨g, 0, none⟩) l.length cap) ∧ w.heap[g]? = some (.cells cur 5 (0, 0)) ∧ cur.size = cap ∧ l.length ≤ cap ∧ cap ≤ maxLen ∧ Row w 5 g cap l ∧ F g ∧
    ∀ o (bs : Bytes), o + bs.length ≤ l.length → Hp w0 (w.setRow g (setB cur o (bs.map bv))) F h (splice l o bs) ∧ Keep F w (w.setRow g (setB cur o (bs.map bv))) := by
  obtain ⟨g, cap, h1, h2, h3⟩ := hp.hd
  have h2' := h2
  obtain ⟨cur, e1, e2, e3, e4, e5⟩ := h2'
  have hne : h ≠ g := ne_row h1 h2 (by decide)
  refine ⟨g, cap, cur, by simp [World.cell?, h1], e1, e4, e2, e3, h2, h3, fun o bs hb => ?_⟩
  have hl := splice_len l bs o hb
  have hsz : (w.setRow g (setB cur o (bs.map bv))).heap.size = w.heap.size := by simp [World.setRow]
  have hk : Keep F w (w.setRow g (setB cur o (bs.map bv))) := ⟨rfl, rfl, rfl, Nat.le_of_eq hsz.symm, fun k _ hn => setRow_other w g _ _ (fun e => hn (e ▸ h3))⟩
  refine ⟨⟨⟨g, cap, by rw [hl]; exact (setRow_other w g _ _ hne).trans h1, h2.set_ o bs hb cur e1, h3⟩, hp.fh, by rw [hl]; exact hp.len, hp.new, fun k hk' => by rw [hsz]; exact hp.flt k hk', hkeep_below hp.bel hk hp.new⟩, hk⟩
end
/-- the first handle that is free (0: none), of the last j -/
def fH (l : Bytes) : Nat → Nat
  | 0 => 0
  | j + 1 => if hasE (rawE l (39 - j)) = true then fH l j else 40 - j
theorem fH_le (l : Bytes) : ∀ j, j ≤ 40 → fH l j ≤ 40
  | 0, _ => by simp [fH]
  | j + 1, hj => by
    unfold fH; split
    · exact fH_le l j (by omega)
    · omega
theorem fH_spec (l : Bytes) : ∀ j, j ≤ 40 → (fH l j = 0 ∧ ∀ k, 40 - j ≤ k → k < 40 → hasE (rawE l k) = true) ∨ (∃ k, 40 - j ≤ k ∧ k < 40 ∧ fH l j = k + 1 ∧ hasE (rawE l k) = false ∧ ∀ i, 40 - j ≤ i → i < k → hasE (rawE l i) = true)
  | 0, _ => .inl ⟨rfl, fun k h1 h2 => by omega⟩
  | j + 1, hj => by
    cases hh : hasE (rawE l (39 - j)) with
    | true =>
      have e : fH l (j + 1) = fH l j := by simp [fH, hh]
      rw [e]
      rcases fH_spec l j (by omega) with ⟨h0, hall⟩ | ⟨k, k1, k2, k3, k4, k5⟩
      · refine .inl ⟨h0, fun k h1 h2 => ?_⟩
        by_cases hk : k = 39 - j
        · rw [hk]; exact hh
        · exact hall k (by omega) h2
      · refine .inr ⟨k, by omega, k2, k3, k4, fun i h1 h2 => ?_⟩
        by_cases hi : i = 39 - j
        · rw [hi]; exact hh
        · exact k5 i (by omega) h2
    | false =>
      have e : fH l (j + 1) = 40 - j := by simp [fH, hh]
      exact .inr ⟨39 - j, by omega, by omega, by omega, hh, fun i h1 h2 => by omega⟩
/-- the fault of Alloc; where; the handle; the image behind it -/
def allocE (l : Bytes) (n t : Int) : Nat := if lenB n = false ∨ tagB t = false then 1 else if fH l 40 = 0 ∨ fitE ((l.length : Int) - 288) (takenL l) n ≠ 0 then 4 else 0
def allocA (l : Bytes) (n : Int) : Int := fitA ((l.length : Int) - 288) (takenL l) n + 288
def allocH (l : Bytes) (n t : Int) : Int := if allocE l n t = 0 then fH l 40 else 0
def allocL (l : Bytes) (n t : Int) : Bytes := if allocE l n t = 0 then splice (putEnt l (fH l 40) (allocA l n) n t) (allocA l n).toNat (List.replicate n.toNat 0) else l
theorem alloc_in {l : Bytes} {n : Int} (h : fitE ((l.length : Int) - 288) (takenL l) n = 0) : 288 ≤ allocA l n ∧ allocA l n + n ≤ l.length := by
  have hc : chkX ((l.length : Int) - 288) (takenL l) = 0 := by
    unfold fitE at h
    by_cases hc : chkX ((l.length : Int) - 288) (takenL l) = 0
    · exact hc
    · rw [if_neg hc] at h; exact absurd h hc
  obtain ⟨L, m1, m2, m3, _, _⟩ := fit_some hc h
  have := holes_mem hc _ m1
  unfold allocA
  dsimp only at this
  omega
section
variable {w0 w : World} {F : Nat → Prop} {h : Nat} {l : Bytes}
theorem halloc_e1 (n t : Int) (_hp : Hp w0 w F h l) (hbad : lenB n = false ∨ tagB t = false) :
    Calls Tryd.prog 13 #[.pointer (some ⟨h, 0, none⟩), .int .i64 n, .int .i64 t] w fun e w' => e = .returned (.tuple #[.int .i64 0, .iface 121 (.int .i64 1)]) ∧ w = w' := by
  cases h1 : lenB n with
  | false =>
    clear hbad
    go_enter Tryd.func13, Tryd.ntmps13
    go_wp2_with fail
    refine (len_any _ _).mono ?_
    rintro e w' ⟨rfl, rfl⟩
    rw [h1]
    go_wp2_with fail
    go_ret2
    exact ⟨rfl, rfl⟩
  | true =>
    have h2 : tagB t = false := by simpa [h1] using hbad
    clear hbad
    go_enter Tryd.func13, Tryd.ntmps13
    go_wp2_with fail
    refine (len_any _ _).mono ?_
    rintro e w' ⟨rfl, rfl⟩
    rw [h1]
    go_wp2_with fail
    refine (tag_any _ _).mono ?_
    rintro e w' ⟨rfl, rfl⟩
    rw [h2]
    go_wp2_with fail
    go_ret2
    exact ⟨rfl, rfl⟩
set_option maxRecDepth 100000 in
theorem halloc_go (n t : Int) (hp : Hp w0 w F h l) (h1 : lenB n = true) (h2 : tagB t = true) :
    Calls Tryd.prog 13 #[.pointer (some ⟨h, 0, none⟩), .int .i64 n, .int .i64 t] w fun e w' => e = .returned (.tuple #[.int .i64 (allocH l n t), errV (allocE l n t)]) ∧ ∃ F', HpM w0 w w' F F' h (allocL l n t) := by
  have hb := rightB_true.1 hp.len
  have hnb := lenB_true.1 h1
  have HP := Hidden.mk hp
  have HG : Hidden (∀ (j : Nat), j < 40 → ∀ W, Hp w0 W F h l → ∃ g cap, W.cell? ⟨h, 0, none⟩ = some (.slice (some ⟨g, 0, none⟩) l.length cap) ∧ Calls Tryd.prog 69 #[.slice (some ⟨g, 0, none⟩) l.length cap, .int .i64 ((39 - j : Nat) + 1 : Int)] W fun e w' => ∃ a b c d : Int, e = .returned (.tuple #[.agg #[.int .i64 a, .int .i64 b, .int .i64 c, .int .i64 d], errV (if hasE (rawE l (39 - j)) = true then 0 else 5)]) ∧ Below W.heap.size W w') := ⟨fun j hj W hW => by
    obtain ⟨g, cap, c0, hcap, hrow, _⟩ := hW.open_
    refine ⟨g, cap, c0, (iget_ans (some ⟨g, 0, none⟩) l.length cap l _ W rfl hW.len hcap hrow.rd).mono ?_⟩
    rintro e w' ⟨rfl, hb'⟩
    have e : hE l ((39 - j : Nat) + 1 : Int) = if hasE (rawE l (39 - j)) = true then 0 else 5 := by
      cases hh : hasE (rawE l (39 - j)) with
      | true => rw [(hE_has (by omega) hh).1]; rfl
      | false => rw [hE_hasnt (by omega) hh]; rfl
    rw [e]
    exact ⟨_, _, _, _, rfl, hb'⟩⟩
  have HE : Hidden (allocE l n t = if fH l 40 = 0 ∨ fitE ((l.length : Int) - 288) (takenL l) n ≠ 0 then 4 else 0) := ⟨by unfold allocE; rw [if_neg (by simp [h1, h2])]⟩
  have HH : Hidden (allocH l n t = if allocE l n t = 0 then (fH l 40 : Int) else 0) := ⟨rfl⟩
  have HL : Hidden (allocL l n t = if allocE l n t = 0 then splice (putEnt l (fH l 40) (allocA l n) n t) (allocA l n).toNat (List.replicate n.toNat 0) else l) := ⟨rfl⟩
  clear hp
  go_enter Tryd.func13, Tryd.ntmps13
  go_wp2_with fail
  refine (len_any _ _).mono ?_
  rintro e w' ⟨rfl, rfl⟩
  rw [h1]
  go_wp2_with fail
  refine (tag_any _ _).mono ?_
  rintro e w' ⟨rfl, rfl⟩
  rw [h2]
  go_wp2_with fail
  go_loopg [8, 9] 40 (fun q v i wr => ∃ j : Nat, j ≤ 40 ∧ q = 40 - j ∧ i = .int .i64 (40 - (j : Int)) ∧ v = .int .i64 (fH l j : Int) ∧ Hidden (Below w.heap.size w wr))
  case atStart => exact ⟨0, by omega, rfl, rfl, rfl, ⟨Below.refl _ _⟩⟩
  case round =>
    obtain ⟨j, hj, rfl, rfl, rfl, hst⟩ := hrel
    by_cases hlt : j < 40
    · obtain ⟨g, cap, y0, hget⟩ := HG.out j hlt wr (HP.out.below hst.out)
      have e1 : ((39 - j : Nat) + 1 : Int) = 40 - (j : Int) := by omega
      rw [e1] at hget
      have HGT := Hidden.mk hget
      have HS : Hidden (fH l (j + 1) = if hasE (rawE l (39 - j)) = true then fH l j else 40 - j) := ⟨rfl⟩
      have t0 : decide (1 ≤ 40 - (j : Int)) = true := by simp; omega
      have s1 : IntKind.i64.wrap (40 - (j : Int) - 1) = 40 - ((j + 1 : Nat) : Int) := by rw [IntWalk.i64_in _ (by omega)]; omega
      generalize fH l j = fj at *
      clear hget e1
      go_wp2_with fail
      refine HGT.out.mono ?_
      rintro e w1 ⟨a, b, c, d, rfl, hb1⟩
      have hB1 := hst.out.trans (hb1.mono hst.out.size)
      have HB := Hidden.mk (hB1.alloc hB1.size (.cells #[.int .i64 a, .int .i64 b, .int .i64 c, .int .i64 d] 125))
      clear hb1 hB1 hst HGT
      cases hh : hasE (rawE l (39 - j)) with
      | true =>
        rw [if_pos rfl]
        have HS2 : Hidden (fH l (j + 1) = fj) := ⟨by rw [HS.out, if_pos hh]⟩
        rw [show errV 0 = Value.nilIface from rfl]
        clear hh HS
        go_wp2_with fail
        go_roundg (40 - (j + 1))
        case measure => omega
        case rel => exact ⟨j + 1, by omega, rfl, rfl, by rw [HS2.out], HB⟩
      | false =>
        rw [if_neg (by decide)]
        have HS2 : Hidden (fH l (j + 1) = 40 - j) := ⟨by rw [HS.out, if_neg (by rw [hh]; decide)]⟩
        rw [show errV 5 = .iface 121 (.int .i64 5) from rfl]
        clear hh HS
        go_wp2_with fail
        go_roundg (40 - (j + 1))
        case measure => omega
        case rel => exact ⟨j + 1, by omega, rfl, rfl, by rw [HS2.out]; congr 1; omega, HB⟩
    · obtain rfl : j = 40 := by omega
      have HP2 := Hidden.mk (HP.out.below hst.out)
      have HT := Hidden.mk (htaken_any HP2.out)
      have t0 : decide (1 ≤ 40 - ((40 : Nat) : Int)) = false := by decide
      have hfl := fH_le l 40 (Nat.le_refl _)
      have HW1 := Hidden.mk hst.out
      clear hst HG
      go_wp2_with fail
      refine HT.out.mono ?_
      rintro e w1 ⟨A, m, c, rfl, hm, hmc, hrx, hb1⟩
      have HW2 := Hidden.mk (HW1.out.trans (hb1.mono HW1.out.size))
      have HF := Hidden.mk (xfit_any ((l.length : Int) - 288) A m c (takenL l) n w1 hm hmc hrx)
      clear hb1 hrx HT HW1 HP2 t0
      have HIN : Hidden (fitE ((l.length : Int) - 288) (takenL l) n = 0 → 288 ≤ allocA l n ∧ allocA l n + n ≤ l.length) := ⟨alloc_in⟩
      have HAD : Hidden (allocA l n = fitA ((l.length : Int) - 288) (takenL l) n + 288) := ⟨rfl⟩
      generalize fitE ((l.length : Int) - 288) (takenL l) n = fe at *
      generalize fitA ((l.length : Int) - 288) (takenL l) n = fa at *
      generalize allocA l n = aa at *
      generalize fH l 40 = fh at *
      go_wp2_with fail
      refine HF.out.mono ?_
      rintro e w2 ⟨rfl, hb2⟩
      have HW3 := Hidden.mk (HW2.out.trans (hb2.mono HW2.out.size))
      clear hb2 HF HW2
      by_cases hz : fh = 0
      · have hae : allocE l n t = 4 := by rw [HE.out, if_pos (.inl hz)]
        have HAH : Hidden (allocE l n t = 4 ∧ allocH l n t = 0 ∧ allocL l n t = l) := ⟨hae, by rw [HH.out, hae]; rfl, by rw [HL.out, hae]; rfl⟩
        clear hae
        subst hz
        have HFIN := Hidden.mk (HP.out.same HW3.out)
        generalize errV fe = ev at *
        clear HE HH HL
        go_wp2_with fail
        go_ret2
        exact ⟨by rw [HAH.out.1, HAH.out.2.1]; rfl, _, by rw [HAH.out.2.2]; exact HFIN.out⟩
      · by_cases hfe : fe = 0
        · have hae : allocE l n t = 0 := by rw [HE.out, if_neg (by omega)]
          have hah : allocH l n t = fh := by rw [HH.out, hae]; rfl
          have hin := HIN.out hfe
          rw [hfe, show errV 0 = Value.nilIface from rfl]
          have t1 : (fh == 0) = false := by simpa using hz
          have t2 : ((fh : Int) == 0) = false := by simpa using hz
          have s1 : IntKind.i64.wrap (fa + 288) = aa := by rw [HAD.out, IntWalk.i64_in _ (by have := HAD.out; omega)]
          have HLL : Hidden (allocL l n t = splice (putEnt l fh aa n t) aa.toNat (List.replicate n.toNat 0)) := ⟨by rw [HL.out, hae]; rfl⟩
          have HAH := Hidden.mk (And.intro hae hah)
          clear hae hah
          obtain ⟨a, rfl⟩ := Int.eq_ofNat_of_zero_le (show 0 ≤ aa by omega)
          obtain ⟨nn, rfl⟩ := Int.eq_ofNat_of_zero_le (show 0 ≤ n by omega)
          have hal : allocL l nn t = splice (putEnt l fh a nn t) a (List.replicate nn 0) := HLL.out
          have hwb : withinB l.length (a : Int) (nn : Int) = true := withinB_true.2 (by omega)
          have hal1 : Below w2.heap.size w2 (w2.alloc (.cells #[.int .i64 fh, .int .i64 a, .int .i64 nn, .int .i64 t] 125)) := (Below.refl _ _).alloc (Nat.le_refl _) _
          have hp3 := HP.out.below (HW3.out.trans (hal1.mono HW3.out.size))
          have HPUT := Hidden.mk (fun (W : World) (hW : Hp w0 W F h l) => hput_ok (fh : Int) (a : Int) (nn : Int) t hW (handleB_true.2 (by omega)) h2 h1 hwb)
          have hpl : (putEnt l fh a nn t).length = l.length := putEnt_len l fh a nn t (by omega) (by omega) (by omega)
          have HPL := Hidden.mk hpl
          have HALL := Hidden.mk hal
          have hf := fourAt_one w2 fh a nn t 125
          have HW4 := Hidden.mk (HW3.out.trans (hal1.mono HW3.out.size))
          have HP4 := Hidden.mk hp3
          generalize putEnt l fh a nn t = l1 at *
          clear hal hal1 hp3 hwb hpl HE HH HL HIN HAD hfe hz HLL
          go_wp2_with fail
          generalize w2.alloc (.cells #[.int .i64 fh, .int .i64 a, .int .i64 nn, .int .i64 t] 125) = w3 at *
          refine (HPUT.out _ HP4.out).mono ?_
          rintro e w4 ⟨rfl, F4, hm4⟩
          obtain ⟨f0, f1, f2, f3⟩ := hf
          have hfl4 : w2.heap.size < w3.heap.size := block_lt_of_cell f0
          have hno : ¬ F w2.heap.size := fun hk => by have := HP.out.flt _ hk; have := HW3.out.size; omega
          have hk4 := hm4.kp.block _ hfl4 hno
          have g0 := (World.cell?_of_block (w := w3) (a := ⟨w2.heap.size, 0, none⟩) hk4).trans f0
          have g1 := (World.cell?_of_block (w := w3) (a := ⟨w2.heap.size, 1, none⟩) hk4).trans f1
          have g2 := (World.cell?_of_block (w := w3) (a := ⟨w2.heap.size, 2, none⟩) hk4).trans f2
          have g3 := (World.cell?_of_block (w := w3) (a := ⟨w2.heap.size, 3, none⟩) hk4).trans f3
          obtain ⟨gi, ci, cur4, y0, -, -, hci, -, -, -, -⟩ := hm4.hp.rowW
          rw [HPL.out] at y0 hci
          have HOF := Hidden.mk (hof_any (h := h) gi ci a nn fh t w4 ⟨_, y0⟩ (by omega) (by omega) (by omega))
          have HM := Hidden.mk (((HP.out.same HW4.out).trans hm4))
          have HY0 := Hidden.mk y0
          clear f0 f1 f2 f3 hfl4 hno hk4 hm4 HPUT
          go_wp2_with fail
          refine HOF.out.mono ?_
          rintro e w5 ⟨rfl, hb5⟩
          have hm5 := HM.out.trans (HM.out.hp.same hb5)
          obtain ⟨g5, c5, cur5, z0, z1, z2, z3, -, -, -, z4⟩ := hm5.hp.rowW
          have hyz := ((hb5.cell (p := ⟨h, 0, none⟩) (block_lt_of_cell HY0.out)).trans HY0.out).symm.trans z0
          have hyz := Option.some.inj hyz
          injection hyz with q1 q2 q3
          injection q1 with q1
          injection q1 with q1
          subst q1 q3
          rw [HPL.out] at z3
          have hclear := fun ty => run_clear_row w5 gi a nn (ci - a) cur5 _ z1 (by omega) (by omega) ty
          have hz4 := z4 a (List.replicate nn 0) (by rw [HPL.out]; simp; omega)
          have HFIN := Hidden.mk (hm5.trans (HpM.mk hz4.1 hz4.2 (fun k hk => .inl hk)))
          clear z0 z2 z3 z4 hz4 hm5 hb5 HOF HM HY0 y0 q2
          go_wp2_with fail
          go_ret2
          exact ⟨by rw [HAH.out.1, HAH.out.2]; rfl, _, by rw [HALL.out]; have hF := HFIN.out; rw [List.map_replicate] at hF; exact hF⟩
        · have hae : allocE l n t = 4 := by rw [HE.out, if_pos (.inr hfe)]
          have HAH : Hidden (allocE l n t = 4 ∧ allocH l n t = 0 ∧ allocL l n t = l) := ⟨hae, by rw [HH.out, hae]; rfl, by rw [HL.out, hae]; rfl⟩
          clear hae
          have hev : errV fe = .iface 121 (.int .i64 fe) := by unfold errV; rw [if_neg hfe]
          rw [hev]
          have t1 : (fh == 0) = false := by simpa using hz
          have t2 : ((fh : Int) == 0) = false := by simpa using hz
          have HFIN := Hidden.mk (HP.out.same HW3.out)
          clear HE HH HL hfe hz hev
          go_wp2_with fail
          go_ret2
          exact ⟨by rw [HAH.out.1, HAH.out.2.1]; rfl, _, by rw [HAH.out.2.2]; exact HFIN.out⟩
theorem halloc_any (n t : Int) (hp : Hp w0 w F h l) :
    Calls Tryd.prog 13 #[.pointer (some ⟨h, 0, none⟩), .int .i64 n, .int .i64 t] w fun e w' => e = .returned (.tuple #[.int .i64 (allocH l n t), errV (allocE l n t)]) ∧ ∃ F', HpM w0 w w' F F' h (allocL l n t) := by
  by_cases hbad : lenB n = false ∨ tagB t = false
  · have h1 : allocE l n t = 1 := by unfold allocE; rw [if_pos hbad]
    have h2 : allocH l n t = 0 := by unfold allocH; rw [h1]; rfl
    have h3 : allocL l n t = l := by unfold allocL; rw [h1]; rfl
    rw [h1, h2, h3]
    refine (halloc_e1 n t hp hbad).mono ?_
    rintro e w' ⟨rfl, rfl⟩
    exact ⟨rfl, F, hp.same (Below.refl _ _)⟩
  · exact halloc_go n t hp (by cases hx : lenB n <;> simp_all) (by cases hx : tagB t <;> simp_all)
end
end Go.Proofs.YtgejkhokijjemaaDoor
/- The plain law of heaps: what stays right, what has room. No walk here. -/
namespace Go.Proofs.YtgejkhokijjemaaDoor
open Go.RowKit

/-- where a run is free there is one of the runs -/
theorem run_cover : ∀ {S : List Ext} {a n p s : Int}, Tidy a S n → a ≤ p → p + s ≤ n → 1 ≤ s → (∀ e ∈ S, p + s ≤ e.1 ∨ e.1 + e.2 ≤ p) → ∃ h ∈ runsX a S n, h.1 ≤ p ∧ p + s ≤ h.1 + h.2
  | [], a, n, p, s, ht, h1, h2, h3, _ => by
    rw [runsX_nil, if_pos (by omega)]
    exact ⟨_, List.mem_singleton.2 rfl, by dsimp only; omega, by dsimp only; omega⟩
  | e :: r, a, n, p, s, ⟨t1, t2, t3⟩, h1, h2, h3, hall => by
    rw [runsX_cons]
    rcases hall e (List.mem_cons_self ..) with h | h
    · rw [if_pos (by omega)]
      exact ⟨_, List.mem_append_left _ (List.mem_singleton.2 rfl), by dsimp only; omega, by dsimp only; omega⟩
    · obtain ⟨x, hx, hh⟩ := run_cover t3 h h2 h3 (fun y hy => hall y (List.mem_cons_of_mem _ hy))
      exact ⟨x, List.mem_append_right _ hx, hh⟩
theorem fit_exists {n : Int} {l : List Ext} {p size : Int} (h : chkX n l = 0) (h0 : 0 ≤ p) (h1 : 1 ≤ size) (h2 : p + size ≤ n) (hall : ∀ e ∈ l, p + size ≤ e.1 ∨ e.1 + e.2 ≤ p) : fitE n l size = 0 := by
  obtain ⟨o0, o1, _⟩ := chkX_ok h
  obtain ⟨x, hx, hh⟩ := run_cover (tidy_of h) h0 h2 h1 (fun e he => hall e ((sortE_perm l).mem_iff.1 he))
  rw [← holes_runs] at hx
  refine Classical.byContradiction fun hf => ?_
  have := fit_none h hf x hx h1
  omega
theorem takenL_mem {l : Bytes} {e : Ext} : e ∈ takenL l ↔ ∃ k, k < 40 ∧ hasE (rawE l k) = true ∧ e = ((rAt (rawE l k) : Int) - 288, (rLen (rawE l k) : Int)) := by
  unfold takenL entriesL entsL
  simp only [List.map_map, List.mem_map, List.mem_filter, List.mem_range, Function.comp_apply, takeX]
  constructor
  · rintro ⟨k, ⟨h1, h2⟩, rfl⟩; exact ⟨k, h1, h2, rfl⟩
  · rintro ⟨k, h1, h2, rfl⟩; exact ⟨k, ⟨h1, h2⟩, rfl⟩
theorem overE_hit {r s : Bytes} (h : overE r s = false) : hitX ((rAt r : Int) - 288, (rLen r : Int)) ((rAt s : Int) - 288, (rLen s : Int)) = false := by
  rw [hitX_false]
  unfold overE at h
  simp only [Bool.and_eq_false_iff, decide_eq_false_iff_not] at h
  dsimp only
  omega
/-- the extents of a right image are right -/
theorem good_chk {l : Bytes} (hg : Good l) : chkX ((l.length : Int) - 288) (takenL l) = 0 := by
  have hb := hg.bd
  refine chkX_of (by omega) (by omega) (by have := takenL_len l; omega) (fun e he => ?_) ?_
  · obtain ⟨k, hk, hh, rfl⟩ := takenL_mem.1 he
    have := strayE_false (hg.s.fit k hk hh)
    exact badX_of (by dsimp only; omega)
  · unfold takenL entriesL entsL
    rw [List.map_map, List.pairwise_map]
    have hp : (List.range 40).Pairwise (fun a b => a < b) := List.pairwise_lt_range
    have hf := hp.filter (fun k => hasE (rawE l k))
    refine hf.imp_of_mem ?_
    intro a b ha hb' hab
    have ha := List.mem_filter.1 ha
    have hb2 := List.mem_filter.1 hb'
    have h1 := List.mem_range.1 hb2.1
    have := hg.s.apart b h1 a hab hb2.2 ha.2
    rw [overE_symm] at this
    exact overE_hit this
/-- what lies behind the head is not the head's -/
theorem rawE_tail (l x : Bytes) (o j : Nat) (ho : 288 ≤ o) (hx : o + x.length ≤ l.length) (hj : j < 40) : rawE (splice l o x) j = rawE l j := by
  apply List.ext_getElem?
  intro q
  unfold rawE
  rw [List.getElem?_take, List.getElem?_drop, List.getElem?_take, List.getElem?_drop]
  by_cases hq : q < 5
  · rw [if_pos hq, if_pos hq, splice_at _ _ _ _ hx, if_neg (by omega)]
  · rw [if_neg hq, if_neg hq]
theorem rawR_tail (l x : Bytes) (o j : Nat) (ho : 288 ≤ o) (hx : o + x.length ≤ l.length) (hj : j < 8) : rawR (splice l o x) j = rawR l j := by
  apply List.ext_getElem?
  intro q
  unfold rawR
  rw [List.getElem?_take, List.getElem?_drop, List.getElem?_take, List.getElem?_drop]
  by_cases hq : q < 11
  · rw [if_pos hq, if_pos hq, splice_at _ _ _ _ hx, if_neg (by omega)]
  · rw [if_neg hq, if_neg hq]
theorem rawE_root (l x : Bytes) (i j : Nat) (hx : x.length = 11) (hi : i < 8) (hj : j < 40) (hl : 288 ≤ l.length) : rawE (splice l (200 + 11 * i) x) j = rawE l j := by
  apply List.ext_getElem?
  intro q
  unfold rawE
  rw [List.getElem?_take, List.getElem?_drop, List.getElem?_take, List.getElem?_drop]
  by_cases hq : q < 5
  · rw [if_pos hq, if_pos hq, splice_at _ _ _ _ (by omega), if_neg (by omega)]
  · rw [if_neg hq, if_neg hq]
/-- bytes that are cut out elsewhere -/
theorem cut_splice (l x : Bytes) (o a m : Nat) (hx : o + x.length ≤ l.length) (h : a + m ≤ o ∨ o + x.length ≤ a) : ((splice l o x).drop a).take m = (l.drop a).take m := by
  apply List.ext_getElem?
  intro q
  rw [List.getElem?_take, List.getElem?_drop, List.getElem?_take, List.getElem?_drop]
  by_cases hq : q < m
  · rw [if_pos hq, if_pos hq, splice_at _ _ _ _ hx, if_neg (by omega)]
  · rw [if_neg hq, if_neg hq]
theorem cut_splice_in (l x : Bytes) (o a m : Nat) (hx : o + x.length ≤ l.length) (h1 : o ≤ a) (h2 : a + m ≤ o + x.length) : ((splice l o x).drop a).take m = (x.drop (a - o)).take m := by
  apply List.ext_getElem?
  intro q
  rw [List.getElem?_take, List.getElem?_drop, List.getElem?_take, List.getElem?_drop]
  by_cases hq : q < m
  · rw [if_pos hq, if_pos hq, splice_at _ _ _ _ hx, if_pos (by omega)]
    congr 1; omega
  · rw [if_neg hq, if_neg hq]
theorem zeros_cut (n a m : Nat) (h : a + m ≤ n) : ((List.replicate n (0 : UInt8)).drop a).take m = List.replicate m 0 := by
  rw [List.drop_replicate, List.take_replicate]; congr 1; omega
/-- an image of nothing -/
theorem good_zero {n : Nat} (h : rightB n = true) : Good (List.replicate n 0) := by
  have hb := rightB_true.1 h
  have hE : ∀ k, k < 40 → rawE (List.replicate n 0) k = List.replicate 5 0 := fun k hk => zeros_cut n (5 * k) 5 (by omega)
  have hR : ∀ i, i < 8 → rawR (List.replicate n 0) i = List.replicate 11 0 := fun i hi => zeros_cut n (200 + 11 * i) 11 (by omega)
  refine good_iff.2 ⟨by rw [List.length_replicate]; exact h, ⟨fun k hk _ => by rw [hE k hk]; exact zeros_zero 5, fun k hk hh => ?_, fun k hk j hj hh _ => ?_, fun i hi hz => ?_, fun i hi j hj hz _ => ?_⟩⟩
  · rw [hE k hk, zeros_has] at hh; cases hh
  · rw [hE k hk, zeros_has] at hh; cases hh
  · rw [hR i hi, zeros_zero] at hz; cases hz
  · rw [hR i hi, zeros_zero] at hz; cases hz
/-- what Alloc makes of an image -/
structure AllocIs (l l' : Bytes) (k a n t : Nat) : Prop where
  k40 : k < 40
  none : hasE (rawE l k) = false
  least : ∀ i, i < k → hasE (rawE l i) = true
  a0 : 288 ≤ a
  a1 : a + n ≤ l.length
  n0 : 1 ≤ n
  n1 : n ≤ 1000
  t1 : t ≤ 15
  len : l'.length = l.length
  ents : ∀ j, j < 40 → rawE l' j = if j = k then entB a n t else rawE l j
  rots : ∀ i, i < 8 → rawR l' i = rawR l i
  apart : ∀ j, j < 40 → hasE (rawE l j) = true → a + n ≤ rAt (rawE l j) ∨ rAt (rawE l j) + rLen (rawE l j) ≤ a
  zero : (l'.drop a).take n = List.replicate n 0
  rest : ∀ b m, 288 ≤ b → b + m ≤ a ∨ a + n ≤ b → (l'.drop b).take m = (l.drop b).take m
theorem alloc_is {l : Bytes} (hg : Good l) {n t : Int} (h0 : allocE l n t = 0) : ∃ k a n' t' : Nat, n = n' ∧ t = t' ∧ allocH l n t = (k : Int) + 1 ∧ allocA l n = a ∧ AllocIs l (allocL l n t) k a n' t' := by
  have hb := hg.bd
  have hE := h0
  unfold allocE at hE
  by_cases hbad : lenB n = false ∨ tagB t = false
  · rw [if_pos hbad] at hE; cases hE
  · rw [if_neg hbad] at hE
    by_cases hz : fH l 40 = 0 ∨ fitE ((l.length : Int) - 288) (takenL l) n ≠ 0
    · rw [if_pos hz] at hE; cases hE
    · have hn := lenB_true.1 (show lenB n = true by cases hx : lenB n <;> simp_all)
      have ht := tagB_true.1 (show tagB t = true by cases hx : tagB t <;> simp_all)
      have hf : fitE ((l.length : Int) - 288) (takenL l) n = 0 := by omega
      obtain ⟨i1, i2⟩ := alloc_in hf
      rcases fH_spec l 40 (Nat.le_refl _) with ⟨h, _⟩ | ⟨k, k1, k2, k3, k4, k5⟩
      · omega
      obtain ⟨a, ha⟩ := Int.eq_ofNat_of_zero_le (show 0 ≤ allocA l n by omega)
      obtain ⟨n', rfl⟩ := Int.eq_ofNat_of_zero_le (show 0 ≤ n by omega)
      obtain ⟨t', rfl⟩ := Int.eq_ofNat_of_zero_le (show 0 ≤ t by omega)
      have hL : allocL l n' t' = splice (splice l (5 * k) (entB a n' t')) a (List.replicate n' 0) := by
        unfold allocL
        rw [if_pos h0, ha, k3]
        unfold putEnt
        rw [show ((k + 1 : Nat) : Int) = (k : Int) + 1 by omega, entO_k]
        rfl
      have hl1 : (splice l (5 * k) (entB a n' t')).length = l.length := splice_len _ _ _ (by rw [entB_len]; omega)
      have hl2 : (allocL l n' t').length = l.length := by rw [hL, splice_len _ _ _ (by rw [hl1]; simp; omega), hl1]
      refine ⟨k, a, n', t', rfl, rfl, by unfold allocH; rw [if_pos h0, k3]; omega, ha, ⟨k2, k4, fun i hi => k5 i (by omega) hi, by omega, by omega, by omega, by omega, by omega, hl2, fun j hj => ?_, fun i hi => ?_, fun j hj hh => ?_, ?_, fun b m hb0 hbm => ?_⟩⟩
      · rw [hL, rawE_tail _ _ _ _ (by omega) (by rw [hl1]; simp; omega) hj]
        exact rawE_splice l (entB a n' t') k j (entB_len _ _ _) k2 hj (by omega)
      · rw [hL, rawR_tail _ _ _ _ (by omega) (by rw [hl1]; simp; omega) hi]
        exact rawR_head l _ _ _ (by rw [entB_len]; omega) (by omega)
      · have hc := good_chk hg
        obtain ⟨L, m1, m2, m3, _, _⟩ := fit_some hc hf
        have h4 := (holes_mem hc _ m1).2.2.2 _ (takenL_mem.2 ⟨j, hj, hh, rfl⟩)
        unfold allocA at ha
        dsimp only at h4
        omega
      · rw [hL, cut_splice_in _ _ _ _ _ (by rw [hl1]; simp; omega) (by omega) (by simp), Nat.sub_self, List.drop_zero, List.take_of_length_le (by simp)]
      · rw [hL, cut_splice _ _ _ _ _ (by rw [hl1]; simp; omega) (by simpa using hbm), cut_splice _ _ _ _ _ (by rw [entB_len]; omega) (by rw [entB_len]; omega)]
theorem AllocIs.ent {l l' : Bytes} {k a n t : Nat} (h : AllocIs l l' k a n t) (hb : l.length ≤ 6400) : hasE (rawE l' k) = true ∧ rAt (rawE l' k) = a ∧ rLen (rawE l' k) = n ∧ rTag (rawE l' k) = t := by
  rw [h.ents k h.k40, if_pos rfl]
  exact entB_rd a n t (by have := h.a1; omega) (by have := h.n1; omega) h.t1
theorem AllocIs.good {l l' : Bytes} {k a n t : Nat} (h : AllocIs l l' k a n t) (hg : Good l) : Good l' := by
  have hb := hg.bd
  obtain ⟨e1, e2, e3, e4⟩ := entB_rd a n t (by have := h.a1; omega) (by have := h.n1; omega) h.t1
  refine good_iff.2 ⟨by rw [h.len]; exact hg.len, ?_⟩
  rw [h.len]
  have h1 : GoodS l.length (rawE l') (rawR l) := by
    refine hg.s.putE k h.k40 (entB a n t) h.ents e1 ?_ (fun j hj _ hh => ?_)
    · unfold strayE
      rw [e2, e3, e4, tagB_true.2 ⟨by omega, by have := h.t1; omega⟩, lenB_true.2 ⟨by have := h.n0; omega, by have := h.n1; omega⟩, withinB_true.2 ⟨by have := h.a0; omega, by have := h.a1; omega, by have := h.a1; omega⟩]
      rfl
    · have := h.apart j hj hh
      unfold overE
      rw [e2, e3]
      simp only [Bool.and_eq_false_iff, decide_eq_false_iff_not]
      omega
  exact h1.putR 0 (rawR l 0) (fun j hj => by rw [h.rots j hj]; split <;> simp_all) (by
    cases hz : zeroE (rawR l 0) with
    | true => exact .inl rfl
    | false => exact .inr ⟨h1.root 0 (by omega) hz, fun j hj hne hz' => (h1.name j hj 0 (by omega) hz' hz).symm⟩)
theorem alloc_good {l : Bytes} (hg : Good l) (n t : Int) : Good (allocL l n t) := by
  by_cases h0 : allocE l n t = 0
  · obtain ⟨k, a, n', t', _, _, _, _, h⟩ := alloc_is hg h0
    exact h.good hg
  · have : allocL l n t = l := by unfold allocL; rw [if_neg h0]
    rw [this]; exact hg
theorem rootsL_mem {l : Bytes} {x : Bytes × Nat} : x ∈ rootsL l ↔ ∃ i, i < 8 ∧ zeroE (rawR l i) = false ∧ x = rootP (rawR l i) := by
  unfold rootsL rootsF
  simp only [List.mem_map, List.mem_filter, List.mem_range, Bool.not_eq_true']
  constructor
  · rintro ⟨i, ⟨h1, h2⟩, rfl⟩; exact ⟨i, h1, h2, rfl⟩
  · rintro ⟨i, h1, h2, rfl⟩; exact ⟨i, ⟨h1, h2⟩, rfl⟩
/-- what Free makes of an image -/
structure FreeIs (l l' : Bytes) (k : Nat) : Prop where
  k40 : k < 40
  has : hasE (rawE l k) = true
  len : l'.length = l.length
  ents : ∀ j, j < 40 → rawE l' j = if j = k then List.replicate 5 0 else rawE l j
  rots : ∀ i, i < 8 → rawR l' i = rawR l i
  nol : ∀ i, i < 8 → zeroE (rawR l i) = false → ((rawR l i).getD 10 0).toNat ≠ k + 1
  rest : ∀ b m, 288 ≤ b → (l'.drop b).take m = (l.drop b).take m
theorem free_is {l : Bytes} (hg : Good l) {x : Int} (h0 : freeE l x = 0) : ∃ k : Nat, x = (k : Int) + 1 ∧ FreeIs l (freeL l x) k := by
  have hb := hg.bd
  have hQ := h0
  unfold freeE at hQ
  by_cases hx : hE l x = 0
  · rw [if_neg (by simp [hx])] at hQ
    obtain ⟨k, hk, rfl, hh, _⟩ := hE_zero hx
    have hno : (rootsL l).any (fun r => (r.2 : Int) == (k : Int) + 1) = false := by
      cases ha : (rootsL l).any (fun r => (r.2 : Int) == (k : Int) + 1) with
      | false => rfl
      | true => rw [ha] at hQ; simp at hQ
    have hL : freeL l ((k : Int) + 1) = splice l (5 * k) (List.replicate 5 0) := by
      unfold freeL
      rw [if_pos h0, show ((k : Int) + 1 - 1).toNat = k by omega]
    rw [List.any_eq_false] at hno
    refine ⟨k, rfl, ⟨hk, hh, by rw [hL]; exact splice_len _ _ _ (by simp; omega), fun j hj => ?_, fun i hi => ?_, fun i hi hz => ?_, fun b m hb0 => ?_⟩⟩
    · rw [hL]; exact rawE_splice l _ k j (by simp) hk hj (by omega)
    · rw [hL]; exact rawR_head l _ _ _ (by simp; omega) (by omega)
    · have h1 := hno _ (rootsL_mem.2 ⟨i, hi, hz, rfl⟩)
      simp only [rootP, beq_iff_eq] at h1
      omega
    · rw [hL]; exact cut_splice _ _ _ _ _ (by simp; omega) (by simp; omega)
  · rw [if_pos hx] at hQ; exact absurd hQ hx
theorem FreeIs.good {l l' : Bytes} {k : Nat} (h : FreeIs l l' k) (hg : Good l) : Good l' := by
  refine good_iff.2 ⟨by rw [h.len]; exact hg.len, ?_⟩
  rw [h.len]
  have h1 : GoodS l.length (rawE l') (rawR l) := hg.s.dropE k h.k40 h.ents h.nol
  exact h1.putR 0 (rawR l 0) (fun j hj => by rw [h.rots j hj]; split <;> simp_all) (by
    cases hz : zeroE (rawR l 0) with
    | true => exact .inl rfl
    | false => exact .inr ⟨h1.root 0 (by omega) hz, fun j hj hne hz' => (h1.name j hj 0 (by omega) hz' hz).symm⟩)
theorem free_good {l : Bytes} (hg : Good l) (x : Int) : Good (freeL l x) := by
  by_cases h0 : freeE l x = 0
  · obtain ⟨k, _, h⟩ := free_is hg h0
    exact h.good hg
  · have : freeL l x = l := by unfold freeL; rw [if_neg h0]
    rw [this]; exact hg
end Go.Proofs.YtgejkhokijjemaaDoor
/- Where a name's root lies, and the first that is free: root.place. -/
namespace Go.Proofs.YtgejkhokijjemaaDoor
open Go.RowKit

/-- after j rounds, from the last root down: where the name lies, which root is free (-1: nowhere) -/
def placeF (l s : Bytes) : Nat → Int × Int
  | 0 => (-1, -1)
  | j + 1 => if zeroE (rawR l (7 - j)) = true then ((placeF l s j).1, ((7 - j : Nat) : Int)) else if nmR (rawR l (7 - j)) = s then (((7 - j : Nat) : Int), (placeF l s j).2) else placeF l s j
theorem Good.got {l : Bytes} (h : Good l) {i : Nat} (hi : i < 8) (hz : zeroE (rawR l i) = false) : gotName ((rawR l i).take 8) = true := by
  have := h.s.root i hi hz
  unfold badR at this
  simp only [Bool.or_eq_false_iff] at this
  simpa using this.1.1.1
theorem placeF_spec (l s : Bytes) : ∀ j, j ≤ 8 →
    (((placeF l s j).1 = -1 ∧ ∀ i, 8 - j ≤ i → i < 8 → zeroE (rawR l i) = false → nmR (rawR l i) ≠ s) ∨ (∃ i : Nat, 8 - j ≤ i ∧ i < 8 ∧ (placeF l s j).1 = i ∧ zeroE (rawR l i) = false ∧ nmR (rawR l i) = s ∧ ∀ q, 8 - j ≤ q → q < i → zeroE (rawR l q) = false → nmR (rawR l q) ≠ s)) ∧
    (((placeF l s j).2 = -1 ∧ ∀ i, 8 - j ≤ i → i < 8 → zeroE (rawR l i) = false) ∨ (∃ i : Nat, 8 - j ≤ i ∧ i < 8 ∧ (placeF l s j).2 = i ∧ zeroE (rawR l i) = true ∧ ∀ q, 8 - j ≤ q → q < i → zeroE (rawR l q) = false))
  | 0, _ => ⟨.inl ⟨rfl, fun i h1 h2 => by omega⟩, .inl ⟨rfl, fun i h1 h2 => by omega⟩⟩
  | j + 1, hj => by
    obtain ⟨h1, h2⟩ := placeF_spec l s j (by omega)
    have hcut : ∀ i, 8 - (j + 1) ≤ i → i < 8 → i = 7 - j ∨ 8 - j ≤ i := fun i _ _ => by omega
    cases hz : zeroE (rawR l (7 - j)) with
    | true =>
      have e : placeF l s (j + 1) = ((placeF l s j).1, ((7 - j : Nat) : Int)) := by rw [placeF, if_pos hz]
      rw [e]
      refine ⟨?_, .inr ⟨7 - j, by omega, by omega, rfl, hz, fun q q1 q2 => by omega⟩⟩
      rcases h1 with ⟨a, b⟩ | ⟨i, a, b, c, d, f, g⟩
      · refine .inl ⟨a, fun i i1 i2 i3 => ?_⟩
        rcases hcut i i1 i2 with rfl | hi
        · rw [hz] at i3; cases i3
        · exact b i hi i2 i3
      · refine .inr ⟨i, by omega, b, c, d, f, fun q q1 q2 q3 => ?_⟩
        rcases hcut q q1 (by omega) with rfl | hq
        · rw [hz] at q3; cases q3
        · exact g q hq q2 q3
    | false =>
      have hfree : ∀ v : Int × Int, v.2 = (placeF l s j).2 → ((v.2 = -1 ∧ ∀ i, 8 - (j + 1) ≤ i → i < 8 → zeroE (rawR l i) = false) ∨ (∃ i : Nat, 8 - (j + 1) ≤ i ∧ i < 8 ∧ v.2 = i ∧ zeroE (rawR l i) = true ∧ ∀ q, 8 - (j + 1) ≤ q → q < i → zeroE (rawR l q) = false)) := fun v hv => by
        rw [hv]
        rcases h2 with ⟨a, b⟩ | ⟨i, a, b, c, d, f⟩
        · refine .inl ⟨a, fun i i1 i2 => ?_⟩
          rcases hcut i i1 i2 with rfl | hi
          · exact hz
          · exact b i hi i2
        · refine .inr ⟨i, by omega, b, c, d, fun q q1 q2 => ?_⟩
          rcases hcut q q1 (by omega) with rfl | hq
          · exact hz
          · exact f q hq q2
      by_cases hn : nmR (rawR l (7 - j)) = s
      · have e : placeF l s (j + 1) = (((7 - j : Nat) : Int), (placeF l s j).2) := by rw [placeF, if_neg (by rw [hz]; decide), if_pos hn]
        rw [e]
        exact ⟨.inr ⟨7 - j, by omega, by omega, rfl, hz, hn, fun q q1 q2 => by omega⟩, hfree _ rfl⟩
      · have e : placeF l s (j + 1) = placeF l s j := by rw [placeF, if_neg (by rw [hz]; decide), if_neg hn]
        rw [e]
        refine ⟨?_, hfree _ rfl⟩
        rcases h1 with ⟨a, b⟩ | ⟨i, a, b, c, d, f, g⟩
        · refine .inl ⟨a, fun i i1 i2 i3 => ?_⟩
          rcases hcut i i1 i2 with rfl | hi
          · exact hn
          · exact b i hi i2 i3
        · refine .inr ⟨i, by omega, b, c, d, f, fun q q1 q2 q3 => ?_⟩
          rcases hcut q q1 (by omega) with rfl | hq
          · exact hn
          · exact g q hq q2 q3
section
variable {w0 w : World} {F : Nat → Prop} {h : Nat} {l : Bytes}
set_option maxRecDepth 100000 in
set_option maxHeartbeats 2000000 in
theorem place_any (s : Bytes) (hp : Hp w0 w F h l) (hg : Good l) :
    Calls Tryd.prog 75 #[.pointer (some ⟨h, 0, none⟩), sv s] w fun e w' => e = .returned (.tuple #[.int .i64 (placeF l s 8).1, .int .i64 (placeF l s 8).2]) ∧ Below w.heap.size w w' := by
  have hb := rightB_true.1 hp.len
  have HC := Hidden.mk (hbytes_ok _ _ F h l hp)
  have HLEN : Hidden (∀ k : Nat, k < 8 → (rawR l k).length = 11) := ⟨fun k hk => rawR_len l k hk (by omega)⟩
  have HGOT : Hidden (∀ k : Nat, k < 8 → zeroE (rawR l k) = false → gotName ((rawR l k).take 8) = true) := ⟨fun k hk hz => hg.got hk hz⟩
  have HCUT : Hidden (∀ (W : World) g cap, Row W 5 g cap l → ∀ k, k < 8 → Rd W (some ⟨g, 0 + (200 + 11 * k), none⟩) (rawR l k)) := ⟨fun W g cap hr k hk => by
    have hx := rawR_rd hr.rd k hk (by omega)
    rw [Option.map_some, Addr.add_lit] at hx
    exact hx⟩
  have HNX : Hidden (∀ j, placeF l s (j + 1) = if zeroE (rawR l (7 - j)) = true then ((placeF l s j).1, ((7 - j : Nat) : Int)) else if nmR (rawR l (7 - j)) = s then (((7 - j : Nat) : Int), (placeF l s j).2) else placeF l s j) := ⟨fun j => by rw [placeF]⟩
  have HZ : Hidden (placeF l s 0 = (-1, -1)) := ⟨rfl⟩
  generalize placeF l s = P at *
  clear hp hg
  go_enter Tryd.func75, Tryd.ntmps75
  go_wp2_with fail
  refine HC.out.mono ?_
  rintro e w1 ⟨g, cap, rfl, hg1, hrow, hb1⟩
  have HROW := Hidden.mk hrow
  have HB1 := Hidden.mk hb1
  have hcap := hrow.le.1
  clear hg1 hrow hb1 HC
  go_wp2_with fail
  go_loopg [4, 5, 7] 8 (fun q a f i wr => ∃ j : Nat, j ≤ 8 ∧ q = 8 - j ∧ i = .int .i64 (7 - (j : Int)) ∧ a = .int .i64 (P j).1 ∧ f = .int .i64 (P j).2 ∧ Hidden (Below w1.heap.size w1 wr))
  case atStart => exact ⟨0, by omega, rfl, rfl, by rw [HZ.out], by rw [HZ.out], ⟨Below.refl _ _⟩⟩
  case round =>
    obtain ⟨j, hj, rfl, rfl, rfl, rfl, hst⟩ := hrel
    by_cases hlt : j < 8
    · obtain ⟨i, hi⟩ : ∃ i : Nat, i = 7 - j := ⟨_, rfl⟩
      have hii : (7 - (j : Int)) = (i : Int) := by omega
      have HNJ := Hidden.mk (HNX.out j)
      have s1 : IntKind.i64.wrap ((i : Int) - 1) = (i : Int) - 1 := IntWalk.i64_in _ (by omega)
      have t0 : decide (0 ≤ (i : Int)) = true := by simp
      have hi8 : i < 8 := by omega
      rw [hii]
      rw [← hi] at HNJ
      have hrw := HCUT.out wr g cap (HROW.out.block (hst.out.block _ HROW.out.lt)) i hi8
      have HLK := Hidden.mk (HLEN.out i hi8)
      have HGK := Hidden.mk (HGOT.out i hi8)
      generalize rawR l i = r at *
      have HI := Hidden.mk hi
      clear hi hii
      go_wp2_with fail
      refine (rawRoot_any (some ⟨g, 0, none⟩) l.length cap (i : Int) _ (by omega) (by omega) (by omega) hcap).mono ?_
      rintro e w2 ⟨rfl, rfl⟩
      rw [rootO_k, Option.map_some, Addr.add_lit]
      generalize hcc : cap - (200 + 11 * i) = cc at *
      have hc8 : 8 ≤ cc := by omega
      generalize 0 + (200 + 11 * i) = oo at *
      clear hcc
      go_wp2_with fail
      refine (izero_any _ 11 _ r _ HLK.out (by simp [maxLen]) hrw).mono ?_
      rintro e w3 ⟨rfl, rfl⟩
      cases hz : zeroE r with
      | true =>
        have HPJ := Hidden.mk (show P (j + 1) = ((P j).1, (i : Int)) by rw [HNJ.out, if_pos hz])
        clear HNJ hz HGK hrw
        go_wp2_with fail
        go_roundg (8 - (j + 1))
        case measure => omega
        case rel => exact ⟨j + 1, by omega, rfl, by rw [show (7 - ((j + 1 : Nat) : Int)) = (i : Int) - 1 by have := HI.out; omega], by rw [HPJ.out], by rw [HPJ.out], hst⟩
      | false =>
        have HPJ := Hidden.mk (show P (j + 1) = if nmR r = s then ((i : Int), (P j).2) else P j by rw [HNJ.out, if_neg (by rw [hz]; decide)])
        have hgn := HGK.out hz
        have HGN := Hidden.mk (getName_any (some ⟨g, oo, none⟩) cc (r.take 8) wr (by simp [HLK.out]) hc8 (hrw.take 8 (by rw [HLK.out]; omega)))
        rw [if_pos hgn] at HGN
        rw [show nameAt (r.take 8) = nmR r from rfl] at HGN
        clear HNJ hz HGK hgn hrw HLK
        generalize nmR r = nm at *
        go_wp2_with fail
        refine HGN.out.mono ?_
        rintro e w4 ⟨rfl, hb4⟩
        have HB4 := Hidden.mk (hst.out.trans (hb4.mono hst.out.size))
        clear hb4 hst HGN
        by_cases hn : nm = s
        · have d1 : (nm == s) = true := by simpa using hn
          have HPJ := Hidden.mk (show P (j + 1) = ((i : Int), (P j).2) by rw [HPJ.out, if_pos hn])
          clear hn
          go_wp2_with fail
          go_roundg (8 - (j + 1))
          case measure => omega
          case rel => exact ⟨j + 1, by omega, rfl, by rw [show (7 - ((j + 1 : Nat) : Int)) = (i : Int) - 1 by have := HI.out; omega], by rw [HPJ.out], by rw [HPJ.out], HB4⟩
        · have d1 : (nm == s) = false := by simpa using hn
          have HPJ := Hidden.mk (show P (j + 1) = P j by rw [HPJ.out, if_neg hn])
          clear hn
          go_wp2_with fail
          go_roundg (8 - (j + 1))
          case measure => omega
          case rel => exact ⟨j + 1, by omega, rfl, by rw [show (7 - ((j + 1 : Nat) : Int)) = (i : Int) - 1 by have := HI.out; omega], by rw [HPJ.out], by rw [HPJ.out], HB4⟩
    · obtain rfl : j = 8 := by omega
      have t0 : decide ((0 : Int) ≤ 7 - ((8 : Nat) : Int)) = false := by decide
      have HE := Hidden.mk (HB1.out.trans (hst.out.mono HB1.out.size))
      clear hst
      go_wp2_with fail
      go_ret2
      exact ⟨rfl, HE.out⟩
end
end Go.Proofs.YtgejkhokijjemaaDoor
/- root.Set, of a right name and an object that is there. -/
namespace Go.Proofs.YtgejkhokijjemaaDoor
open Go.RowKit

/-- where a name's root is set: its own place, else the first that is free -/
def setAt (l s : Bytes) : Int := if (placeF l s 8).1 < 0 then (placeF l s 8).2 else (placeF l s 8).1
section
variable {w0 w : World} {F : Nat → Prop} {h : Nat} {l : Bytes}
set_option maxRecDepth 100000 in
theorem rset_full (s : Bytes) (x : Int) (hp : Hp w0 w F h l) (hg : Good l) (hn : isName s = true) (hx : hE l x = 0) (ha : setAt l s < 0) :
    Calls Tryd.prog 14 #[.pointer (some ⟨h, 0, none⟩), sv s, .int .i64 x] w fun e w' => e = .returned (.tuple #[.bool false, .iface 121 (.int .i64 4)]) ∧ Below w.heap.size w w' := by
  have HP := Hidden.mk hp
  have HG := Hidden.mk hg
  have HX := Hidden.mk hx
  have HC := Hidden.mk (putName_ok s w hn)
  have h1 : (placeF l s 8).1 < 0 := by
    unfold setAt at ha
    by_cases h : (placeF l s 8).1 < 0
    · exact h
    · rw [if_neg h] at ha; exact absurd ha h
  have h2 : (placeF l s 8).2 < 0 := by
    unfold setAt at ha
    rw [if_pos h1] at ha; exact ha
  have HPL : Hidden (∀ W, Below w.heap.size w W → Calls Tryd.prog 75 #[.pointer (some ⟨h, 0, none⟩), sv s] W fun e w' => e = .returned (.tuple #[.int .i64 (placeF l s 8).1, .int .i64 (placeF l s 8).2]) ∧ Below W.heap.size W w') := ⟨fun W hW => place_any s (hp.below hW) hg⟩
  generalize (placeF l s 8).1 = p1 at *
  generalize (placeF l s 8).2 = p2 at *
  have d1 : decide (p1 < 0) = true := by simpa using h1
  have d2 : decide (p2 < 0) = true := by simpa using h2
  clear hp hg hn hx ha h1 h2
  go_enter Tryd.func14, Tryd.ntmps14
  go_wp2_with fail
  refine HC.out.mono ?_
  rintro e w1 ⟨gn, rfl, -, -, hb1⟩
  have HB1 := Hidden.mk hb1
  have HT := Hidden.mk (htag_any x (HP.out.below hb1))
  rw [HX.out, show errV 0 = Value.nilIface from rfl] at HT
  clear hb1 HC
  go_wp2_with fail
  refine HT.out.mono ?_
  rintro e w2 ⟨rfl, hb2⟩
  have HB2 := Hidden.mk (HB1.out.trans (hb2.mono HB1.out.size))
  clear hb2 HT HB1
  go_wp2_with fail
  refine (HPL.out w2 HB2.out).mono ?_
  rintro e w3 ⟨rfl, hb3⟩
  have HB3 := Hidden.mk (HB2.out.trans (hb3.mono HB2.out.size))
  clear hb3 HPL HB2
  go_wp2_with fail
  go_ret2
  exact ⟨rfl, HB3.out⟩
set_option maxRecDepth 100000 in
theorem rset_ok (s : Bytes) (x : Int) (i : Nat) (hp : Hp w0 w F h l) (hg : Good l) (hn : isName s = true) (hx : hE l x = 0) (hi : i < 8) (ha : setAt l s = i) :
    Calls Tryd.prog 14 #[.pointer (some ⟨h, 0, none⟩), sv s, .int .i64 x] w fun e w' => e = .returned (.tuple #[.bool (decide ((placeF l s 8).1 < 0)), .nilIface]) ∧ ∃ F', HpM w0 w w' F F' h (splice l (200 + 11 * i) (putRo s x)) := by
  have HP := Hidden.mk hp
  have HX := Hidden.mk hx
  have HC := Hidden.mk (putName_ok s w hn)
  have hhb : handleB x = true := by
    unfold hE at hx
    cases hb : handleB x with
    | true => rfl
    | false => rw [hb] at hx; simp at hx
  have HPR : Hidden (∀ W, Below w.heap.size w W → Calls Tryd.prog 76 #[.pointer (some ⟨h, 0, none⟩), .int .i64 (i : Int), .agg #[sv s, .int .i64 x]] W fun e w' => e = .returned .nilIface ∧ ∃ F', HpM w0 W w' F F' h (splice l (200 + 11 * i) (putRo s x))) := ⟨fun W hW => hroot_ok i s x (hp.below hW) hi (.inr ⟨hhb, hn⟩)⟩
  have HPL : Hidden (∀ W, Below w.heap.size w W → Calls Tryd.prog 75 #[.pointer (some ⟨h, 0, none⟩), sv s] W fun e w' => e = .returned (.tuple #[.int .i64 (placeF l s 8).1, .int .i64 (placeF l s 8).2]) ∧ Below W.heap.size W w') := ⟨fun W hW => place_any s (hp.below hW) hg⟩
  unfold setAt at ha
  generalize splice l (200 + 11 * i) (putRo s x) = l' at *
  generalize (placeF l s 8).1 = p1 at *
  generalize (placeF l s 8).2 = p2 at *
  have d3 : decide ((i : Int) < 0) = false := by simp
  clear hp hg hn hhb
  by_cases h1 : p1 < 0
  · have d1 : decide (p1 < 0) = true := by simpa using h1
    rw [if_pos h1] at ha
    subst ha
    clear hx hi h1
    go_enter Tryd.func14, Tryd.ntmps14
    go_wp2_with fail
    refine HC.out.mono ?_
    rintro e w1 ⟨gn, rfl, -, -, hb1⟩
    have HB1 := Hidden.mk hb1
    have HT := Hidden.mk (htag_any x (HP.out.below hb1))
    rw [HX.out, show errV 0 = Value.nilIface from rfl] at HT
    clear hb1 HC
    go_wp2_with fail
    refine HT.out.mono ?_
    rintro e w2 ⟨rfl, hb2⟩
    have HB2 := Hidden.mk (HB1.out.trans (hb2.mono HB1.out.size))
    clear hb2 HT HB1
    go_wp2_with fail
    refine (HPL.out w2 HB2.out).mono ?_
    rintro e w3 ⟨rfl, hb3⟩
    have HB3 := Hidden.mk (HB2.out.trans (hb3.mono HB2.out.size))
    clear hb3 HPL HB2
    go_wp2_with fail
    refine (HPR.out w3 HB3.out).mono ?_
    rintro e w4 ⟨rfl, F', hm⟩
    have HF := Hidden.mk ((HP.out.same HB3.out).trans hm)
    clear hm HPR HB3
    go_wp2_with fail
    go_ret2
    exact ⟨by rw [d1]; rfl, F', HF.out⟩
  · have d1 : decide (p1 < 0) = false := by simpa using h1
    rw [if_neg h1] at ha
    subst ha
    clear hx hi h1
    go_enter Tryd.func14, Tryd.ntmps14
    go_wp2_with fail
    refine HC.out.mono ?_
    rintro e w1 ⟨gn, rfl, -, -, hb1⟩
    have HB1 := Hidden.mk hb1
    have HT := Hidden.mk (htag_any x (HP.out.below hb1))
    rw [HX.out, show errV 0 = Value.nilIface from rfl] at HT
    clear hb1 HC
    go_wp2_with fail
    refine HT.out.mono ?_
    rintro e w2 ⟨rfl, hb2⟩
    have HB2 := Hidden.mk (HB1.out.trans (hb2.mono HB1.out.size))
    clear hb2 HT HB1
    go_wp2_with fail
    refine (HPL.out w2 HB2.out).mono ?_
    rintro e w3 ⟨rfl, hb3⟩
    have HB3 := Hidden.mk (HB2.out.trans (hb3.mono HB2.out.size))
    clear hb3 HPL HB2
    go_wp2_with fail
    refine (HPR.out w3 HB3.out).mono ?_
    rintro e w4 ⟨rfl, F', hm⟩
    have HF := Hidden.mk ((HP.out.same HB3.out).trans hm)
    clear hm HPR HB3
    go_wp2_with fail
    go_ret2
    exact ⟨by rw [d3]; rfl, F', HF.out⟩
end
end Go.Proofs.YtgejkhokijjemaaDoor
/- RootFull: the plain law. -/
namespace Go.Proofs.YtgejkhokijjemaaDoor
open Go.RowKit

/-- the name number q -/
def nmQ (q : Nat) : Bytes := [UInt8.ofNat (97 + q)]
theorem nmQ_facts : ∀ q : Fin 8, isName (nmQ q) = true ∧ (∀ x : Fin 3, zeroE (rootB (nmQ q) x) = false ∧ nmR (rootB (nmQ q) x) = nmQ q ∧ gotName ((rootB (nmQ q) x).take 8) = true ∧ (rootB (nmQ q) x).getD 8 0 = 0 ∧ (rootB (nmQ q) x).getD 9 0 = 0 ∧ ((rootB (nmQ q) x).getD 10 0).toNat = x.val ∧ (rootB (nmQ q) x).length = 11) := by decide
theorem nmQ_inj : ∀ q p : Fin 8, nmQ q = nmQ p → q = p := by decide
theorem nmQ_zz : ∀ q : Fin 8, nmQ q ≠ [122, 122] := by decide
theorem nmQ_ne {q p : Nat} (hq : q < 8) (hp : p < 8) (h : q ≠ p) : nmQ q ≠ nmQ p := fun e => h (by
  have := nmQ_inj ⟨q, hq⟩ ⟨p, hp⟩ e
  exact congrArg Fin.val this)
theorem putRo_nm (q : Nat) (x : Int) : putRo (nmQ q) x = rootB (nmQ q) x := by
  unfold putRo
  rw [if_neg (fun h => by have := h.1; simp [nmQ] at this)]
/-- an image with two objects; the first k roots have the first k names, and lead to f -/
structure NamIs (k : Nat) (f : Nat → Fin 3) (l : Bytes) : Prop where
  good : Good l
  h1 : hE l 1 = 0
  h2 : hE l 2 = 0
  t2 : gT l 2 = 0
  k8 : k ≤ 8
  f0 : ∀ q, q < k → (f q).val ≠ 0
  has : ∀ q, q < k → rawR l q = rootB (nmQ q) (f q)
  free : ∀ q, k ≤ q → q < 8 → rawR l q = List.replicate 11 0
section
variable {k : Nat} {f : Nat → Fin 3} {l : Bytes}
theorem NamIs.nz (h : NamIs k f l) {q : Nat} (hq : q < k) : zeroE (rawR l q) = false ∧ nmR (rawR l q) = nmQ q := by
  have h8 := h.k8
  have := (nmQ_facts ⟨q, by omega⟩).2 (f q)
  rw [h.has q hq]
  exact ⟨this.1, this.2.1⟩
theorem NamIs.z (h : NamIs k f l) {q : Nat} (hq : k ≤ q) (h8 : q < 8) : zeroE (rawR l q) = true := by
  rw [h.free q hq h8]; decide
theorem NamIs.placeNew (h : NamIs k f l) (s : Bytes) (hs : ∀ q, q < k → nmQ q ≠ s) : (placeF l s 8).1 = -1 ∧ (placeF l s 8).2 = if k < 8 then (k : Int) else -1 := by
  obtain ⟨p1, p2⟩ := placeF_spec l s 8 (Nat.le_refl _)
  constructor
  · rcases p1 with ⟨a, _⟩ | ⟨i, _, b, c, d, e, _⟩
    · exact a
    · by_cases hi : i < k
      · rw [(h.nz hi).2] at e; exact absurd e (hs i hi)
      · rw [h.z (by omega) b] at d; cases d
  · rcases p2 with ⟨a, b⟩ | ⟨i, _, b, c, d, e⟩
    · by_cases hk : k < 8
      · have := b k (by omega) hk
        rw [h.z (Nat.le_refl _) hk] at this; cases this
      · rw [if_neg hk]; exact a
    · by_cases hi : i < k
      · rw [(h.nz hi).1] at d; cases d
      · rw [if_pos (by omega), c]
        by_cases hik : i = k
        · rw [hik]
        · have := e k (by omega) (by omega)
          rw [h.z (Nat.le_refl _) (by omega)] at this; cases this
theorem NamIs.placeOwn (h : NamIs k f l) (q : Nat) (hq : q < k) : (placeF l (nmQ q) 8).1 = q := by
  have h8 := h.k8
  obtain ⟨p1, _⟩ := placeF_spec l (nmQ q) 8 (Nat.le_refl _)
  rcases p1 with ⟨_, a⟩ | ⟨i, _, b, c, d, e, _⟩
  · exact absurd (h.nz hq).2 (a q (by omega) (by omega) (h.nz hq).1)
  · by_cases hi : i < k
    · rw [(h.nz hi).2] at e
      by_cases hiq : i = q
      · rw [c, hiq]
      · exact absurd e (nmQ_ne b (by omega) hiq)
    · rw [h.z (by omega) b] at d; cases d
/-- a name set, at its own place or at the first that is free -/
theorem NamIs.put (h : NamIs k f l) (i : Nat) (hi : i ≤ k) (hi8 : i < 8) (x : Fin 3) (hx : x.val ≠ 0) : NamIs (if i = k then k + 1 else k) (fun q => if q = i then x else f q) (splice l (200 + 11 * i) (rootB (nmQ i) x)) := by
  have hb := h.good.bd
  obtain ⟨g1, g2, g3, g4, g5, g6, g7⟩ := (nmQ_facts ⟨i, hi8⟩).2 x
  dsimp only at g1 g2 g3 g4 g5 g6 g7
  have hlen : (splice l (200 + 11 * i) (rootB (nmQ i) x)).length = l.length := splice_len _ _ _ (by rw [g7]; omega)
  have hE' : ∀ j, j < 40 → rawE (splice l (200 + 11 * i) (rootB (nmQ i) x)) j = rawE l j := fun j hj => rawE_root l _ i j g7 hi8 hj (by omega)
  have hR' : ∀ j, j < 8 → rawR (splice l (200 + 11 * i) (rootB (nmQ i) x)) j = if j = i then rootB (nmQ i) x else rawR l j := fun j hj => rawR_splice l _ i j g7 hi8 hj (by omega)
  have hx3 := x.isLt
  have hhas : ∀ y : Nat, (y = 1 ∨ y = 2) → hasE (rawE l (y - 1)) = true := fun y hy => by
    rcases hy with rfl | rfl
    · obtain ⟨q, _, e, hh, _⟩ := hE_zero h.h1
      obtain rfl : q = 0 := by omega
      exact hh
    · obtain ⟨q, _, e, hh, _⟩ := hE_zero h.h2
      obtain rfl : q = 1 := by omega
      exact hh
  have hhE : ∀ y : Int, hE l y = 0 → hE (splice l (200 + 11 * i) (rootB (nmQ i) x)) y = 0 ∧ gT (splice l (200 + 11 * i) (rootB (nmQ i) x)) y = gT l y := fun y hy => by
    obtain ⟨q, hq, rfl, hh, _⟩ := hE_zero hy
    have a := hE_has (l := splice l (200 + 11 * i) (rootB (nmQ i) x)) hq (by rw [hE' q hq]; exact hh)
    have b := hE_has hq hh
    refine ⟨a.1, ?_⟩
    unfold gT
    rw [if_pos a.1, if_pos b.1, a.2, b.2, hE' q hq]
  refine ⟨?_, (hhE 1 h.h1).1, (hhE 2 h.h2).1, by rw [(hhE 2 h.h2).2]; exact h.t2, by have := h.k8; split <;> omega, fun q hq => ?_, fun q hq => ?_, fun q hq h8 => ?_⟩
  · refine good_iff.2 ⟨by rw [hlen]; exact h.good.1, ?_⟩
    rw [hlen]
    have hs := h.good.s
    have h0 : GoodS l.length (rawE (splice l (200 + 11 * i) (rootB (nmQ i) x))) (rawR l) := by
      refine hs.putE 0 (by omega) (rawE l 0) (fun j hj => by rw [hE' j hj]; split <;> simp_all) (hhas 1 (.inl rfl)) (hs.fit 0 (by omega) (hhas 1 (.inl rfl))) (fun j hj hne hh => ?_)
      rw [overE_symm]
      exact hs.apart j hj 0 (by omega) hh (hhas 1 (.inl rfl))
    refine h0.putR i (rootB (nmQ i) x) hR' (.inr ⟨?_, fun j hj hne hz => ?_⟩)
    · unfold badR
      rw [g3, g4, g5]
      have hl : leadsS (rawE (splice l (200 + 11 * i) (rootB (nmQ i) x))) ((rootB (nmQ i) x).getD 10 0) = true := by
        refine leadsS_iff.2 ⟨x.val - 1, by omega, ?_, by rw [g6]; omega⟩
        rw [hE' _ (by omega)]
        exact hhas x.val (by omega)
      rw [hl]; rfl
    · rw [g2]
      by_cases hjk : j < k
      · rw [(h.nz hjk).2]; exact nmQ_ne hi8 hj (fun e => hne e.symm)
      · rw [h.z (by omega) hj] at hz; cases hz
  · by_cases e : q = i
    · simp only [if_pos e]; exact hx
    · simp only [if_neg e]
      refine h.f0 q ?_
      split at hq <;> omega
  · have hq8 : q < 8 := by have := h.k8; split at hq <;> omega
    rw [hR' q hq8]
    by_cases e : q = i
    · simp [e]
    · simp only [if_neg e]
      refine h.has q ?_
      split at hq <;> omega
  · rw [hR' q h8, if_neg (by split at hq <;> omega)]
    refine h.free q ?_ h8
    split at hq <;> omega
theorem NamIs.roots (h : NamIs 8 f l) : rootsL l = (List.range 8).map fun q => (nmQ q, (f q).val) := by
  unfold rootsL rootsF
  rw [List.filter_eq_self.2 (fun q hq => by rw [(h.nz (List.mem_range.1 hq)).1]; rfl)]
  refine List.map_congr_left fun q hq => ?_
  have hq8 := List.mem_range.1 hq
  obtain ⟨g1, g2, g3, g4, g5, g6, g7⟩ := (nmQ_facts ⟨q, hq8⟩).2 (f q)
  dsimp only at g1 g2 g3 g4 g5 g6 g7
  unfold rootP
  rw [h.has q hq8, g3, if_pos rfl, g2, g6]
end
end Go.Proofs.YtgejkhokijjemaaDoor
/- RootFull: the heap in which its law begins. -/
namespace Go.Proofs.YtgejkhokijjemaaDoor
open Go.RowKit

theorem fH_first {l : Bytes} (k : Nat) (hk : k < 40) (h0 : ∀ j, j < k → hasE (rawE l j) = true) (h1 : hasE (rawE l k) = false) : fH l 40 = k + 1 := by
  rcases fH_spec l 40 (Nat.le_refl _) with ⟨_, hall⟩ | ⟨q, _, k2, k3, k4, k5⟩
  · have := hall k (by omega) hk
    rw [h1] at this; cases this
  · rw [k3]
    rcases Nat.lt_trichotomy q k with hq | rfl | hq
    · rw [h0 q hq] at k4; cases k4
    · rfl
    · have := k5 k (by omega) hq
      rw [h1] at this; cases this
theorem full_start : ∃ l1 l2 : Bytes, allocL (List.replicate 400 0) 1 0 = l1 ∧ allocE (List.replicate 400 0) 1 0 = 0 ∧ allocH (List.replicate 400 0) 1 0 = 1 ∧ allocL l1 1 0 = l2 ∧ allocE l1 1 0 = 0 ∧ allocH l1 1 0 = 2 ∧ NamIs 0 (fun _ => 1) l2 := by
  have hg : Good (List.replicate 400 0) := good_zero' rfl
  have hz : ∀ j, j < 40 → rawE (List.replicate 400 0) j = List.replicate 5 0 := fun j hj => zeros_cut 400 (5 * j) 5 (by omega)
  have hr : ∀ i, i < 8 → rawR (List.replicate 400 0) i = List.replicate 11 0 := fun i hi => zeros_cut 400 (200 + 11 * i) 11 (by omega)
  have hlen : (List.replicate 400 (0 : UInt8)).length = 400 := List.length_replicate
  generalize List.replicate 400 (0 : UInt8) = l at *
  have hn : ∀ j, j < 40 → hasE (rawE l j) = false := fun j hj => by rw [hz j hj]; exact zeros_has
  have hc := good_chk hg
  rw [hlen] at hc
  have f1 := fH_first (l := l) 0 (by omega) (fun j hj => by omega) (hn 0 (by omega))
  have hE : allocE l 1 0 = 0 := by
    have hf : fitE ((400 : Nat) - 288 : Int) (takenL l) 1 = 0 := fit_exists hc (p := 0) (by omega) (by omega) (by omega) (fun e he => by
      obtain ⟨j, hj, hh, _⟩ := takenL_mem.1 he
      rw [hn j hj] at hh; cases hh)
    unfold allocE
    rw [if_neg (by decide), hlen, if_neg (by rw [f1, hf]; decide)]
  have hH : allocH l 1 0 = 1 := by unfold allocH; rw [if_pos hE, f1]; rfl
  obtain ⟨k, a, n', t', e1, e2, hH', _, hi⟩ := alloc_is hg hE
  obtain rfl : n' = 1 := by omega
  obtain rfl : t' = 0 := by omega
  obtain rfl : k = 0 := by omega
  have hg1 := hi.good hg
  have he1 := hi.ent hg.bd.2
  have hlen1 : (allocL l 1 0).length = 400 := by rw [hi.len, hlen]
  have hents := hi.ents
  have hrots := hi.rots
  generalize allocL l 1 0 = l1 at *
  have hn1 : ∀ j, j < 40 → j ≠ 0 → hasE (rawE l1 j) = false := fun j hj hne => by rw [hents j hj, if_neg hne]; exact hn j hj
  have hc1 := good_chk hg1
  rw [hlen1] at hc1
  have f2 := fH_first (l := l1) 1 (by omega) (fun j hj => by rw [show j = 0 by omega]; exact he1.1) (hn1 1 (by omega) (by omega))
  have hE2 : allocE l1 1 0 = 0 := by
    have hf : fitE ((400 : Nat) - 288 : Int) (takenL l1) 1 = 0 := fit_exists hc1 (p := if a = 288 then 1 else 0) (by split <;> omega) (by omega) (by split <;> omega) (fun e he => by
      obtain ⟨j, hj, hh, rfl⟩ := takenL_mem.1 he
      by_cases h0 : j = 0
      · rw [h0, he1.2.1, he1.2.2.1]
        have := hi.a0
        dsimp only
        split <;> omega
      · rw [hn1 j hj h0] at hh; cases hh)
    unfold allocE
    rw [if_neg (by decide), hlen1, if_neg (by rw [f2, hf]; decide)]
  have hH2 : allocH l1 1 0 = 2 := by unfold allocH; rw [if_pos hE2, f2]; rfl
  obtain ⟨k2, a2, n2, t2, e1, e2, hHk, _, hi2⟩ := alloc_is hg1 hE2
  obtain rfl : n2 = 1 := by omega
  obtain rfl : t2 = 0 := by omega
  obtain rfl : k2 = 1 := by omega
  have d1 := hi2.ent hg1.bd.2
  have d0 : hasE (rawE (allocL l1 1 0) 0) = true := by rw [hi2.ents 0 (by omega), if_neg (by omega)]; exact he1.1
  refine ⟨l1, _, rfl, hE, hH, rfl, hE2, hH2, hi2.good hg1, (hE_has (k := 0) (by omega) d0).1, (hE_has (k := 1) (by omega) d1.1).1, ?_, by omega, fun q hq => by omega, fun q hq => by omega, fun q _ h8 => by rw [hi2.rots q h8, hrots q h8]; exact hr q h8⟩
  have := hE_has (k := 1) (by omega) d1.1
  rw [show ((1 : Nat) : Int) + 1 = 2 from rfl] at this
  unfold gT
  rw [if_pos this.1, this.2, d1.2.2.2]
  rfl
end Go.Proofs.YtgejkhokijjemaaDoor
/- The contracts of errors.As at a target that points to an api.Errno, of plain.Told and of vaultsame.Error. After the guide's worked example on errors.As at a concrete target. -/
namespace Go.Proofs.YtgejkhokijjemaaDoor
open Go.RowKit Go.Extern.Stop Go.Stop Go.Extern

/-- errors.As(nil, target) -/
theorem as_nil (t : Value) (w : World) :
    Calls Tryd.prog 119 #[.nilIface, t] w fun e w' => e = .returned (.bool false) ∧ w' = w := by
  go_enter Tryd.func119, Tryd.ntmps119
  go_wp2
  go_ret
  exact ⟨rfl, rfl⟩

theorem rl_valueOfP (t : Addr) (w : World) : (ReflectliteValue.unpack (.iface 190 (.pointer (some t)))).run Tryd.prog w
    = .ok (.agg #[.pointer (some ⟨1, 190, none⟩), .pointer (some ⟨w.heap.size, 0, none⟩), .int .u64 150]) (w.alloc (.cells #[.pointer (some t)] 190)) := by kernel_rfl
theorem rl_typeP (a : Addr) (w : World) : (ReflectliteValue.methodAny (ReflectliteValue.valueError "reflectlite.Value.Type" 0) (fun t _ _ _ => ReflectliteType.toType t) #[.agg #[.pointer (some ⟨1, 190, none⟩), .pointer (some a), .int .u64 150]]).run Tryd.prog w
    = .ok (.iface 227 (.agg #[.pointer (some ⟨1, 190, none⟩)])) w := by kernel_rfl
theorem rl_kindP (w : World) : ((ReflectliteType.abiMethod fun t => (fun a : Nat => Value.int IntKind.u8 (a : Int)) <$> Rtype.kind t) #[.pointer (some ⟨1, 190, none⟩)]).run Tryd.prog w = .ok (.int .u8 22) w := by kernel_rfl
theorem rl_kindE (w : World) : ((ReflectliteType.abiMethod fun t => (fun a : Nat => Value.int IntKind.u8 (a : Int)) <$> Rtype.kind t) #[.pointer (some ⟨1, 121, none⟩)]).run Tryd.prog w = .ok (.int .u8 2) w := by kernel_rfl
theorem rl_m (z : Sem Value) (f : TypeId → Addr → Nat → Nat → Sem Value) (v : Value) :
    ReflectliteValue.method z f #[v] = (do match ← ReflectliteValue.parts v with | none => z | some (t, a, fl) => f t a fl (fl % 32)) := rfl
theorem rl_partsP (a : Addr) (w : World) : (ReflectliteValue.parts (.agg #[.pointer (some ⟨1, 190, none⟩), .pointer (some a), .int .u64 150])).run Tryd.prog w = .ok (some (190, a, 150)) w := by kernel_rfl
theorem rl_isNilP (a p : Addr) (W : World) (ha : W.cell? a = some (.pointer (some p))) :
    (ReflectliteValue.method (ReflectliteValue.valueError "reflectlite.Value.IsNil" 0) ReflectliteValue.isNil #[.agg #[.pointer (some ⟨1, 190, none⟩), .pointer (some a), .int .u64 150]]).run Tryd.prog W = .ok (.bool false) W := by
  rw [rl_m]
  simp only [Sem.run_bind, rl_partsP, Result.andThen]
  simp [ReflectliteValue.isNil, loadVar, isAgg, underlying, Tryd.underlying190, ha, Result.andThen]
theorem rl_elemP (w : World) : (ReflectliteType.method ReflectliteType.elem #[.agg #[.pointer (some ⟨1, 190, none⟩)]]).run Tryd.prog w = .ok (.iface 227 (.agg #[.pointer (some ⟨1, 121, none⟩)])) w := by kernel_rfl
theorem rl_implE (w : World) : (ReflectliteType.relation "Implements" ReflectliteType.implements_ #[.agg #[.pointer (some ⟨1, 121, none⟩)], .iface 227 (.agg #[.pointer (some ⟨1, 24, none⟩)])]).run Tryd.prog w = .ok (.bool true) w := by kernel_rfl
theorem rl_typeOfE (v : Value) (w : World) : (ReflectliteType.typeOf #[.iface 121 v]).run Tryd.prog w = .ok (.iface 227 (.agg #[.pointer (some ⟨1, 121, none⟩)])) w := by kernel_rfl
theorem rl_assignE (w : World) : (ReflectliteType.relation "AssignableTo" ReflectliteType.assignableTo #[.agg #[.pointer (some ⟨1, 121, none⟩)], .iface 227 (.agg #[.pointer (some ⟨1, 121, none⟩)])]).run Tryd.prog w = .ok (.bool true) w := by kernel_rfl
theorem rl_valueOfE (k : Int) (w : World) : (ReflectliteValue.unpack (.iface 121 (.int .i64 k))).run Tryd.prog w
    = .ok (.agg #[.pointer (some ⟨1, 121, none⟩), .pointer (some ⟨w.heap.size, 0, none⟩), .int .u64 130]) (w.alloc (.cells #[.int .i64 k] 121)) := by kernel_rfl
theorem rl_elemOfP (w : World) : (Rtype.elem? 190).run Tryd.prog w = .ok (some 121) w := by kernel_rfl
theorem rl_mkE (p : Addr) (w : World) : (ReflectliteValue.mk 121 p ReflectliteValue.flagAddr).run Tryd.prog w = .ok (.agg #[.pointer (some ⟨1, 121, none⟩), .pointer (some p), .int .u64 386]) w := by kernel_rfl
theorem rl_elemVP (a p : Addr) (W : World) (ha : W.cell? a = some (.pointer (some p))) :
    (ReflectliteValue.method (ReflectliteValue.valueError "reflectlite.Value.Elem" 0) ReflectliteValue.elem #[.agg #[.pointer (some ⟨1, 190, none⟩), .pointer (some a), .int .u64 150]]).run Tryd.prog W
      = .ok (.agg #[.pointer (some ⟨1, 121, none⟩), .pointer (some p), .int .u64 386]) W := by
  rw [rl_m]
  simp only [Sem.run_bind, rl_partsP, Result.andThen]
  simp [ReflectliteValue.elem, loadVar, isAgg, underlying, Tryd.underlying190, ha, Result.andThen, rl_elemOfP, rl_mkE]
theorem rl_s (v x : Value) : ReflectliteValue.set #[v, x] = (do
    let (some (dst, a, fl), some (src, b, _)) := (← ReflectliteValue.parts v, ← ReflectliteValue.parts x)
      | unsupported (.noEntry "extern/(internal/reflectlite.Value).Set.zeroValue")
    if fl / ReflectliteValue.flagAddr % 2 == 0 then unsupported (.noEntry "extern/(internal/reflectlite.Value).Set.unaddressable")
    let val ← loadVar src b
    if ← Rtype.directlyAssignable dst src then storeVar dst a val
    else if ← Rtype.implements dst src then
      if (← Rtype.kind src) == 20 then
        match val with
        | .nilIface => unsupported (.noEntry "extern/reflectlite: a nil value of one interface type handed on as a value of another")
        | _ => storeVar dst a val
      else storeVar dst a (.iface src val)
    else panicString ("reflectlite.Set: value of type " ++ (← Rtype.spelt src) ++ " is not assignable to type " ++ (← Rtype.spelt dst))
    pure (.tuple #[])) := rfl
theorem rl_partsEa (a : Addr) (w : World) : (ReflectliteValue.parts (.agg #[.pointer (some ⟨1, 121, none⟩), .pointer (some a), .int .u64 386])).run Tryd.prog w = .ok (some (121, a, 386)) w := by kernel_rfl
theorem rl_partsE (a : Addr) (w : World) : (ReflectliteValue.parts (.agg #[.pointer (some ⟨1, 121, none⟩), .pointer (some a), .int .u64 130])).run Tryd.prog w = .ok (some (121, a, 130)) w := by kernel_rfl
theorem rl_directE (w : World) : (Rtype.directlyAssignable 121 121).run Tryd.prog w = .ok true w := by kernel_rfl
theorem rl_setE (ta b : Addr) (k : Int) (old : Value) (W : World) (hb : W.cell? b = some (.int .i64 k)) (ht : W.cell? ta = some old) (hf : W.frozen? ta = false) :
    (ReflectliteValue.set #[.agg #[.pointer (some ⟨1, 121, none⟩), .pointer (some ta), .int .u64 386], .agg #[.pointer (some ⟨1, 121, none⟩), .pointer (some b), .int .u64 130]]).run Tryd.prog W
      = .ok (.tuple #[]) (W.setCell ta (.int .i64 k)) := by
  rw [rl_s]
  simp only [Sem.run_bind, rl_partsEa, rl_partsE, Result.andThen]
  simp [ReflectliteValue.flagAddr, loadVar, isAgg, underlying, Tryd.underlying121, hb, Result.andThen, rl_directE, storeVar, Value.cells, storeCells, Addr.add]
  rw [run_store Tryd.prog W ta _ _ (by rfl)]
  simp [ht, hf]

/-- what the row's condition gives: the variable errors.errorType -/
def HasType (w : World) : Prop := w.cell? ⟨0, 0, none⟩ = some (.iface 227 (.agg #[.pointer (some ⟨1, 24, none⟩)]))
theorem HasType.below {B : Nat} {w w' : World} (h : HasType w) (hB : 0 < B) (hb : Below B w w') : HasType w' := (hb.cell (p := ⟨0, 0, none⟩) hB).trans h
theorem HasType.lt {w : World} (h : HasType w) : 0 < w.heap.size := block_lt_of_cell h
end Go.Proofs.YtgejkhokijjemaaDoor
/- The contracts of errors.As at a target that points to an api.Errno, of plain.Told and of vaultsame.Error. -/
namespace Go.Proofs.YtgejkhokijjemaaDoor
open Go.RowKit Go.Extern.Stop Go.Stop Go.Extern

theorem rl_methKind (n : Nat) (h : Value) (w : World) : (Go.method (n + 1) 227 (.agg #[h]) "Kind").run Tryd.prog w = .ok (199, h) w := by kernel_rfl
theorem rl_methElem (n : Nat) (h : Value) (w : World) : (Go.method (n + 1) 227 (.agg #[h]) "Elem").run Tryd.prog w = .ok (209, .agg #[h]) w := by kernel_rfl
theorem rl_methImpl (n : Nat) (h : Value) (w : World) : (Go.method (n + 1) 227 (.agg #[h]) "Implements").run Tryd.prog w = .ok (210, .agg #[h]) w := by kernel_rfl
theorem rl_methAssign (n : Nat) (h : Value) (w : World) : (Go.method (n + 1) 227 (.agg #[h]) "AssignableTo").run Tryd.prog w = .ok (207, .agg #[h]) w := by kernel_rfl

set_option maxRecDepth 100000 in
set_option maxHeartbeats 4000000 in
theorem as_errno (k : Int) (t : Addr) (old : Value) (w : World) (hg : HasType w) (ht0 : w.cell? t = some old) (hf0 : w.frozen? t = false) :
    Calls Tryd.prog 119 #[.iface 121 (.int .i64 k), .iface 190 (.pointer (some t))] w fun ev w' => ev = .returned (.bool true) ∧ w' = ((((w.alloc (.cells #[.pointer (some t)] 190)).alloc (.cells #[.pointer (some ⟨1, 190, none⟩), .pointer (some ⟨w.heap.size, 0, none⟩), .int .u64 150] 211)).alloc (.cells #[.pointer (some ⟨1, 190, none⟩), .pointer (some ⟨w.heap.size, 0, none⟩), .int .u64 150] 211)).alloc (.cells #[.int .i64 k] 121)).setCell t (.int .i64 k) := by
  have h6 := @run_callFunc_extern Tryd.prog 143 _ (fun args => ReflectliteValue.unpack (args.getD 0 (.tuple #[]))) Tryd.func143 (by kernel_rfl) (by kernel_rfl) (by kernel_rfl) (by kernel_rfl)
  have h7 := @run_callFunc_extern Tryd.prog 144 _ (ReflectliteValue.methodAny (ReflectliteValue.valueError "reflectlite.Value.Type" 0) (fun t _ _ _ => ReflectliteType.toType t)) Tryd.func144 (by kernel_rfl) (by kernel_rfl) (by kernel_rfl) (by kernel_rfl)
  have h8 := @run_callFunc_extern Tryd.prog 145 _ (ReflectliteValue.method (ReflectliteValue.valueError "reflectlite.Value.IsNil" 0) ReflectliteValue.isNil) Tryd.func145 (by kernel_rfl) (by kernel_rfl) (by kernel_rfl) (by kernel_rfl)
  have h27 := @run_callFunc_extern Tryd.prog 199 _ (ReflectliteType.abiMethod fun t => do pure (.int .u8 (← Rtype.kind t))) Tryd.func199 (by kernel_rfl) (by kernel_rfl) (by kernel_rfl) (by kernel_rfl)
  have h37 := @run_callFunc_extern Tryd.prog 209 _ (ReflectliteType.method ReflectliteType.elem) Tryd.func209 (by kernel_rfl) (by kernel_rfl) (by kernel_rfl) (by kernel_rfl)
  have h38 := @run_callFunc_extern Tryd.prog 210 _ (ReflectliteType.relation "Implements" ReflectliteType.implements_) Tryd.func210 (by kernel_rfl) (by kernel_rfl) (by kernel_rfl) (by kernel_rfl)
  have h10 := @run_callFunc_extern Tryd.prog 153 _ ReflectliteType.typeOf Tryd.func153 (by kernel_rfl) (by kernel_rfl) (by kernel_rfl) (by kernel_rfl)
  have h35 := @run_callFunc_extern Tryd.prog 207 _ (ReflectliteType.relation "AssignableTo" ReflectliteType.assignableTo) Tryd.func207 (by kernel_rfl) (by kernel_rfl) (by kernel_rfl) (by kernel_rfl)
  have h11 := @run_callFunc_extern Tryd.prog 154 _ (ReflectliteValue.method (ReflectliteValue.valueError "reflectlite.Value.Elem" 0) ReflectliteValue.elem) Tryd.func154 (by kernel_rfl) (by kernel_rfl) (by kernel_rfl) (by kernel_rfl)
  have h12 := @run_callFunc_extern Tryd.prog 155 _ ReflectliteValue.set Tryd.func155 (by kernel_rfl) (by kernel_rfl) (by kernel_rfl) (by kernel_rfl)
  have tO := rl_typeOfE
  have aE := rl_assignE
  have vE := rl_valueOfE
  have f6 := rl_valueOfP
  have f7 := rl_typeP
  have mK := rl_methKind
  have mE := rl_methElem
  have mI := rl_methImpl
  have mA := rl_methAssign
  have kP := rl_kindP
  have kE := rl_kindE
  have eP := rl_elemP
  have iE := rl_implE
  have n8 := rl_isNilP ⟨w.heap.size, 0, none⟩ t ((w.alloc (.cells #[.pointer (some t)] 190)).alloc (.cells #[.pointer (some ⟨1, 190, none⟩), .pointer (some ⟨w.heap.size, 0, none⟩), .int .u64 150] 211)) (by simp)
  have hlt : 0 < w.heap.size := hg.lt
  unfold HasType at hg
  have hg2 : ((w.alloc (.cells #[.pointer (some t)] 190)).alloc (.cells #[.pointer (some ⟨1, 190, none⟩), .pointer (some ⟨w.heap.size, 0, none⟩), .int .u64 150] 211)).cell? ⟨0, 0, none⟩ = some (.iface 227 (.agg #[.pointer (some ⟨1, 24, none⟩)])) := by
    rw [World.cell?_alloc_lt _ _ ⟨0, 0, none⟩ (by simp), World.cell?_alloc_lt _ _ ⟨0, 0, none⟩ hlt]; exact hg
  have htl : t.block < w.heap.size := by
    rcases Nat.lt_or_ge t.block w.heap.size with h | h
    · exact h
    · simp [World.cell?, Array.getElem?_eq_none h] at ht0
  have el := rl_elemVP ⟨w.heap.size, 0, none⟩ t (((w.alloc (.cells #[.pointer (some t)] 190)).alloc (.cells #[.pointer (some ⟨1, 190, none⟩), .pointer (some ⟨w.heap.size, 0, none⟩), .int .u64 150] 211)).alloc (.cells #[.pointer (some ⟨1, 190, none⟩), .pointer (some ⟨w.heap.size, 0, none⟩), .int .u64 150] 211)) (by rw [World.cell?_alloc_lt _ _ ⟨w.heap.size, 0, none⟩ (by simp; omega)]; simp)
  have st := rl_setE t ⟨w.heap.size + 1 + 1 + 1, 0, none⟩ k old ((((w.alloc (.cells #[.pointer (some t)] 190)).alloc (.cells #[.pointer (some ⟨1, 190, none⟩), .pointer (some ⟨w.heap.size, 0, none⟩), .int .u64 150] 211)).alloc (.cells #[.pointer (some ⟨1, 190, none⟩), .pointer (some ⟨w.heap.size, 0, none⟩), .int .u64 150] 211)).alloc (.cells #[.int .i64 k] 121))
    (by rw [World.cell?_alloc_at _ _ _ _ (by simp)]; rfl)
    (by rw [World.cell?_alloc_lt _ _ t (by simp; omega), World.cell?_alloc_lt _ _ t (by simp; omega), World.cell?_alloc_lt _ _ t (by simp; omega), World.cell?_alloc_lt _ _ t htl]; exact ht0)
    (by rw [World.frozen?_alloc_old _ _ t (by simp; omega), World.frozen?_alloc_old _ _ t (by simp; omega), World.frozen?_alloc_old _ _ t (by simp; omega), World.frozen?_alloc_old _ _ t (Nat.ne_of_lt htl)]; exact hf0)
  go_enter Tryd.func119, Tryd.ntmps119
  go_wp2
  refine wp_loop_rounds 1 ?_
  rw [rounds_succ]
  go_wp2
  go_ret
  exact ⟨rfl, rfl⟩
end Go.Proofs.YtgejkhokijjemaaDoor
/- The contracts of plain.Told and of vaultsame.Error. -/
namespace Go.Proofs.YtgejkhokijjemaaDoor
open Go.RowKit

theorem told_nil (w : World) : Calls Tryd.prog 77 #[.nilIface] w fun e w' => e = .returned (.int .i64 0) ∧ w = w' := by
  go_enter Tryd.func77, Tryd.ntmps77
  go_wp2_with fail
  go_ret
  exact ⟨rfl, rfl⟩
theorem told_errno (k : Int) (w : World) (hg : HasType w) : Calls Tryd.prog 77 #[.iface 121 (.int .i64 k)] w fun e w' => e = .returned (.int .i64 k) ∧ Below w.heap.size w w' := by
  have hW : Below w.heap.size w (w.alloc (.cells #[.int .i64 0] 121)) := (Below.refl _ _).alloc (Nat.le_refl _) _
  have hg1 := hg.below hg.lt hW
  have HC := Hidden.mk (as_errno k ⟨w.heap.size, 0, none⟩ (.int .i64 0) _ hg1 (by simp) (by simp))
  clear hg1
  go_enter Tryd.func77, Tryd.ntmps77
  go_wp2_with fail
  refine HC.out.mono ?_
  rintro e w' ⟨rfl, hw'⟩
  have hB : Below w.heap.size w w' := by
    rw [hw']
    exact ((((hW.alloc hW.size _).alloc (by simp; omega) _).alloc (by simp; omega) _).alloc (by simp; omega) _).setCell (p := ⟨w.heap.size, 0, none⟩) (Nat.le_refl _) _
  have hc : w'.cell? ⟨w.heap.size, 0, none⟩ = some (.int .i64 k) := by
    rw [hw']
    refine World.cell?_setCell_same' _ _ _ ?_
    rw [(((((Below.refl _ (w.alloc (.cells #[.int .i64 0] 121))).alloc (Nat.le_refl _) _).alloc (by simp) _).alloc (by simp) _).alloc (by simp) _).cell (p := ⟨w.heap.size, 0, none⟩) (by simp)]
    simp
  clear hw' HC hW
  go_wp2_with fail
  go_ret
  exact ⟨rfl, hB⟩
theorem err_nil (x : Int) (w : World) : Calls Tryd.prog 15 #[.nilIface, .int .i64 x] w fun e w' => e = .returned (.bool ((0 : Int) == x)) ∧ Below w.heap.size w w' := by
  go_enter Tryd.func15, Tryd.ntmps15
  go_wp2_with fail
  refine (told_nil _).mono ?_
  rintro e w' ⟨rfl, rfl⟩
  go_wp2_with fail
  go_ret
  exact ⟨rfl, Below.refl _ _⟩
theorem err_some (k x : Int) (w : World) (hg : HasType w) : Calls Tryd.prog 15 #[.iface 121 (.int .i64 k), .int .i64 x] w fun e w' => e = .returned (.bool (k == x)) ∧ Below w.heap.size w w' := by
  go_enter Tryd.func15, Tryd.ntmps15
  go_wp2_with fail
  refine (told_errno k _ hg).mono ?_
  rintro e w' ⟨rfl, hb⟩
  go_wp2_with fail
  go_ret
  exact ⟨rfl, hb⟩
/-- .. of an error that is nil or a number -/
theorem err_any (n : Nat) (x : Int) (w : World) (hg : HasType w) : Calls Tryd.prog 15 #[errV n, .int .i64 x] w fun e w' => e = .returned (.bool ((n : Int) == x)) ∧ Below w.heap.size w w' := by
  unfold errV
  by_cases h : n = 0
  · rw [if_pos h, h]; exact err_nil x w
  · rw [if_neg h]; exact err_some n x w hg
end Go.Proofs.YtgejkhokijjemaaDoor
/- RootFull: the walk. -/
namespace Go.Proofs.YtgejkhokijjemaaDoor
open Go.RowKit

theorem cut_nm : ∀ k : Nat, k < 8 → Value.string (({ data := #[97, 98, 99, 100, 101, 102, 103, 104] } : ByteArray).extract k (k + 1)) = sv (nmQ k)
  | 0, _ => rfl
  | 1, _ => rfl
  | 2, _ => rfl
  | 3, _ => rfl
  | 4, _ => rfl
  | 5, _ => rfl
  | 6, _ => rfl
  | 7, _ => rfl
  | k + 8, h => by omega
theorem setAt_new {k : Nat} {f : Nat → Fin 3} {l : Bytes} (h : NamIs k f l) (hk : k < 8) : setAt l (nmQ k) = k ∧ (placeF l (nmQ k) 8).1 = -1 := by
  obtain ⟨a, b⟩ := h.placeNew (nmQ k) (fun q hq => nmQ_ne (by omega) hk (by omega))
  refine ⟨?_, a⟩
  unfold setAt
  rw [if_pos (by omega), b, if_pos hk]
theorem setAt_zz {f : Nat → Fin 3} {l : Bytes} (h : NamIs 8 f l) : setAt l [122, 122] < 0 := by
  obtain ⟨a, b⟩ := h.placeNew [122, 122] (fun q hq => nmQ_zz ⟨q, hq⟩)
  unfold setAt
  rw [if_pos (by omega), b, if_neg (by omega)]
  omega
theorem setAt_own {f : Nat → Fin 3} {l : Bytes} (h : NamIs 8 f l) (q : Nat) (hq : q < 8) : setAt l (nmQ q) = q ∧ (placeF l (nmQ q) 8).1 = q := by
  have := h.placeOwn q hq
  refine ⟨?_, this⟩
  unfold setAt
  rw [if_neg (by omega), this]
def twoF (q : Nat) : Nat → Fin 3 := fun p => if p = q then 2 else 1
theorem lead_two : ∀ q : Fin 8, leadR ((List.range 8).map fun p => (nmQ p, (twoF q p).val)) (nmQ q) = 2 := by decide
theorem get_two {l : Bytes} (q : Nat) (hq : q < 8) (h : NamIs 8 (twoF q) l) : getRE l (nmQ q) 0 = 0 ∧ getRH l (nmQ q) 0 = 2 := by
  have hl : leadR (rootsL l) (nmQ q) = 2 := by rw [h.roots]; exact lead_two ⟨q, hq⟩
  have hE : getRE l (nmQ q) 0 = 0 := by
    unfold getRE
    rw [if_neg (by rw [(nmQ_facts ⟨q, hq⟩).1]; decide), if_neg (by omega), hl, if_neg (by omega), if_neg (fun h' => h'.2 h.t2)]
  refine ⟨hE, ?_⟩
  unfold getRH
  rw [if_pos hE, hl]
set_option maxRecDepth 100000 in
set_option maxHeartbeats 2000000 in
theorem rootFull_walk (many again : Int) (w : World) (hg : HasType w) :
    Calls Tryd.prog 3 #[.int .i64 many, .int .i64 again] w fun e w' => e = .returned (.bool true) ∧ Below w.heap.size w w' := by
  have HG := Hidden.mk hg
  have HN := Hidden.mk (hnew_ok 400 w (by decide))
  rw [show ((400 : Nat) : Int) = 400 from rfl] at HN
  obtain ⟨l1, l2, a1, a2, a3, a4, a5, a6, hn⟩ := full_start
  have HNI := Hidden.mk hn
  clear hg hn
  go_enter Tryd.func3, Tryd.ntmps3
  go_wp2_with fail
  refine HN.out.mono ?_
  rintro e w1 ⟨h, F, rfl, hp⟩
  have HC := Hidden.mk (halloc_any 1 0 hp)
  rw [a1, a2, a3, show errV 0 = Value.nilIface from rfl] at HC
  clear hp HN a1 a2 a3
  go_wp2_with fail
  refine HC.out.mono ?_
  rintro e w2 ⟨rfl, F2, hm⟩
  have HC2 := Hidden.mk (halloc_any 1 0 hm.hp)
  rw [a4, a5, a6, show errV 0 = Value.nilIface from rfl] at HC2
  clear hm HC a4 a5 a6
  go_wp2_with fail
  refine HC2.out.mono ?_
  rintro e w3 ⟨rfl, F3, hm⟩
  have HP := Hidden.mk hm.hp
  clear hm HC2
  go_wp2_with fail
  go_loopg [11] 8 (fun q i wr => ∃ (k : Nat) (F : Nat → Prop) (l : Bytes), k ≤ 8 ∧ q = 8 - k ∧ i = .int .i64 (k : Int) ∧ Hidden (Hp w wr F h l ∧ NamIs k (fun _ => 1) l))
  case atStart => exact ⟨0, F3, l2, by omega, rfl, rfl, ⟨HP.out, HNI.out⟩⟩
  case round =>
    obtain ⟨k, F, l, hk, rfl, rfl, hst⟩ := hrel
    by_cases hlt : k < 8
    · have t0 : decide ((k : Int) < 8) = true := by simp; omega
      have s1 : IntKind.i64.wrap ((k : Int) + 1) = (k : Int) + 1 := IntWalk.i64_in _ (by omega)
      obtain ⟨s2, s3⟩ := setAt_new hst.out.2 hlt
      have HS := Hidden.mk (rset_ok (nmQ k) 1 k hst.out.1 hst.out.2.good (nmQ_facts ⟨k, hlt⟩).1 hst.out.2.h1 hlt s2)
      rw [s3, putRo_nm] at HS
      have HNP := Hidden.mk (hst.out.2.put k (Nat.le_refl _) hlt 1 (by decide))
      rw [if_pos rfl] at HNP
      rw [show (fun q => if q = k then (1 : Fin 3) else (fun _ => 1) q) = (fun _ => 1) from by funext q; simp] at HNP
      rw [show (((1 : Fin 3) : Nat) : Int) = 1 from rfl] at HNP
      generalize splice l (200 + 11 * k) (rootB (nmQ k) 1) = l' at *
      have HCN := Hidden.mk (cut_nm k hlt)
      clear hst s2 s3
      go_wp2_with fail
      rw [HCN.out]
      refine HS.out.mono ?_
      rintro e w4 ⟨rfl, F4, hm⟩
      have HP4 := Hidden.mk (And.intro hm.hp HNP.out)
      rw [show decide ((-1 : Int) < 0) = true from rfl]
      clear hm HS HNP HCN t0
      go_wp2_with fail
      go_roundg (8 - (k + 1))
      case measure => omega
      case rel => exact ⟨k + 1, F4, l', by omega, rfl, by go_num, HP4⟩
    · obtain rfl : k = 8 := by omega
      have t0 : decide (((8 : Nat) : Int) < 8) = false := by decide
      have HZ := Hidden.mk (rset_full [122, 122] 2 hst.out.1 hst.out.2.good (by decide) hst.out.2.h2 (setAt_zz hst.out.2))
      have HP8 := Hidden.mk hst.out
      clear hst HP HNI
      have H8 : Hidden ((rootsL l).length = 8) := ⟨by rw [HP8.out.2.roots]; simp⟩
      go_wp2_with fail
      refine HZ.out.mono ?_
      rintro e w4 ⟨rfl, hb4⟩
      have HP4 := Hidden.mk (HP8.out.1.below hb4)
      have HERR := Hidden.mk (err_some 4 4 w4 (HG.out.below HG.out.lt HP4.out.bel))
      rw [beq_self_eq_true] at HERR
      clear hb4 HZ t0
      go_wp2_with fail
      refine HERR.out.mono ?_
      rintro e w5 ⟨rfl, hb5⟩
      have HP5 := Hidden.mk (HP4.out.below hb5)
      have HALL := Hidden.mk (rall_any HP5.out)
      clear hb5 HERR HP4
      go_wp2_with fail
      refine HALL.out.mono ?_
      rintro e w6 ⟨v6, rfl, hown6, hb6⟩
      obtain ⟨A6, c6, rfl, -, -⟩ := own_split hown6
      have HP6 := Hidden.mk (HP5.out.below hb6)
      rw [H8.out]
      clear hown6 hb6 HALL HP5
      have HALL2 := Hidden.mk (rall_any HP6.out)
      by_cases g1 : again < 0
      · have d1 : decide (again < 0) = true := by simpa using g1
        clear g1
        go_wp2_with fail
        refine HALL2.out.mono ?_
        rintro e w7 ⟨v7, rfl, hown7, hb7⟩
        obtain ⟨A7, c7, rfl, -, -⟩ := own_split hown7
        have HP7 := Hidden.mk (HP6.out.below hb7)
        rw [H8.out]
        clear hown7 hb7 HALL2 HP6
        go_wp2_with fail
        go_ret
        exact ⟨rfl, HP7.out.bel⟩
      have d1 : decide (again < 0) = false := by simpa using g1
      by_cases g2 : 7 < again
      · have d2 : decide (7 < again) = true := by simpa using g2
        clear g1 g2
        go_wp2_with fail
        refine HALL2.out.mono ?_
        rintro e w7 ⟨v7, rfl, hown7, hb7⟩
        obtain ⟨A7, c7, rfl, -, -⟩ := own_split hown7
        have HP7 := Hidden.mk (HP6.out.below hb7)
        rw [H8.out]
        clear hown7 hb7 HALL2 HP6
        go_wp2_with fail
        go_ret
        exact ⟨rfl, HP7.out.bel⟩
      have d2 : decide (7 < again) = false := by simpa using g2
      obtain ⟨q, rfl⟩ := Int.eq_ofNat_of_zero_le (show 0 ≤ again by omega)
      have hq : q < 8 := by omega
      have s1 : IntKind.i64.wrap ((q : Int) + 1) = (q : Int) + 1 := IntWalk.i64_in _ (by omega)
      obtain ⟨s2, s3⟩ := setAt_own HP8.out.2 q hq
      have HS := Hidden.mk (rset_ok (nmQ q) 2 q HP6.out HP8.out.2.good (nmQ_facts ⟨q, hq⟩).1 HP8.out.2.h2 hq s2)
      rw [s3, putRo_nm] at HS
      have HNP := Hidden.mk (HP8.out.2.put q (by omega) hq 2 (by decide))
      rw [if_neg (by omega), show (((2 : Fin 3) : Nat) : Int) = 2 from rfl] at HNP
      generalize splice l (200 + 11 * q) (rootB (nmQ q) 2) = l' at *
      have HCN := Hidden.mk (cut_nm q hq)
      clear s2 s3 g1 g2 HALL2
      go_wp2_with fail
      rw [HCN.out]
      refine HS.out.mono ?_
      rintro e w7 ⟨rfl, F7, hm⟩
      have HNP : Hidden (NamIs 8 (twoF q) l') := ⟨HNP.out⟩
      have HP7 := Hidden.mk hm.hp
      have HGET := Hidden.mk (rget_any (nmQ q) 0 hm.hp HNP.out.good (by simp [nmQ]))
      rw [(get_two q hq HNP.out).1, (get_two q hq HNP.out).2, show errV 0 = Value.nilIface from rfl] at HGET
      rw [show decide ((q : Int) < 0) = false from by simp]
      clear hm HS HP6 HCN d1 d2
      go_wp2_with fail
      refine HGET.out.mono ?_
      rintro e w8 ⟨rfl, hb8⟩
      have HP8 := Hidden.mk (HP7.out.below hb8)
      have HALL := Hidden.mk (rall_any HP8.out)
      have H8 : Hidden ((rootsL l').length = 8) := ⟨by rw [HNP.out.roots]; simp⟩
      have HAT : Hidden (∀ h : q < (rootsL l').length, (rootsL l')[q] = (nmQ q, 2)) := ⟨fun h => by simp [HNP.out.roots, twoF]⟩
      clear hb8 HGET HP7 HNP
      generalize rootsL l' = R at *
      go_wp2_with fail
      refine HALL.out.mono ?_
      rintro e w9 ⟨v9, rfl, hown9, hb9⟩
      obtain ⟨A9, c9, rfl, -, -⟩ := own_split hown9
      have HX := own_rdX3 (f := rcells) (fun _ => rfl) rfl hown9
      obtain ⟨pp, oo, rfl, hcx⟩ := HX q (by rw [H8.out]; exact hq)
      have x0 := hcx 0 _ rfl
      have x1 := hcx 1 _ rfl
      rw [HAT.out (by rw [H8.out]; exact hq), Nat.add_zero] at x0
      rw [HAT.out (by rw [H8.out]; exact hq)] at x1
      have HP9 := Hidden.mk (HP8.out.below hb9)
      rw [H8.out]
      have i0 : (0 : Int) ≤ q := by omega
      have i1 : (q : Int) < 8 := by omega
      clear hown9 hb9 HALL HP8 HX hcx HAT
      generalize nmQ q = nm at *
      go_wp2_with fail
      go_ret
      exact ⟨rfl, HP9.out.bel⟩
end Go.Proofs.YtgejkhokijjemaaDoor
