/- Contracts and plain laws, put together: Root1, Ext4, ExtP, Heap6, HeapP, Root2, Root3, Heap7, KeepP, Told, Told2, Told3, Open3, ImageBack0, RootLP, RootL1, RootLeads1. -/
import Derived.Test.YtnceheienlekaaaGreatDoorRootLeadsFrameM3
import Derived.Deep.RegionHeld3
import Derived.Test.YtnceheienlekaaaGreatDoorRootLeadsFrameM1
import Derived.LaidEql
import Derived.Stop.Asserts
import Derived.RowKitTokens
import Derived.Deep.Grids
import Derived.Test.YtnceheienlekaaaGreatDoorRootLeadsFrameM2
import Derived.Deep.DeepCutAuto
import Derived.Deep.CutBlock
/- Names that lead: root.Get; the reference's Lead and Object. -/
namespace Go.Proofs.YtnceheienlekaaaGreatDoor
open Go.RowKit

/-- where a name leads first; 0: nowhere -/
def leadR (L : List (Bytes × Nat)) (s : Bytes) : Nat := match L.find? (fun r => r.1 == s) with
  | none => 0
  | some r => r.2
theorem leadR_none {L : List (Bytes × Nat)} {s : Bytes} (h : ∀ x ∈ L, (x.1 == s) = false) : leadR L s = 0 := by
  unfold leadR
  rw [List.find?_eq_none.2 (fun x hx => by rw [h x hx]; decide)]
theorem leadR_at {L : List (Bytes × Nat)} {s : Bytes} (k : Nat) (hk : k < L.length) (h : (L[k].1 == s) = true) (hn : ∀ j (hj : j < k), (L[j].1 == s) = false) : leadR L s = L[k].2 := by
  unfold leadR
  rw [(List.find?_eq_some_iff_getElem (p := fun r : Bytes × Nat => r.1 == s)).2 ⟨h, k, hk, rfl, fun j hj => by rw [hn j hj]; rfl⟩]
theorem good_roots {l : Bytes} (hg : Good l) {r : Bytes × Nat} (h : r ∈ rootsL l) : 1 ≤ r.2 ∧ r.2 ≤ 40 ∧ hE l r.2 = 0 := by
  unfold rootsL rootsF at h
  simp only [List.mem_map, List.mem_filter, List.mem_range, Bool.not_eq_true'] at h
  obtain ⟨i, ⟨hi, hz⟩, rfl⟩ := h
  have hb := badR_lead (hg.s.root i hi hz)
  obtain ⟨k, hk, hh, hx⟩ := leadsS_iff.1 hb
  have he := (hE_has hk hh).1
  simp only [rootP]
  rw [hx]
  exact ⟨by omega, by omega, by simpa using he⟩
def getRE (l s : Bytes) (tag : Int) : Nat := if isName s = false then 2 else if tag < -1 ∨ 15 < tag then 1 else if leadR (rootsL l) s = 0 then 5 else if 0 ≤ tag ∧ gT l (leadR (rootsL l) s) ≠ tag then 8 else 0
def getRH (l s : Bytes) (tag : Int) : Nat := if getRE l s tag = 0 then leadR (rootsL l) s else 0
section
variable {w0 w : World} {F : Nat → Prop} {h : Nat} {l : Bytes}
set_option maxRecDepth 100000 in
theorem rget_any (s : Bytes) (tag : Int) (hp : Hp w0 w F h l) (hg : Good l) (hs : s.length ≤ 140737488351232) :
    Calls Tryz.prog 9 #[.pointer (some ⟨h, 0, none⟩), sv s, .int .i64 tag] w fun e w' => e = .returned (.tuple #[.int .i64 (getRH l s tag : Int), errV (getRE l s tag)]) ∧ Below w.heap.size w w' := by
  have HAL := Hidden.mk ((Below.refl w.heap.size w).alloc (Nat.le_refl _) (.cells #[sv s] 9))
  have HBX := Hidden.mk (heap_alloc_new w (.cells #[sv s] 9))
  have HP := Hidden.mk hp
  have HE : Hidden (getRE l s tag = if isName s = false then 2 else if tag < -1 ∨ 15 < tag then 1 else if leadR (rootsL l) s = 0 then 5 else if 0 ≤ tag ∧ gT l (leadR (rootsL l) s) ≠ tag then 8 else 0) := ⟨rfl⟩
  have HH : Hidden (getRH l s tag = if getRE l s tag = 0 then leadR (rootsL l) s else 0) := ⟨rfl⟩
  have hbx0 : (w.alloc (.cells #[sv s] 9)).cell? ⟨w.heap.size, 0, none⟩ = some (sv s) := by simp only [World.cell?]; rw [HBX.out]; rfl
  clear hp
  cases hn : isName s with
  | false =>
    have he : getRE l s tag = 2 := by rw [HE.out, if_pos hn]
    have hh : getRH l s tag = 0 := by rw [HH.out, he]; rfl
    rw [he, hh]
    have HC := Hidden.mk (putName_no s (w.alloc (.cells #[sv s] 9)) hs hn)
    clear HE HH he hh hn hg
    go_enter Tryz.func9, Tryz.ntmps9
    go_wp2_with fail
    generalize w.alloc (.cells #[sv s] 9) = w1 at *
    refine HC.out.mono ?_
    rintro e w2 ⟨rfl, hb2⟩
    have HB := Hidden.mk (HAL.out.trans (hb2.mono HAL.out.size))
    clear hb2 HC hbx0
    go_wp2_with fail
    go_ret2
    exact ⟨rfl, HB.out⟩
  | true =>
    have HC := Hidden.mk (putName_ok s (w.alloc (.cells #[sv s] 9)) hn)
    have HE := Hidden.mk (show getRE l s tag = if tag < -1 ∨ 15 < tag then 1 else if leadR (rootsL l) s = 0 then 5 else if 0 ≤ tag ∧ gT l (leadR (rootsL l) s) ≠ tag then 8 else 0 by rw [HE.out, if_neg (by rw [hn]; decide)])
    have HGR : Hidden (∀ r ∈ rootsL l, 1 ≤ r.2 ∧ r.2 ≤ 40 ∧ hE l r.2 = 0) := ⟨fun r hr => good_roots hg hr⟩
    have HRT : Hidden (∀ W, Hp w0 W F h l → Calls Tryz.prog 35 #[.pointer (some ⟨h, 0, none⟩)] W fun e w' => ∃ v, e = .returned v ∧ w'.ownsRow W.heap.size 78 2 v (rootsL l).length ((rootsL l).flatMap rcells) ∧ Below W.heap.size W w') := ⟨fun W hW => hroots_any hW⟩
    have HRL : Hidden ((rootsL l).length ≤ 8) := ⟨rootsF_len _ _⟩
    generalize getRE l s tag = ge at *
    generalize getRH l s tag = gh at *
    generalize rootsL l = RL at *
    clear hn hg hs
    go_enter Tryz.func9, Tryz.ntmps9
    go_wp2_with fail
    generalize w.alloc (.cells #[sv s] 9) = w1 at *
    refine HC.out.mono ?_
    rintro e w2 ⟨gn, rfl, -, -, hb2⟩
    have HB2 := Hidden.mk (HAL.out.trans (hb2.mono HAL.out.size))
    have HBX2 := Hidden.mk ((hb2.block _ (Array.getElem?_eq_some_iff.1 HBX.out).1).trans HBX.out)
    clear hb2 HC hbx0 HBX HAL
    by_cases t1 : tag < -1
    · have he : ge = 1 := by rw [HE.out, if_pos (.inl t1)]
      have hh : gh = 0 := by rw [HH.out, he]; rfl
      have d1 : decide (tag < -1) = true := by simpa using t1
      subst he hh
      clear HE HH t1
      go_wp2_with fail
      go_ret2
      exact ⟨rfl, HB2.out⟩
    by_cases t2 : 15 < tag
    · have he : ge = 1 := by rw [HE.out, if_pos (.inr t2)]
      have hh : gh = 0 := by rw [HH.out, he]; rfl
      have d1 : decide (tag < -1) = false := by simpa using t1
      have d2 : decide (15 < tag) = true := by simpa using t2
      subst he hh
      clear HE HH t1 t2
      go_wp2_with fail
      go_ret2
      exact ⟨rfl, HB2.out⟩
    have d1 : decide (tag < -1) = false := by simpa using t1
    have d2 : decide (15 < tag) = false := by simpa using t2
    have HE := Hidden.mk (show ge = if leadR RL s = 0 then 5 else if 0 ≤ tag ∧ gT l (leadR RL s) ≠ tag then 8 else 0 by rw [HE.out, if_neg (by omega)])
    clear t1 t2
    go_wp2_with fail
    clear d1 d2
    refine (HRT.out _ (HP.out.below HB2.out)).mono ?_
    rintro e w3 ⟨v, rfl, hown, hb3⟩
    have HB3 := Hidden.mk (HB2.out.trans (hb3.mono HB2.out.size))
    have HBX3 := Hidden.mk ((hb3.block _ (Array.getElem?_eq_some_iff.1 HBX2.out).1).trans HBX2.out)
    obtain ⟨A3, c3, rfl, hc3, -⟩ := own_split hown
    have HRX := Hidden.mk (own_rdX3 (f := rcells) (fun _ => rfl) rfl hown)
    have HCF := Hidden.mk (idxR_get (fun r => r.1 == s) A3 RL.length c3 RL (.pointer (some ⟨w.heap.size, 0, none⟩)) w3 rfl (by have := HRL.out; omega) HRX.out
      (fun y _ W hW => root1_get y s w.heap.size W (by have := (hW.block _ (Array.getElem?_eq_some_iff.1 HBX3.out).1).trans HBX3.out; simp [World.cell?, this])))
    clear hown hb3 HRT HBX2 HB2
    go_wp2_with fail
    refine HCF.out.mono ?_
    rintro e w4 ⟨rfl, hb4⟩
    have HB4 := Hidden.mk (HB3.out.trans (hb4.mono HB3.out.size))
    have HRX4 := Hidden.mk (HRX.out.below hb4)
    clear hb4 HCF HRX HB3 HBX3
    by_cases ha : RL.any (fun r => r.1 == s) = true
    · obtain ⟨k, hk, e1, e2, e3⟩ := ixP_lt (fun r : Bytes × Nat => r.1 == s) RL ha
      have hl := leadR_at k hk e2 e3
      have hgr := HGR.out RL[k] (List.getElem_mem hk)
      rw [e1]
      obtain ⟨pp, off, rfl, hcx⟩ := HRX4.out k hk
      have x1 := hcx 1 _ rfl
      have plt : pp < w4.heap.size := block_lt_of_cell x1
      have HT := Hidden.mk (htag_any (RL[k].2 : Int) (HP.out.below HB4.out))
      rw [hgr.2.2, show errV 0 = Value.nilIface from rfl] at HT
      rw [hl] at HE HH
      generalize RL[k].2 = hd at *
      generalize gT l (hd : Int) = gt at *
      have HE := Hidden.mk (show ge = if 0 ≤ tag ∧ gt ≠ tag then 8 else 0 by rw [HE.out, if_neg (by omega)])
      have i0 : decide ((k : Int) < 0) = false := by simp
      have i1 : (0 : Int) ≤ k := by omega
      have i2 : (k : Int) < RL.length := by omega
      have HX1 : Hidden (∀ W, Below w4.heap.size w4 W → W.cell? ⟨pp, off + k * 2 + 1, none⟩ = some (.int .i64 hd)) := ⟨fun W hW => (hW.cell (p := ⟨pp, off + k * 2 + 1, none⟩) plt).trans x1⟩
      clear hcx e1 e2 e3 ha hl hgr HRX4 HGR plt HRL
      go_wp2_with fail
      refine HT.out.mono ?_
      rintro e w5 ⟨rfl, hb5⟩
      have x5 := HX1.out w5 hb5
      have HB5 := Hidden.mk (HB4.out.trans (hb5.mono HB4.out.size))
      clear hb5 HT x1
      by_cases t1 : 0 ≤ tag
      · have d1 : decide (0 ≤ tag) = true := by simpa using t1
        by_cases t2 : gt = tag
        · have he : ge = 0 := by rw [HE.out, if_neg (by omega)]
          have hh : gh = hd := by rw [HH.out, he]; rfl
          have d2 : (gt == tag) = true := by simpa using t2
          have d3 : (gt != tag) = false := by simpa using t2
          subst he hh
          clear HE HH t1 t2 HX1
          go_wp2_with fail
          go_ret2
          exact ⟨rfl, HB5.out⟩
        · have he : ge = 8 := by rw [HE.out, if_pos ⟨t1, t2⟩]
          have hh : gh = 0 := by rw [HH.out, he]; rfl
          have d2 : (gt == tag) = false := by simpa using t2
          have d3 : (gt != tag) = true := by simpa using t2
          subst he hh
          clear HE HH t1 t2 HX1
          go_wp2_with fail
          go_ret2
          exact ⟨rfl, HB5.out⟩
      · have d1 : decide (0 ≤ tag) = false := by simpa using t1
        have he : ge = 0 := by rw [HE.out, if_neg (fun h => t1 h.1)]
        have hh : gh = hd := by rw [HH.out, he]; rfl
        subst he hh
        clear HE HH t1 HX1
        go_wp2_with fail
        go_ret2
        exact ⟨rfl, HB5.out⟩
    · have ha' : ∀ x ∈ RL, (x.1 == s) = false := by
        rw [Bool.not_eq_true, List.any_eq_false] at ha
        intro x hx
        simpa using ha x hx
      rw [ixP_none _ _ ha']
      have hl := leadR_none ha'
      have he : ge = 5 := by rw [HE.out, if_pos hl]
      have hh : gh = 0 := by rw [HH.out, he]; rfl
      subst he hh
      clear HE HH ha ha' hl HRX4
      go_wp2_with fail
      go_ret2
      exact ⟨rfl, HB4.out⟩
theorem rall_any (hp : Hp w0 w F h l) :
    Calls Tryz.prog 12 #[.pointer (some ⟨h, 0, none⟩)] w fun e w' => ∃ v, e = .returned v ∧ w'.ownsRow w.heap.size 78 2 v (rootsL l).length ((rootsL l).flatMap rcells) ∧ Below w.heap.size w w' := by
  have HC := Hidden.mk (hroots_any hp)
  clear hp
  go_enter Tryz.func12, Tryz.ntmps12
  go_wp2_with fail
  refine HC.out.mono ?_
  rintro e w1 ⟨v, rfl, hown, hb1⟩
  have HB := Hidden.mk (And.intro hown hb1)
  clear hb1 hown HC
  go_wp2_with fail
  go_ret
  exact ⟨v, rfl, HB.out⟩
end
/-- an object's tag, and its bytes, as the reference tells them -/
def objT (l : Bytes) (k : Nat) : Int := if hasE (rawE l k) = true then rTag (rawE l k) else -1
def objS (l : Bytes) (k : Nat) : Bytes := if hasE (rawE l k) = true then (l.drop (rAt (rawE l k))).take (rLen (rawE l k)) else []
end Go.Proofs.YtnceheienlekaaaGreatDoor
/- The contract of extent.Stat. -/
namespace Go.Proofs.YtnceheienlekaaaGreatDoor
open Go.RowKit

def statV (o u f m r : Int) : Value := .agg #[.int .i64 o, .int .i64 u, .int .i64 f, .int .i64 m, .int .i64 r]
def sumX (l : List Ext) : Int := l.foldl (fun s e => s + e.2) 0
def mostX (H : List Ext) : Int := H.foldl (fun s e => max s e.2) 0
theorem sumX_succ (l : List Ext) (k : Nat) (hk : k < l.length) : sumX (l.take (k + 1)) = sumX (l.take k) + l[k].2 := by
  unfold sumX; rw [List.take_succ_eq_append_getElem hk, List.foldl_append]; rfl
theorem mostX_succ (l : List Ext) (k : Nat) (hk : k < l.length) : mostX (l.take (k + 1)) = max (mostX (l.take k)) l[k].2 := by
  unfold mostX; rw [List.take_succ_eq_append_getElem hk, List.foldl_append]; rfl
theorem sumX_bd (l : List Ext) (h : OkX l) : ∀ k, k ≤ l.length → 0 ≤ sumX (l.take k) ∧ sumX (l.take k) ≤ 6400 * k
  | 0, _ => by simp [sumX]
  | k + 1, hk => by
    have ih := sumX_bd l h k (by omega)
    have := h l[k] (List.getElem_mem (by omega))
    rw [sumX_succ l k (by omega)]
    omega
/-- what Stat says -/
def statX (n : Int) (l : List Ext) : Value := if chkX n l = 0 then statV l.length (sumX l) (n - sumX l) (mostX (holesX n l)) (holesX n l).length else statV 0 0 0 0 0
end Go.Proofs.YtnceheienlekaaaGreatDoor
/- Extents, the plain law: what is free between extents that are right. No walk here. -/
namespace Go.Proofs.YtnceheienlekaaaGreatDoor
open Go.RowKit

/-- behind each other, from a to n -/
def Tidy : Int → List Ext → Int → Prop
  | a, [], n => a ≤ n
  | a, e :: r, n => a ≤ e.1 ∧ 1 ≤ e.2 ∧ Tidy (e.1 + e.2) r n
theorem hitX_symm (e o : Ext) : hitX e o = hitX o e := by unfold hitX; rw [Bool.and_comm]
theorem chkX_pair {n : Int} {l : List Ext} (h : chkX n l = 0) : l.Pairwise (fun a b => hitX a b = false) := by
  obtain ⟨_, _, _, _, h5⟩ := chkX_ok h
  rw [List.pairwise_iff_getElem]
  intro i j hi hj hij
  have h2 := (h5 j hj).2
  rw [List.any_eq_false] at h2
  have hm : l[i] ∈ l.take j := by
    rw [List.mem_take_iff_getElem]
    exact ⟨i, by omega, rfl⟩
  have := h2 _ hm
  rw [hitX_symm]
  simpa using this
theorem loopX_of (n : Int) (l : List Ext) : ∀ k, k ≤ l.length → (∀ j (hj : j < l.length), j < k → badX n l[j] = false ∧ (l.take j).any (hitX l[j]) = false) → loopX n l k = 0
  | 0, _, _ => rfl
  | k + 1, hk, h => by
    have h0 := loopX_of n l k (by omega) (fun j hj hjk => h j hj (by omega))
    obtain ⟨h1, h2⟩ := h k (by omega) (by omega)
    rw [loopX, if_pos h0]
    have hg : l.getD k (0, 0) = l[k] := by simp [show k < l.length by omega]
    rw [hg]
    unfold faultX
    rw [h1, h2]; rfl
theorem chkX_of {n : Int} {l : List Ext} (h0 : 0 ≤ n) (h1 : n ≤ 6400) (h2 : l.length ≤ 200) (hb : ∀ e ∈ l, badX n e = false) (hp : l.Pairwise (fun a b => hitX a b = false)) : chkX n l = 0 := by
  unfold chkX
  rw [if_neg (by omega), if_neg (by omega)]
  refine loopX_of n l _ (Nat.le_refl _) fun j hj _ => ⟨hb _ (List.getElem_mem hj), ?_⟩
  rw [List.any_eq_false]
  intro x hx
  rw [List.mem_take_iff_getElem] at hx
  obtain ⟨i, hi, rfl⟩ := hx
  rw [List.pairwise_iff_getElem] at hp
  have := hp i j (by omega) hj (by omega)
  rw [hitX_symm]
  simpa using this
theorem badX_of {n : Int} {e : Ext} (h : 1 ≤ e.2 ∧ 0 ≤ e.1 ∧ e.1 + e.2 ≤ n) : badX n e = false := by
  unfold badX
  simp only [Bool.or_eq_false_iff, decide_eq_false_iff_not]
  omega
theorem hitX_false {e o : Ext} : hitX e o = false ↔ (o.1 + o.2 ≤ e.1 ∨ e.1 + e.2 ≤ o.1) := by
  unfold hitX
  simp only [Bool.and_eq_false_iff, decide_eq_false_iff_not]
  omega
theorem tidy_mk (n : Int) : ∀ (S : List Ext) (a : Int), (∀ e ∈ S, a ≤ e.1 ∧ 1 ≤ e.2 ∧ e.1 + e.2 ≤ n) → S.Pairwise (fun x y => x.1 + x.2 ≤ y.1) → a ≤ n → Tidy a S n
  | [], _, _, _, h => h
  | e :: r, a, hb, hp, _ => by
    obtain ⟨h1, h2, h3⟩ := hb e (List.mem_cons_self ..)
    rw [List.pairwise_cons] at hp
    exact ⟨h1, h2, tidy_mk n r _ (fun x hx => by have := hb x (List.mem_cons_of_mem _ hx); have := hp.1 x hx; omega) hp.2 (by omega)⟩
theorem tidy_of {n : Int} {l : List Ext} (h : chkX n l = 0) : Tidy 0 (sortE l) n := by
  obtain ⟨h0, h1, h2, _, h5⟩ := chkX_ok h
  have hbad : ∀ e ∈ sortE l, badX n e = false := fun e he => by
    obtain ⟨j, hj, rfl⟩ := List.getElem_of_mem ((sortE_perm l).mem_iff.1 he)
    exact (h5 j hj).1
  refine tidy_mk n _ 0 (fun e he => by have := badX_false (hbad e he); omega) ?_ h0
  have hp : (sortE l).Pairwise (fun a b => hitX a b = false) := ((sortE_perm l).pairwise_iff (fun {x y} h => by rw [hitX_symm]; exact h)).2 (chkX_pair h)
  rw [List.pairwise_iff_getElem] at hp ⊢
  have hs := sortE_sorted l
  rw [List.pairwise_iff_getElem] at hs
  intro i j hi hj hij
  have a1 := hitX_false.1 (hp i j hi hj hij)
  have a2 := hs i j hi hj hij
  have a3 := badX_false (hbad _ (List.getElem_mem hi))
  have a4 := badX_false (hbad _ (List.getElem_mem hj))
  omega
theorem tidy_le : ∀ {S : List Ext} {a n : Int}, Tidy a S n → a ≤ n
  | [], _, _, h => h
  | e :: r, a, n, ⟨h1, h2, h3⟩ => by have := tidy_le h3; omega
theorem tidy_mem : ∀ {S : List Ext} {a n : Int}, Tidy a S n → ∀ e ∈ S, a ≤ e.1 ∧ 1 ≤ e.2 ∧ e.1 + e.2 ≤ n
  | e :: r, a, n, ⟨h1, h2, h3⟩, x, hx => by
    rcases List.mem_cons.1 hx with rfl | hx
    · exact ⟨h1, h2, tidy_le h3⟩
    · have := tidy_mem h3 x hx; omega
theorem tidy_strict : ∀ {S : List Ext} {a n : Int}, Tidy a S n → S.Pairwise (fun x y => x.1 < y.1)
  | [], _, _, _ => List.Pairwise.nil
  | e :: r, a, n, ⟨h1, h2, h3⟩ => List.Pairwise.cons (fun x hx => by have := tidy_mem h3 x hx; omega) (tidy_strict h3)
/-- holes of a tidy list, with its end -/
def runsX (a : Int) (S : List Ext) (n : Int) : List Ext := holesGo a (S ++ [(n, 0)])
theorem runsX_nil (a n : Int) : runsX a [] n = if a < n then [(a, n - a)] else [] := by
  unfold runsX
  simp [holesGo]
theorem runsX_cons (a : Int) (e : Ext) (r : List Ext) (n : Int) : runsX a (e :: r) n = (if a < e.1 then [(a, e.1 - a)] else []) ++ runsX (e.1 + e.2) r n := rfl
theorem runs_mem : ∀ {S : List Ext} {a n : Int}, Tidy a S n → ∀ h ∈ runsX a S n, a ≤ h.1 ∧ 1 ≤ h.2 ∧ h.1 + h.2 ≤ n ∧ ∀ e ∈ S, h.1 + h.2 ≤ e.1 ∨ e.1 + e.2 ≤ h.1
  | [], a, n, ht, h, hh => by
    rw [runsX_nil] at hh
    split at hh
    · rw [List.mem_singleton.1 hh]
      dsimp only
      exact ⟨by omega, by omega, by omega, fun e he => by cases he⟩
    · cases hh
  | e :: r, a, n, ⟨h1, h2, h3⟩, h, hh => by
    rw [runsX_cons] at hh
    rcases List.mem_append.1 hh with hh | hh
    · split at hh
      · rw [List.mem_singleton.1 hh]
        have := tidy_le h3
        dsimp only
        refine ⟨by omega, by omega, by omega, fun x hx => .inl ?_⟩
        rcases List.mem_cons.1 hx with rfl | hx
        · omega
        · have := tidy_mem h3 x hx; omega
      · cases hh
    · obtain ⟨i1, i2, i3, i4⟩ := runs_mem h3 h hh
      refine ⟨by omega, i2, i3, fun x hx => ?_⟩
      rcases List.mem_cons.1 hx with rfl | hx
      · right; omega
      · exact i4 x hx
theorem runs_pair : ∀ {S : List Ext} {a n : Int}, Tidy a S n → (runsX a S n).Pairwise (fun x y => x.1 + x.2 ≤ y.1)
  | [], a, n, _ => by
    rw [runsX_nil]; split <;> simp
  | e :: r, a, n, ⟨h1, h2, h3⟩ => by
    rw [runsX_cons]
    have ih := runs_pair h3
    split
    · refine List.Pairwise.cons (fun x hx => ?_) ih
      have := runs_mem h3 x hx
      dsimp only
      omega
    · exact ih
theorem foldl_sum (l : List Ext) : ∀ s : Int, l.foldl (fun s e => s + e.2) s = s + l.foldl (fun s e => s + e.2) 0 := by
  induction l with
  | nil => intro s; simp
  | cons x l ih => intro s; rw [List.foldl_cons, ih, List.foldl_cons, ih (0 + x.2)]; omega
theorem sumX_cons (e : Ext) (l : List Ext) : sumX (e :: l) = e.2 + sumX l := by
  unfold sumX; rw [List.foldl_cons, foldl_sum]; omega
theorem sumX_append (l m : List Ext) : sumX (l ++ m) = sumX l + sumX m := by
  induction l with
  | nil => simp [sumX]
  | cons x l ih => rw [List.cons_append, sumX_cons, sumX_cons, ih]; omega
theorem sumX_perm {l m : List Ext} (h : l.Perm m) : sumX l = sumX m := by
  induction h with
  | nil => rfl
  | cons x _ ih => rw [sumX_cons, sumX_cons, ih]
  | swap x y l => rw [sumX_cons, sumX_cons, sumX_cons, sumX_cons]; omega
  | trans _ _ h1 h2 => rw [h1, h2]
theorem runs_sum : ∀ {S : List Ext} {a n : Int}, Tidy a S n → sumX S + sumX (runsX a S n) = n - a
  | [], a, n, h => by
    have : a ≤ n := h
    rw [runsX_nil]; split
    · rw [sumX_cons]; simp [sumX]
    · simp [sumX]; omega
  | e :: r, a, n, ⟨h1, h2, h3⟩ => by
    rw [runsX_cons, sumX_cons, sumX_append]
    have ih := runs_sum h3
    split
    · rw [sumX_cons]
      have : sumX [] = 0 := rfl
      dsimp only
      omega
    · have : sumX [] = 0 := rfl
      omega
/-- one more, where it fits -/
theorem runs_insert : ∀ {S : List Ext} {a n at_ L size : Int}, Tidy a S n → (at_, L) ∈ runsX a S n → 1 ≤ size → size ≤ L →
    ∃ S', S'.Perm ((at_, size) :: S) ∧ Tidy a S' n ∧ (runsX a S' n).length ≤ (runsX a S n).length ∧ ∀ h ∈ runsX a S' n, ∃ h' ∈ runsX a S n, h.2 ≤ h'.2
  | [], a, n, at_, L, size, ht, hm, h1, h2 => by
    rw [runsX_nil] at hm
    split at hm
    · rename_i hlt
      have he := List.mem_singleton.1 hm
      injection he with e1 e2
      subst e1 e2
      refine ⟨[(at_, size)], List.Perm.refl _, ⟨Int.le_refl _, h1, (by omega : at_ + size ≤ n)⟩, ?_, ?_⟩
      · rw [runsX_cons, runsX_nil, runsX_nil, if_neg (by dsimp only; omega), if_pos hlt]
        dsimp only
        split <;> simp
      · intro h hh
        rw [runsX_cons, runsX_nil, if_neg (by dsimp only; omega)] at hh
        dsimp only at hh
        split at hh
        · have hm' : h = (at_ + size, n - (at_ + size)) := by simpa using hh
          rw [hm', runsX_nil, if_pos hlt]
          exact ⟨_, List.mem_singleton.2 rfl, by dsimp only; omega⟩
        · simp at hh
    · cases hm
  | e :: r, a, n, at_, L, size, ⟨t1, t2, t3⟩, hm, h1, h2 => by
    rw [runsX_cons] at hm
    rcases List.mem_append.1 hm with hm | hm
    · split at hm
      · rename_i hlt
        have he := List.mem_singleton.1 hm
        injection he with e1 e2
        subst e1 e2
        refine ⟨(at_, size) :: e :: r, List.Perm.refl _, ⟨Int.le_refl _, h1, (by dsimp only; omega), t2, t3⟩, ?_, ?_⟩
        · rw [runsX_cons, runsX_cons, runsX_cons, if_neg (by dsimp only; omega), if_pos hlt]
          dsimp only
          split <;> simp
        · intro h hh
          rw [runsX_cons, runsX_cons, if_neg (by dsimp only; omega)] at hh
          dsimp only at hh
          rw [runsX_cons, if_pos hlt]
          rw [List.nil_append] at hh
          rcases List.mem_append.1 hh with hh | hh
          · split at hh
            · rw [List.mem_singleton.1 hh]
              exact ⟨_, List.mem_cons_self .., by dsimp only; omega⟩
            · cases hh
          · exact ⟨h, List.mem_cons_of_mem _ hh, Int.le_refl _⟩
      · cases hm
    · obtain ⟨S', p1, p2, p3, p4⟩ := runs_insert t3 hm h1 h2
      refine ⟨e :: S', (List.Perm.cons e p1).trans (List.Perm.swap _ _ _), ⟨t1, t2, p2⟩, ?_, ?_⟩
      · rw [runsX_cons, runsX_cons, List.length_append, List.length_append]; omega
      · intro h hh
        rw [runsX_cons] at hh ⊢
        rcases List.mem_append.1 hh with hh | hh
        · exact ⟨h, List.mem_append_left _ hh, Int.le_refl _⟩
        · obtain ⟨h', m1, m2⟩ := p4 h hh
          exact ⟨h', List.mem_append_right _ m1, m2⟩
theorem sortE_unique {l S : List Ext} {a n : Int} (hp : S.Perm l) (ht : Tidy a S n) : sortE l = S := by
  have h1 : (sortE l).Perm S := (sortE_perm l).trans hp.symm
  have hs := tidy_strict ht
  refine List.Perm.eq_of_pairwise (le := fun x y : Ext => x.1 ≤ y.1) (fun x y hx hy h h' => ?_) (sortE_sorted l) (hs.imp fun h => Int.le_of_lt h) h1
  have hx' : x ∈ S := h1.mem_iff.1 hx
  obtain ⟨i, hi, rfl⟩ := List.getElem_of_mem hx'
  obtain ⟨j, hj, rfl⟩ := List.getElem_of_mem hy
  rw [List.pairwise_iff_getElem] at hs
  rcases Nat.lt_trichotomy i j with hij | rfl | hij
  · have := hs i j hi hj hij; omega
  · rfl
  · have := hs j i hj hi hij; omega
theorem bestX_snoc (size : Int) (H : List Ext) (x : Ext) : bestX size (H ++ [x]) = if size ≤ x.2 ∧ ((bestX size H).2 = 0 ∨ x.2 < (bestX size H).2) then x else bestX size H := by
  unfold bestX; rw [List.foldl_append]; rfl
theorem snocE {p : List Ext → Prop} (h0 : p []) (h1 : ∀ L x, p L → p (L ++ [x])) (L : List Ext) : p L := by
  rw [← List.reverse_reverse L]
  induction L.reverse with
  | nil => exact h0
  | cons x L ih => rw [List.reverse_cons]; exact h1 _ _ ih
theorem best_inv (size : Int) (h1 : 1 ≤ size) (H : List Ext) : (bestX size H = (0, 0) ∧ ∀ h ∈ H, h.2 < size) ∨ (bestX size H ∈ H ∧ size ≤ (bestX size H).2 ∧ ∀ h ∈ H, size ≤ h.2 → (bestX size H).2 ≤ h.2) := by
  induction H using snocE with
  | h0 => exact .inl ⟨rfl, fun h hh => by cases hh⟩
  | h1 L x ih =>
    rw [bestX_snoc]
    rcases ih with ⟨e, hall⟩ | ⟨hm, hs, hall⟩
    · rw [e]
      by_cases hx : size ≤ x.2
      · rw [if_pos ⟨hx, .inl rfl⟩]
        refine .inr ⟨by simp, hx, fun h hh hsz => ?_⟩
        rcases List.mem_append.1 hh with hh | hh
        · have := hall h hh; omega
        · rw [List.mem_singleton.1 hh]; exact Int.le_refl _
      · rw [if_neg (fun h => hx h.1)]
        refine .inl ⟨rfl, fun h hh => ?_⟩
        rcases List.mem_append.1 hh with hh | hh
        · exact hall h hh
        · rw [List.mem_singleton.1 hh]; omega
    · by_cases hx : size ≤ x.2 ∧ ((bestX size L).2 = 0 ∨ x.2 < (bestX size L).2)
      · rw [if_pos hx]
        refine .inr ⟨by simp, hx.1, fun h hh hsz => ?_⟩
        rcases List.mem_append.1 hh with hh | hh
        · have := hall h hh hsz; omega
        · rw [List.mem_singleton.1 hh]; exact Int.le_refl _
      · rw [if_neg hx]
        refine .inr ⟨List.mem_append_left _ hm, hs, fun h hh hsz => ?_⟩
        rcases List.mem_append.1 hh with hh | hh
        · exact hall h hh hsz
        · rw [List.mem_singleton.1 hh] at hsz ⊢; omega
section
variable {n : Int} {l : List Ext}
theorem holes_runs (n : Int) (l : List Ext) : holesX n l = runsX 0 (sortE l) n := rfl
theorem holes_mem (h : chkX n l = 0) : ∀ x ∈ holesX n l, 0 ≤ x.1 ∧ 1 ≤ x.2 ∧ x.1 + x.2 ≤ n ∧ ∀ e ∈ l, x.1 + x.2 ≤ e.1 ∨ e.1 + e.2 ≤ x.1 := fun x hx => by
  obtain ⟨i1, i2, i3, i4⟩ := runs_mem (tidy_of h) x hx
  exact ⟨i1, i2, i3, fun e he => i4 e ((sortE_perm l).mem_iff.2 he)⟩
theorem holds_sum (h : chkX n l = 0) : sumX l + sumX (holesX n l) = n := by
  have h1 := runs_sum (tidy_of h)
  rw [sumX_perm (sortE_perm l)] at h1
  rw [holes_runs]; omega
theorem holds_bad (h : chkX n l = 0) : ∀ e ∈ l, badX n e = false := fun e he => by
  obtain ⟨_, _, _, _, h5⟩ := chkX_ok h
  obtain ⟨j, hj, rfl⟩ := List.getElem_of_mem he
  exact (h5 j hj).1
theorem holds_chk (h : chkX n l = 0) (hl : (l ++ holesX n l).length ≤ 200) : chkX n (l ++ holesX n l) = 0 := by
  obtain ⟨h0, h1, _, _, _⟩ := chkX_ok h
  have hm := holes_mem h
  refine chkX_of h0 h1 hl (fun e he => ?_) ?_
  · rcases List.mem_append.1 he with he | he
    · exact holds_bad h e he
    · have := hm e he; exact badX_of (by omega)
  · rw [List.pairwise_append]
    refine ⟨chkX_pair h, (runs_pair (tidy_of h)).imp fun hxy => hitX_false.2 (.inr hxy), fun e he x hx => ?_⟩
    have := (hm x hx).2.2.2 e he
    exact hitX_false.2 (by omega)
theorem more_chk (h : chkX n l = 0) {at_ L size : Int} (hm : (at_, L) ∈ holesX n l) (h1 : 1 ≤ size) (h2 : size ≤ L) (hl : l.length + 1 ≤ 200) : chkX n (l ++ [(at_, size)]) = 0 ∧ chkX n ((at_, size) :: l) = 0 := by
  obtain ⟨o0, o1, _, _, _⟩ := chkX_ok h
  obtain ⟨m1, m2, m3, m4⟩ := holes_mem h _ hm
  dsimp only at m1 m2 m3 m4
  have hb : ∀ e ∈ (at_, size) :: l, badX n e = false := fun e he => by
    rcases List.mem_cons.1 he with rfl | he
    · exact badX_of (by dsimp only; omega)
    · exact holds_bad h e he
  have hx : ∀ e ∈ l, hitX (at_, size) e = false := fun e he => hitX_false.2 (by have := m4 e he; dsimp only; omega)
  constructor
  · refine chkX_of o0 o1 (by simp; omega) (fun e he => hb e (by simp at he ⊢; rcases he with h | h; exact .inr h; exact .inl h)) ?_
    rw [List.pairwise_append]
    refine ⟨chkX_pair h, by simp, fun e he x hx' => ?_⟩
    rw [List.mem_singleton.1 hx', hitX_symm]
    exact hx e he
  · refine chkX_of o0 o1 (by simp; omega) hb ?_
    exact List.Pairwise.cons hx (chkX_pair h)
theorem fit_none (h : chkX n l = 0) {size : Int} (hf : fitE n l size ≠ 0) : ∀ x ∈ holesX n l, 1 ≤ size → x.2 < size := fun x hx hs => by
  obtain ⟨o0, o1, _, _, _⟩ := chkX_ok h
  have hm := holes_mem h x hx
  unfold fitE at hf
  rw [if_pos h] at hf
  by_cases h1 : size < 1 ∨ 6400 < size
  · omega
  · rw [if_neg h1] at hf
    rcases best_inv size hs (holesX n l) with ⟨e, hall⟩ | ⟨_, h2, _⟩
    · exact hall x hx
    · rw [if_neg (by omega)] at hf; exact absurd rfl hf
theorem fit_some (h : chkX n l = 0) {size : Int} (hf : fitE n l size = 0) : ∃ L, (fitA n l size, L) ∈ holesX n l ∧ 1 ≤ size ∧ size ≤ L ∧ (∀ x ∈ holesX n l, size ≤ x.2 → L ≤ x.2) ∧ (∀ x ∈ holesX n l, x.1 = fitA n l size → x.2 = L) := by
  have hA : fitA n l size = (bestX size (holesX n l)).1 := by unfold fitA; rw [if_pos hf]
  unfold fitE at hf
  rw [if_pos h] at hf
  by_cases h1 : size < 1 ∨ 6400 < size
  · rw [if_pos h1] at hf; cases hf
  · rw [if_neg h1] at hf
    have hs : 1 ≤ size := by omega
    rcases best_inv size hs (holesX n l) with ⟨e, _⟩ | ⟨hm, h2, h3⟩
    · rw [e] at hf; cases hf
    · refine ⟨(bestX size (holesX n l)).2, by rw [hA]; exact hm, hs, h2, h3, fun x hx hxa => ?_⟩
      rw [hA] at hxa
      have hp := runs_pair (tidy_of h)
      rw [← holes_runs, List.pairwise_iff_getElem] at hp
      obtain ⟨i, hi, rfl⟩ := List.getElem_of_mem hx
      obtain ⟨j, hj, hjb⟩ := List.getElem_of_mem hm
      rw [← hjb] at hxa ⊢
      have pi := holes_mem h _ (List.getElem_mem hi)
      have pj := holes_mem h _ (List.getElem_mem hj)
      rcases Nat.lt_trichotomy i j with hij | rfl | hij
      · have := hp i j hi hj hij; omega
      · rfl
      · have := hp j i hj hi hij; omega
theorem mostX_snoc (H : List Ext) (x : Ext) : mostX (H ++ [x]) = max (mostX H) x.2 := by
  unfold mostX; rw [List.foldl_append]; rfl
theorem mostX_mem (H : List Ext) : 0 ≤ mostX H ∧ (∀ x ∈ H, x.2 ≤ mostX H) ∧ ∀ M, 0 ≤ M → (∀ x ∈ H, x.2 ≤ M) → mostX H ≤ M := by
  induction H using snocE with
  | h0 => exact ⟨Int.le_refl _, fun x hx => (by cases hx), fun M hM _ => hM⟩
  | h1 L x ih =>
    obtain ⟨i0, i1, i2⟩ := ih
    rw [mostX_snoc]
    refine ⟨by omega, fun y hy => ?_, fun M hM hall => ?_⟩
    · rcases List.mem_append.1 hy with hy | hy
      · have := i1 y hy; omega
      · rw [List.mem_singleton.1 hy]; omega
    · have := i2 M hM (fun y hy => hall y (List.mem_append_left _ hy))
      have := hall x (by simp)
      omega
theorem sum_mem {H : List Ext} (hp : ∀ x ∈ H, 0 ≤ x.2) : 0 ≤ sumX H ∧ ∀ x ∈ H, x.2 ≤ sumX H := by
  induction H with
  | nil => exact ⟨Int.le_refl _, fun x hx => by cases hx⟩
  | cons y r ih =>
    obtain ⟨i0, i1⟩ := ih (fun x hx => hp x (List.mem_cons_of_mem _ hx))
    have := hp y (List.mem_cons_self ..)
    rw [sumX_cons]
    refine ⟨by omega, fun x hx => ?_⟩
    rcases List.mem_cons.1 hx with rfl | hx
    · omega
    · have := i1 x hx; omega
/-- what is most is free -/
theorem most_free (h : chkX n l = 0) : mostX (holesX n l) ≤ n - sumX l := by
  have hs := holds_sum h
  have hm := sum_mem (H := holesX n l) (fun x hx => by have := holes_mem h x hx; omega)
  exact (mostX_mem _).2.2 _ (by omega) (fun x hx => by have := hm.2 x hx; omega)
theorem fit_most (h : chkX n l = 0) {size : Int} (hf : fitE n l size ≠ 0) : size < 1 ∨ mostX (holesX n l) < size := by
  by_cases h1 : size < 1
  · exact .inl h1
  · right
    have := (mostX_mem (holesX n l)).2.2 (size - 1) (by omega) (fun x hx => by have := fit_none h hf x hx (by omega); omega)
    omega
theorem more_stat (h : chkX n l = 0) {at_ L size : Int} (hm : (at_, L) ∈ holesX n l) (h1 : 1 ≤ size) (h2 : size ≤ L) :
    mostX (holesX n ((at_, size) :: l)) ≤ mostX (holesX n l) ∧ (holesX n ((at_, size) :: l)).length ≤ (holesX n l).length ∧ sumX ((at_, size) :: l) = size + sumX l := by
  obtain ⟨S', p1, p2, p3, p4⟩ := runs_insert (tidy_of h) hm h1 h2
  have hu : sortE ((at_, size) :: l) = S' := sortE_unique (p1.trans (List.Perm.cons _ (sortE_perm l))) p2
  rw [holes_runs n (_ :: l), hu]
  refine ⟨(mostX_mem _).2.2 _ (mostX_mem _).1 (fun x hx => ?_), p3, sumX_cons _ _⟩
  obtain ⟨x', m1, m2⟩ := p4 x hx
  have := (mostX_mem (holesX n l)).2.1 x' m1
  omega
end
end Go.Proofs.YtnceheienlekaaaGreatDoor
/- The heap: Alloc. -/
namespace Go.Proofs.YtnceheienlekaaaGreatDoor
open Go.RowKit

section
variable {w0 w : World} {F : Nat → Prop} {h : Nat} {l : Bytes}
/-- a heap's image, for a walk that writes into it -/
theorem Hp.rowW (hp : Hp w0 w F h l) : ∃ g cap cur, w.cell? ⟨h, 0, none⟩ = some (.slice (some ⟨g, 0, none⟩) l.length cap) ∧ w.heap[g]? = some (.cells cur 5 (0, 0)) ∧ cur.size = cap ∧ l.length ≤ cap ∧ cap ≤ maxLen ∧ Row w 5 g cap l ∧ F g ∧
    ∀ o (bs : Bytes), o + bs.length ≤ l.length → Hp w0 (w.setRow g (setB cur o (bs.map bv))) F h (splice l o bs) ∧ Keep F w (w.setRow g (setB cur o (bs.map bv))) := by
  obtain ⟨g, cap, h1, h2, h3⟩ := hp.hd
  have h2' := h2
  obtain ⟨cur, e1, e2, e3, e4, e5⟩ := h2'
  have hne : h ≠ g := ne_row h1 h2 (by decide)
  refine ⟨g, cap, cur, by simp [World.cell?, h1], e1, e4, e2, e3, h2, h3, fun o bs hb => ?_⟩
  have hl := splice_len l bs o hb
  have hsz : (w.setRow g (setB cur o (bs.map bv))).heap.size = w.heap.size := by simp [World.setRow]
  have hk : Keep F w (w.setRow g (setB cur o (bs.map bv))) := ⟨rfl, rfl, rfl, Nat.le_of_eq hsz.symm, fun k _ hn => setRow_other w g _ _ (fun e => hn (e ▸ h3))⟩
  refine ⟨⟨⟨g, cap, by rw [hl]; exact (setRow_other w g _ _ hne).trans h1, h2.set_ o bs hb cur e1, h3⟩, hp.fh, by rw [hl]; exact hp.len, hp.new, fun k hk' => by rw [hsz]; exact hp.flt k hk', hkeep_below hp.bel hk hp.new⟩, hk⟩
end
/-- the first handle that is free (0: none), of the last j -/
def fH (l : Bytes) : Nat → Nat
  | 0 => 0
  | j + 1 => if hasE (rawE l (39 - j)) = true then fH l j else 40 - j
theorem fH_le (l : Bytes) : ∀ j, j ≤ 40 → fH l j ≤ 40
  | 0, _ => by simp [fH]
  | j + 1, hj => by
    unfold fH; split
    · exact fH_le l j (by omega)
    · omega
theorem fH_spec (l : Bytes) : ∀ j, j ≤ 40 → (fH l j = 0 ∧ ∀ k, 40 - j ≤ k → k < 40 → hasE (rawE l k) = true) ∨ (∃ k, 40 - j ≤ k ∧ k < 40 ∧ fH l j = k + 1 ∧ hasE (rawE l k) = false ∧ ∀ i, 40 - j ≤ i → i < k → hasE (rawE l i) = true)
  | 0, _ => .inl ⟨rfl, fun k h1 h2 => by omega⟩
  | j + 1, hj => by
    cases hh : hasE (rawE l (39 - j)) with
    | true =>
      have e : fH l (j + 1) = fH l j := by simp [fH, hh]
      rw [e]
      rcases fH_spec l j (by omega) with ⟨h0, hall⟩ | ⟨k, k1, k2, k3, k4, k5⟩
      · refine .inl ⟨h0, fun k h1 h2 => ?_⟩
        by_cases hk : k = 39 - j
        · rw [hk]; exact hh
        · exact hall k (by omega) h2
      · refine .inr ⟨k, by omega, k2, k3, k4, fun i h1 h2 => ?_⟩
        by_cases hi : i = 39 - j
        · rw [hi]; exact hh
        · exact k5 i (by omega) h2
    | false =>
      have e : fH l (j + 1) = 40 - j := by simp [fH, hh]
      exact .inr ⟨39 - j, by omega, by omega, by omega, hh, fun i h1 h2 => by omega⟩
/-- the fault of Alloc; where; the handle; the image behind it -/
def allocE (l : Bytes) (n t : Int) : Nat := if lenB n = false ∨ tagB t = false then 1 else if fH l 40 = 0 ∨ fitE ((l.length : Int) - 288) (takenL l) n ≠ 0 then 4 else 0
def allocA (l : Bytes) (n : Int) : Int := fitA ((l.length : Int) - 288) (takenL l) n + 288
def allocH (l : Bytes) (n t : Int) : Int := if allocE l n t = 0 then fH l 40 else 0
def allocL (l : Bytes) (n t : Int) : Bytes := if allocE l n t = 0 then splice (putEnt l (fH l 40) (allocA l n) n t) (allocA l n).toNat (List.replicate n.toNat 0) else l
theorem alloc_in {l : Bytes} {n : Int} (h : fitE ((l.length : Int) - 288) (takenL l) n = 0) : 288 ≤ allocA l n ∧ allocA l n + n ≤ l.length := by
  have hc : chkX ((l.length : Int) - 288) (takenL l) = 0 := by
    unfold fitE at h
    by_cases hc : chkX ((l.length : Int) - 288) (takenL l) = 0
    · exact hc
    · rw [if_neg hc] at h; exact absurd h hc
  obtain ⟨L, m1, m2, m3, _, _⟩ := fit_some hc h
  have := holes_mem hc _ m1
  unfold allocA
  dsimp only at this
  omega
section
variable {w0 w : World} {F : Nat → Prop} {h : Nat} {l : Bytes}
theorem halloc_e1 (n t : Int) (_hp : Hp w0 w F h l) (hbad : lenB n = false ∨ tagB t = false) :
    Calls Tryz.prog 7 #[.pointer (some ⟨h, 0, none⟩), .int .i64 n, .int .i64 t] w fun e w' => e = .returned (.tuple #[.int .i64 0, .iface 59 (.int .i64 1)]) ∧ w = w' := by
  cases h1 : lenB n with
  | false =>
    clear hbad
    go_enter Tryz.func7, Tryz.ntmps7
    go_wp2_with fail
    refine (len_any _ _).mono ?_
    rintro e w' ⟨rfl, rfl⟩
    rw [h1]
    go_wp2_with fail
    go_ret2
    exact ⟨rfl, rfl⟩
  | true =>
    have h2 : tagB t = false := by simpa [h1] using hbad
    clear hbad
    go_enter Tryz.func7, Tryz.ntmps7
    go_wp2_with fail
    refine (len_any _ _).mono ?_
    rintro e w' ⟨rfl, rfl⟩
    rw [h1]
    go_wp2_with fail
    refine (tag_any _ _).mono ?_
    rintro e w' ⟨rfl, rfl⟩
    rw [h2]
    go_wp2_with fail
    go_ret2
    exact ⟨rfl, rfl⟩
set_option maxRecDepth 100000 in
theorem halloc_go (n t : Int) (hp : Hp w0 w F h l) (h1 : lenB n = true) (h2 : tagB t = true) :
    Calls Tryz.prog 7 #[.pointer (some ⟨h, 0, none⟩), .int .i64 n, .int .i64 t] w fun e w' => e = .returned (.tuple #[.int .i64 (allocH l n t), errV (allocE l n t)]) ∧ ∃ F', HpM w0 w w' F F' h (allocL l n t) := by
  have hb := rightB_true.1 hp.len
  have hnb := lenB_true.1 h1
  have HP := Hidden.mk hp
  have HG : Hidden (∀ (j : Nat), j < 40 → ∀ W, Hp w0 W F h l → ∃ g cap, W.cell? ⟨h, 0, none⟩ = some (.slice (some ⟨g, 0, none⟩) l.length cap) ∧ Calls Tryz.prog 26 #[.slice (some ⟨g, 0, none⟩) l.length cap, .int .i64 ((39 - j : Nat) + 1 : Int)] W fun e w' => ∃ a b c d : Int, e = .returned (.tuple #[.agg #[.int .i64 a, .int .i64 b, .int .i64 c, .int .i64 d], errV (if hasE (rawE l (39 - j)) = true then 0 else 5)]) ∧ Below W.heap.size W w') := ⟨fun j hj W hW => by
    obtain ⟨g, cap, c0, hcap, hrow, _⟩ := hW.open_
    refine ⟨g, cap, c0, (iget_ans (some ⟨g, 0, none⟩) l.length cap l _ W rfl hW.len hcap hrow.rd).mono ?_⟩
    rintro e w' ⟨rfl, hb'⟩
    have e : hE l ((39 - j : Nat) + 1 : Int) = if hasE (rawE l (39 - j)) = true then 0 else 5 := by
      cases hh : hasE (rawE l (39 - j)) with
      | true => rw [(hE_has (by omega) hh).1]; rfl
      | false => rw [hE_hasnt (by omega) hh]; rfl
    rw [e]
    exact ⟨_, _, _, _, rfl, hb'⟩⟩
  have HE : Hidden (allocE l n t = if fH l 40 = 0 ∨ fitE ((l.length : Int) - 288) (takenL l) n ≠ 0 then 4 else 0) := ⟨by unfold allocE; rw [if_neg (by simp [h1, h2])]⟩
  have HH : Hidden (allocH l n t = if allocE l n t = 0 then (fH l 40 : Int) else 0) := ⟨rfl⟩
  have HL : Hidden (allocL l n t = if allocE l n t = 0 then splice (putEnt l (fH l 40) (allocA l n) n t) (allocA l n).toNat (List.replicate n.toNat 0) else l) := ⟨rfl⟩
  clear hp
  go_enter Tryz.func7, Tryz.ntmps7
  go_wp2_with fail
  refine (len_any _ _).mono ?_
  rintro e w' ⟨rfl, rfl⟩
  rw [h1]
  go_wp2_with fail
  refine (tag_any _ _).mono ?_
  rintro e w' ⟨rfl, rfl⟩
  rw [h2]
  go_wp2_with fail
  go_loopg [8, 9] 40 (fun q v i wr => ∃ j : Nat, j ≤ 40 ∧ q = 40 - j ∧ i = .int .i64 (40 - (j : Int)) ∧ v = .int .i64 (fH l j : Int) ∧ Hidden (Below w.heap.size w wr))
  case atStart => exact ⟨0, by omega, rfl, rfl, rfl, ⟨Below.refl _ _⟩⟩
  case round =>
    obtain ⟨j, hj, rfl, rfl, rfl, hst⟩ := hrel
    by_cases hlt : j < 40
    · obtain ⟨g, cap, y0, hget⟩ := HG.out j hlt wr (HP.out.below hst.out)
      have e1 : ((39 - j : Nat) + 1 : Int) = 40 - (j : Int) := by omega
      rw [e1] at hget
      have HGT := Hidden.mk hget
      have HS : Hidden (fH l (j + 1) = if hasE (rawE l (39 - j)) = true then fH l j else 40 - j) := ⟨rfl⟩
      have t0 : decide (1 ≤ 40 - (j : Int)) = true := by simp; omega
      have s1 : IntKind.i64.wrap (40 - (j : Int) - 1) = 40 - ((j + 1 : Nat) : Int) := by rw [IntWalk.i64_in _ (by omega)]; omega
      generalize fH l j = fj at *
      clear hget e1
      go_wp2_with fail
      refine HGT.out.mono ?_
      rintro e w1 ⟨a, b, c, d, rfl, hb1⟩
      have hB1 := hst.out.trans (hb1.mono hst.out.size)
      have HB := Hidden.mk (hB1.alloc hB1.size (.cells #[.int .i64 a, .int .i64 b, .int .i64 c, .int .i64 d] 63))
      clear hb1 hB1 hst HGT
      cases hh : hasE (rawE l (39 - j)) with
      | true =>
        rw [if_pos rfl]
        have HS2 : Hidden (fH l (j + 1) = fj) := ⟨by rw [HS.out, if_pos hh]⟩
        rw [show errV 0 = Value.nilIface from rfl]
        clear hh HS
        go_wp2_with fail
        go_roundg (40 - (j + 1))
        case measure => omega
        case rel => exact ⟨j + 1, by omega, rfl, rfl, by rw [HS2.out], HB⟩
      | false =>
        rw [if_neg (by decide)]
        have HS2 : Hidden (fH l (j + 1) = 40 - j) := ⟨by rw [HS.out, if_neg (by rw [hh]; decide)]⟩
        rw [show errV 5 = .iface 59 (.int .i64 5) from rfl]
        clear hh HS
        go_wp2_with fail
        go_roundg (40 - (j + 1))
        case measure => omega
        case rel => exact ⟨j + 1, by omega, rfl, rfl, by rw [HS2.out]; congr 1; omega, HB⟩
    · obtain rfl : j = 40 := by omega
      have HP2 := Hidden.mk (HP.out.below hst.out)
      have HT := Hidden.mk (htaken_any HP2.out)
      have t0 : decide (1 ≤ 40 - ((40 : Nat) : Int)) = false := by decide
      have hfl := fH_le l 40 (Nat.le_refl _)
      have HW1 := Hidden.mk hst.out
      clear hst HG
      go_wp2_with fail
      refine HT.out.mono ?_
      rintro e w1 ⟨A, m, c, rfl, hm, hmc, hrx, hb1⟩
      have HW2 := Hidden.mk (HW1.out.trans (hb1.mono HW1.out.size))
      have HF := Hidden.mk (xfit_any ((l.length : Int) - 288) A m c (takenL l) n w1 hm hmc hrx)
      clear hb1 hrx HT HW1 HP2 t0
      have HIN : Hidden (fitE ((l.length : Int) - 288) (takenL l) n = 0 → 288 ≤ allocA l n ∧ allocA l n + n ≤ l.length) := ⟨alloc_in⟩
      have HAD : Hidden (allocA l n = fitA ((l.length : Int) - 288) (takenL l) n + 288) := ⟨rfl⟩
      generalize fitE ((l.length : Int) - 288) (takenL l) n = fe at *
      generalize fitA ((l.length : Int) - 288) (takenL l) n = fa at *
      generalize allocA l n = aa at *
      generalize fH l 40 = fh at *
      go_wp2_with fail
      refine HF.out.mono ?_
      rintro e w2 ⟨rfl, hb2⟩
      have HW3 := Hidden.mk (HW2.out.trans (hb2.mono HW2.out.size))
      clear hb2 HF HW2
      by_cases hz : fh = 0
      · have hae : allocE l n t = 4 := by rw [HE.out, if_pos (.inl hz)]
        have HAH : Hidden (allocE l n t = 4 ∧ allocH l n t = 0 ∧ allocL l n t = l) := ⟨hae, by rw [HH.out, hae]; rfl, by rw [HL.out, hae]; rfl⟩
        clear hae
        subst hz
        have HFIN := Hidden.mk (HP.out.same HW3.out)
        generalize errV fe = ev at *
        clear HE HH HL
        go_wp2_with fail
        go_ret2
        exact ⟨by rw [HAH.out.1, HAH.out.2.1]; rfl, _, by rw [HAH.out.2.2]; exact HFIN.out⟩
      · by_cases hfe : fe = 0
        · have hae : allocE l n t = 0 := by rw [HE.out, if_neg (by omega)]
          have hah : allocH l n t = fh := by rw [HH.out, hae]; rfl
          have hin := HIN.out hfe
          rw [hfe, show errV 0 = Value.nilIface from rfl]
          have t1 : (fh == 0) = false := by simpa using hz
          have t2 : ((fh : Int) == 0) = false := by simpa using hz
          have s1 : IntKind.i64.wrap (fa + 288) = aa := by rw [HAD.out, IntWalk.i64_in _ (by have := HAD.out; omega)]
          have HLL : Hidden (allocL l n t = splice (putEnt l fh aa n t) aa.toNat (List.replicate n.toNat 0)) := ⟨by rw [HL.out, hae]; rfl⟩
          have HAH := Hidden.mk (And.intro hae hah)
          clear hae hah
          obtain ⟨a, rfl⟩ := Int.eq_ofNat_of_zero_le (show 0 ≤ aa by omega)
          obtain ⟨nn, rfl⟩ := Int.eq_ofNat_of_zero_le (show 0 ≤ n by omega)
          have hal : allocL l nn t = splice (putEnt l fh a nn t) a (List.replicate nn 0) := HLL.out
          have hwb : withinB l.length (a : Int) (nn : Int) = true := withinB_true.2 (by omega)
          have hal1 : Below w2.heap.size w2 (w2.alloc (.cells #[.int .i64 fh, .int .i64 a, .int .i64 nn, .int .i64 t] 63)) := (Below.refl _ _).alloc (Nat.le_refl _) _
          have hp3 := HP.out.below (HW3.out.trans (hal1.mono HW3.out.size))
          have HPUT := Hidden.mk (fun (W : World) (hW : Hp w0 W F h l) => hput_ok (fh : Int) (a : Int) (nn : Int) t hW (handleB_true.2 (by omega)) h2 h1 hwb)
          have hpl : (putEnt l fh a nn t).length = l.length := putEnt_len l fh a nn t (by omega) (by omega) (by omega)
          have HPL := Hidden.mk hpl
          have HALL := Hidden.mk hal
          have hf := fourAt_one w2 fh a nn t 63
          have HW4 := Hidden.mk (HW3.out.trans (hal1.mono HW3.out.size))
          have HP4 := Hidden.mk hp3
          generalize putEnt l fh a nn t = l1 at *
          clear hal hal1 hp3 hwb hpl HE HH HL HIN HAD hfe hz HLL
          go_wp2_with fail
          generalize w2.alloc (.cells #[.int .i64 fh, .int .i64 a, .int .i64 nn, .int .i64 t] 63) = w3 at *
          refine (HPUT.out _ HP4.out).mono ?_
          rintro e w4 ⟨rfl, F4, hm4⟩
          obtain ⟨f0, f1, f2, f3⟩ := hf
          have hfl4 : w2.heap.size < w3.heap.size := block_lt_of_cell f0
          have hno : ¬ F w2.heap.size := fun hk => by have := HP.out.flt _ hk; have := HW3.out.size; omega
          have hk4 := hm4.kp.block _ hfl4 hno
          have g0 := (World.cell?_of_block (w := w3) (a := ⟨w2.heap.size, 0, none⟩) hk4).trans f0
          have g1 := (World.cell?_of_block (w := w3) (a := ⟨w2.heap.size, 1, none⟩) hk4).trans f1
          have g2 := (World.cell?_of_block (w := w3) (a := ⟨w2.heap.size, 2, none⟩) hk4).trans f2
          have g3 := (World.cell?_of_block (w := w3) (a := ⟨w2.heap.size, 3, none⟩) hk4).trans f3
          obtain ⟨gi, ci, cur4, y0, -, -, hci, -, -, -, -⟩ := hm4.hp.rowW
          rw [HPL.out] at y0 hci
          have HOF := Hidden.mk (hof_any (h := h) gi ci a nn fh t w4 ⟨_, y0⟩ (by omega) (by omega) (by omega))
          have HM := Hidden.mk (((HP.out.same HW4.out).trans hm4))
          have HY0 := Hidden.mk y0
          clear f0 f1 f2 f3 hfl4 hno hk4 hm4 HPUT
          go_wp2_with fail
          refine HOF.out.mono ?_
          rintro e w5 ⟨rfl, hb5⟩
          have hm5 := HM.out.trans (HM.out.hp.same hb5)
          obtain ⟨g5, c5, cur5, z0, z1, z2, z3, -, -, -, z4⟩ := hm5.hp.rowW
          have hyz := ((hb5.cell (p := ⟨h, 0, none⟩) (block_lt_of_cell HY0.out)).trans HY0.out).symm.trans z0
          have hyz := Option.some.inj hyz
          injection hyz with q1 q2 q3
          injection q1 with q1
          injection q1 with q1
          subst q1 q3
          rw [HPL.out] at z3
          have hclear := fun ty => run_clear_row w5 gi a nn (ci - a) cur5 _ z1 (by omega) (by omega) ty
          have hz4 := z4 a (List.replicate nn 0) (by rw [HPL.out]; simp; omega)
          have HFIN := Hidden.mk (hm5.trans (HpM.mk hz4.1 hz4.2 (fun k hk => .inl hk)))
          clear z0 z2 z3 z4 hz4 hm5 hb5 HOF HM HY0 y0 q2
          go_wp2_with fail
          go_ret2
          exact ⟨by rw [HAH.out.1, HAH.out.2]; rfl, _, by rw [HALL.out]; have hF := HFIN.out; rw [List.map_replicate] at hF; exact hF⟩
        · have hae : allocE l n t = 4 := by rw [HE.out, if_pos (.inr hfe)]
          have HAH : Hidden (allocE l n t = 4 ∧ allocH l n t = 0 ∧ allocL l n t = l) := ⟨hae, by rw [HH.out, hae]; rfl, by rw [HL.out, hae]; rfl⟩
          clear hae
          have hev : errV fe = .iface 59 (.int .i64 fe) := by unfold errV; rw [if_neg hfe]
          rw [hev]
          have t1 : (fh == 0) = false := by simpa using hz
          have t2 : ((fh : Int) == 0) = false := by simpa using hz
          have HFIN := Hidden.mk (HP.out.same HW3.out)
          clear HE HH HL hfe hz hev
          go_wp2_with fail
          go_ret2
          exact ⟨by rw [HAH.out.1, HAH.out.2.1]; rfl, _, by rw [HAH.out.2.2]; exact HFIN.out⟩
theorem halloc_any (n t : Int) (hp : Hp w0 w F h l) :
    Calls Tryz.prog 7 #[.pointer (some ⟨h, 0, none⟩), .int .i64 n, .int .i64 t] w fun e w' => e = .returned (.tuple #[.int .i64 (allocH l n t), errV (allocE l n t)]) ∧ ∃ F', HpM w0 w w' F F' h (allocL l n t) := by
  by_cases hbad : lenB n = false ∨ tagB t = false
  · have h1 : allocE l n t = 1 := by unfold allocE; rw [if_pos hbad]
    have h2 : allocH l n t = 0 := by unfold allocH; rw [h1]; rfl
    have h3 : allocL l n t = l := by unfold allocL; rw [h1]; rfl
    rw [h1, h2, h3]
    refine (halloc_e1 n t hp hbad).mono ?_
    rintro e w' ⟨rfl, rfl⟩
    exact ⟨rfl, F, hp.same (Below.refl _ _)⟩
  · exact halloc_go n t hp (by cases hx : lenB n <;> simp_all) (by cases hx : tagB t <;> simp_all)
end
end Go.Proofs.YtnceheienlekaaaGreatDoor
/- The plain law of heaps: what stays right, what has room. No walk here. -/
namespace Go.Proofs.YtnceheienlekaaaGreatDoor
open Go.RowKit

/-- where a run is free there is one of the runs -/
theorem run_cover : ∀ {S : List Ext} {a n p s : Int}, Tidy a S n → a ≤ p → p + s ≤ n → 1 ≤ s → (∀ e ∈ S, p + s ≤ e.1 ∨ e.1 + e.2 ≤ p) → ∃ h ∈ runsX a S n, h.1 ≤ p ∧ p + s ≤ h.1 + h.2
  | [], a, n, p, s, ht, h1, h2, h3, _ => by
    rw [runsX_nil, if_pos (by omega)]
    exact ⟨_, List.mem_singleton.2 rfl, by dsimp only; omega, by dsimp only; omega⟩
  | e :: r, a, n, p, s, ⟨t1, t2, t3⟩, h1, h2, h3, hall => by
    rw [runsX_cons]
    rcases hall e (List.mem_cons_self ..) with h | h
    · rw [if_pos (by omega)]
      exact ⟨_, List.mem_append_left _ (List.mem_singleton.2 rfl), by dsimp only; omega, by dsimp only; omega⟩
    · obtain ⟨x, hx, hh⟩ := run_cover t3 h h2 h3 (fun y hy => hall y (List.mem_cons_of_mem _ hy))
      exact ⟨x, List.mem_append_right _ hx, hh⟩
theorem fit_exists {n : Int} {l : List Ext} {p size : Int} (h : chkX n l = 0) (h0 : 0 ≤ p) (h1 : 1 ≤ size) (h2 : p + size ≤ n) (hall : ∀ e ∈ l, p + size ≤ e.1 ∨ e.1 + e.2 ≤ p) : fitE n l size = 0 := by
  obtain ⟨o0, o1, _⟩ := chkX_ok h
  obtain ⟨x, hx, hh⟩ := run_cover (tidy_of h) h0 h2 h1 (fun e he => hall e ((sortE_perm l).mem_iff.1 he))
  rw [← holes_runs] at hx
  refine Classical.byContradiction fun hf => ?_
  have := fit_none h hf x hx h1
  omega
theorem takenL_mem {l : Bytes} {e : Ext} : e ∈ takenL l ↔ ∃ k, k < 40 ∧ hasE (rawE l k) = true ∧ e = ((rAt (rawE l k) : Int) - 288, (rLen (rawE l k) : Int)) := by
  unfold takenL entriesL entsL
  simp only [List.map_map, List.mem_map, List.mem_filter, List.mem_range, Function.comp_apply, takeX]
  constructor
  · rintro ⟨k, ⟨h1, h2⟩, rfl⟩; exact ⟨k, h1, h2, rfl⟩
  · rintro ⟨k, h1, h2, rfl⟩; exact ⟨k, ⟨h1, h2⟩, rfl⟩
theorem overE_hit {r s : Bytes} (h : overE r s = false) : hitX ((rAt r : Int) - 288, (rLen r : Int)) ((rAt s : Int) - 288, (rLen s : Int)) = false := by
  rw [hitX_false]
  unfold overE at h
  simp only [Bool.and_eq_false_iff, decide_eq_false_iff_not] at h
  dsimp only
  omega
/-- the extents of a right image are right -/
theorem good_chk {l : Bytes} (hg : Good l) : chkX ((l.length : Int) - 288) (takenL l) = 0 := by
  have hb := hg.bd
  refine chkX_of (by omega) (by omega) (by have := takenL_len l; omega) (fun e he => ?_) ?_
  · obtain ⟨k, hk, hh, rfl⟩ := takenL_mem.1 he
    have := strayE_false (hg.s.fit k hk hh)
    exact badX_of (by dsimp only; omega)
  · unfold takenL entriesL entsL
    rw [List.map_map, List.pairwise_map]
    have hp : (List.range 40).Pairwise (fun a b => a < b) := List.pairwise_lt_range
    have hf := hp.filter (fun k => hasE (rawE l k))
    refine hf.imp_of_mem ?_
    intro a b ha hb' hab
    have ha := List.mem_filter.1 ha
    have hb2 := List.mem_filter.1 hb'
    have h1 := List.mem_range.1 hb2.1
    have := hg.s.apart b h1 a hab hb2.2 ha.2
    rw [overE_symm] at this
    exact overE_hit this
/-- what lies behind the head is not the head's -/
theorem rawE_tail (l x : Bytes) (o j : Nat) (ho : 288 ≤ o) (hx : o + x.length ≤ l.length) (hj : j < 40) : rawE (splice l o x) j = rawE l j := by
  apply List.ext_getElem?
  intro q
  unfold rawE
  rw [List.getElem?_take, List.getElem?_drop, List.getElem?_take, List.getElem?_drop]
  by_cases hq : q < 5
  · rw [if_pos hq, if_pos hq, splice_at _ _ _ _ hx, if_neg (by omega)]
  · rw [if_neg hq, if_neg hq]
theorem rawR_tail (l x : Bytes) (o j : Nat) (ho : 288 ≤ o) (hx : o + x.length ≤ l.length) (hj : j < 8) : rawR (splice l o x) j = rawR l j := by
  apply List.ext_getElem?
  intro q
  unfold rawR
  rw [List.getElem?_take, List.getElem?_drop, List.getElem?_take, List.getElem?_drop]
  by_cases hq : q < 11
  · rw [if_pos hq, if_pos hq, splice_at _ _ _ _ hx, if_neg (by omega)]
  · rw [if_neg hq, if_neg hq]
theorem rawE_root (l x : Bytes) (i j : Nat) (hx : x.length = 11) (hi : i < 8) (hj : j < 40) (hl : 288 ≤ l.length) : rawE (splice l (200 + 11 * i) x) j = rawE l j := by
  apply List.ext_getElem?
  intro q
  unfold rawE
  rw [List.getElem?_take, List.getElem?_drop, List.getElem?_take, List.getElem?_drop]
  by_cases hq : q < 5
  · rw [if_pos hq, if_pos hq, splice_at _ _ _ _ (by omega), if_neg (by omega)]
  · rw [if_neg hq, if_neg hq]
/-- bytes that are cut out elsewhere -/
theorem cut_splice (l x : Bytes) (o a m : Nat) (hx : o + x.length ≤ l.length) (h : a + m ≤ o ∨ o + x.length ≤ a) : ((splice l o x).drop a).take m = (l.drop a).take m := by
  apply List.ext_getElem?
  intro q
  rw [List.getElem?_take, List.getElem?_drop, List.getElem?_take, List.getElem?_drop]
  by_cases hq : q < m
  · rw [if_pos hq, if_pos hq, splice_at _ _ _ _ hx, if_neg (by omega)]
  · rw [if_neg hq, if_neg hq]
theorem cut_splice_in (l x : Bytes) (o a m : Nat) (hx : o + x.length ≤ l.length) (h1 : o ≤ a) (h2 : a + m ≤ o + x.length) : ((splice l o x).drop a).take m = (x.drop (a - o)).take m := by
  apply List.ext_getElem?
  intro q
  rw [List.getElem?_take, List.getElem?_drop, List.getElem?_take, List.getElem?_drop]
  by_cases hq : q < m
  · rw [if_pos hq, if_pos hq, splice_at _ _ _ _ hx, if_pos (by omega)]
    congr 1; omega
  · rw [if_neg hq, if_neg hq]
theorem zeros_cut (n a m : Nat) (h : a + m ≤ n) : ((List.replicate n (0 : UInt8)).drop a).take m = List.replicate m 0 := by
  rw [List.drop_replicate, List.take_replicate]; congr 1; omega
/-- an image of nothing -/
theorem good_zero {n : Nat} (h : rightB n = true) : Good (List.replicate n 0) := by
  have hb := rightB_true.1 h
  have hE : ∀ k, k < 40 → rawE (List.replicate n 0) k = List.replicate 5 0 := fun k hk => zeros_cut n (5 * k) 5 (by omega)
  have hR : ∀ i, i < 8 → rawR (List.replicate n 0) i = List.replicate 11 0 := fun i hi => zeros_cut n (200 + 11 * i) 11 (by omega)
  refine good_iff.2 ⟨by rw [List.length_replicate]; exact h, ⟨fun k hk _ => by rw [hE k hk]; exact zeros_zero 5, fun k hk hh => ?_, fun k hk j hj hh _ => ?_, fun i hi hz => ?_, fun i hi j hj hz _ => ?_⟩⟩
  · rw [hE k hk, zeros_has] at hh; cases hh
  · rw [hE k hk, zeros_has] at hh; cases hh
  · rw [hR i hi, zeros_zero] at hz; cases hz
  · rw [hR i hi, zeros_zero] at hz; cases hz
/-- what Alloc makes of an image -/
structure AllocIs (l l' : Bytes) (k a n t : Nat) : Prop where
  k40 : k < 40
  none : hasE (rawE l k) = false
  least : ∀ i, i < k → hasE (rawE l i) = true
  a0 : 288 ≤ a
  a1 : a + n ≤ l.length
  n0 : 1 ≤ n
  n1 : n ≤ 1000
  t1 : t ≤ 15
  len : l'.length = l.length
  ents : ∀ j, j < 40 → rawE l' j = if j = k then entB a n t else rawE l j
  rots : ∀ i, i < 8 → rawR l' i = rawR l i
  apart : ∀ j, j < 40 → hasE (rawE l j) = true → a + n ≤ rAt (rawE l j) ∨ rAt (rawE l j) + rLen (rawE l j) ≤ a
  zero : (l'.drop a).take n = List.replicate n 0
  rest : ∀ b m, 288 ≤ b → b + m ≤ a ∨ a + n ≤ b → (l'.drop b).take m = (l.drop b).take m
theorem alloc_is {l : Bytes} (hg : Good l) {n t : Int} (h0 : allocE l n t = 0) : ∃ k a n' t' : Nat, n = n' ∧ t = t' ∧ allocH l n t = (k : Int) + 1 ∧ allocA l n = a ∧ AllocIs l (allocL l n t) k a n' t' := by
  have hb := hg.bd
  have hE := h0
  unfold allocE at hE
  by_cases hbad : lenB n = false ∨ tagB t = false
  · rw [if_pos hbad] at hE; cases hE
  · rw [if_neg hbad] at hE
    by_cases hz : fH l 40 = 0 ∨ fitE ((l.length : Int) - 288) (takenL l) n ≠ 0
    · rw [if_pos hz] at hE; cases hE
    · have hn := lenB_true.1 (show lenB n = true by cases hx : lenB n <;> simp_all)
      have ht := tagB_true.1 (show tagB t = true by cases hx : tagB t <;> simp_all)
      have hf : fitE ((l.length : Int) - 288) (takenL l) n = 0 := by omega
      obtain ⟨i1, i2⟩ := alloc_in hf
      rcases fH_spec l 40 (Nat.le_refl _) with ⟨h, _⟩ | ⟨k, k1, k2, k3, k4, k5⟩
      · omega
      obtain ⟨a, ha⟩ := Int.eq_ofNat_of_zero_le (show 0 ≤ allocA l n by omega)
      obtain ⟨n', rfl⟩ := Int.eq_ofNat_of_zero_le (show 0 ≤ n by omega)
      obtain ⟨t', rfl⟩ := Int.eq_ofNat_of_zero_le (show 0 ≤ t by omega)
      have hL : allocL l n' t' = splice (splice l (5 * k) (entB a n' t')) a (List.replicate n' 0) := by
        unfold allocL
        rw [if_pos h0, ha, k3]
        unfold putEnt
        rw [show ((k + 1 : Nat) : Int) = (k : Int) + 1 by omega, entO_k]
        rfl
      have hl1 : (splice l (5 * k) (entB a n' t')).length = l.length := splice_len _ _ _ (by rw [entB_len]; omega)
      have hl2 : (allocL l n' t').length = l.length := by rw [hL, splice_len _ _ _ (by rw [hl1]; simp; omega), hl1]
      refine ⟨k, a, n', t', rfl, rfl, by unfold allocH; rw [if_pos h0, k3]; omega, ha, ⟨k2, k4, fun i hi => k5 i (by omega) hi, by omega, by omega, by omega, by omega, by omega, hl2, fun j hj => ?_, fun i hi => ?_, fun j hj hh => ?_, ?_, fun b m hb0 hbm => ?_⟩⟩
      · rw [hL, rawE_tail _ _ _ _ (by omega) (by rw [hl1]; simp; omega) hj]
        exact rawE_splice l (entB a n' t') k j (entB_len _ _ _) k2 hj (by omega)
      · rw [hL, rawR_tail _ _ _ _ (by omega) (by rw [hl1]; simp; omega) hi]
        exact rawR_head l _ _ _ (by rw [entB_len]; omega) (by omega)
      · have hc := good_chk hg
        obtain ⟨L, m1, m2, m3, _, _⟩ := fit_some hc hf
        have h4 := (holes_mem hc _ m1).2.2.2 _ (takenL_mem.2 ⟨j, hj, hh, rfl⟩)
        unfold allocA at ha
        dsimp only at h4
        omega
      · rw [hL, cut_splice_in _ _ _ _ _ (by rw [hl1]; simp; omega) (by omega) (by simp), Nat.sub_self, List.drop_zero, List.take_of_length_le (by simp)]
      · rw [hL, cut_splice _ _ _ _ _ (by rw [hl1]; simp; omega) (by simpa using hbm), cut_splice _ _ _ _ _ (by rw [entB_len]; omega) (by rw [entB_len]; omega)]
theorem AllocIs.ent {l l' : Bytes} {k a n t : Nat} (h : AllocIs l l' k a n t) (hb : l.length ≤ 6400) : hasE (rawE l' k) = true ∧ rAt (rawE l' k) = a ∧ rLen (rawE l' k) = n ∧ rTag (rawE l' k) = t := by
  rw [h.ents k h.k40, if_pos rfl]
  exact entB_rd a n t (by have := h.a1; omega) (by have := h.n1; omega) h.t1
theorem AllocIs.good {l l' : Bytes} {k a n t : Nat} (h : AllocIs l l' k a n t) (hg : Good l) : Good l' := by
  have hb := hg.bd
  obtain ⟨e1, e2, e3, e4⟩ := entB_rd a n t (by have := h.a1; omega) (by have := h.n1; omega) h.t1
  refine good_iff.2 ⟨by rw [h.len]; exact hg.len, ?_⟩
  rw [h.len]
  have h1 : GoodS l.length (rawE l') (rawR l) := by
    refine hg.s.putE k h.k40 (entB a n t) h.ents e1 ?_ (fun j hj _ hh => ?_)
    · unfold strayE
      rw [e2, e3, e4, tagB_true.2 ⟨by omega, by have := h.t1; omega⟩, lenB_true.2 ⟨by have := h.n0; omega, by have := h.n1; omega⟩, withinB_true.2 ⟨by have := h.a0; omega, by have := h.a1; omega, by have := h.a1; omega⟩]
      rfl
    · have := h.apart j hj hh
      unfold overE
      rw [e2, e3]
      simp only [Bool.and_eq_false_iff, decide_eq_false_iff_not]
      omega
  exact h1.putR 0 (rawR l 0) (fun j hj => by rw [h.rots j hj]; split <;> simp_all) (by
    cases hz : zeroE (rawR l 0) with
    | true => exact .inl rfl
    | false => exact .inr ⟨h1.root 0 (by omega) hz, fun j hj hne hz' => (h1.name j hj 0 (by omega) hz' hz).symm⟩)
theorem alloc_good {l : Bytes} (hg : Good l) (n t : Int) : Good (allocL l n t) := by
  by_cases h0 : allocE l n t = 0
  · obtain ⟨k, a, n', t', _, _, _, _, h⟩ := alloc_is hg h0
    exact h.good hg
  · have : allocL l n t = l := by unfold allocL; rw [if_neg h0]
    rw [this]; exact hg
theorem rootsL_mem {l : Bytes} {x : Bytes × Nat} : x ∈ rootsL l ↔ ∃ i, i < 8 ∧ zeroE (rawR l i) = false ∧ x = rootP (rawR l i) := by
  unfold rootsL rootsF
  simp only [List.mem_map, List.mem_filter, List.mem_range, Bool.not_eq_true']
  constructor
  · rintro ⟨i, ⟨h1, h2⟩, rfl⟩; exact ⟨i, h1, h2, rfl⟩
  · rintro ⟨i, h1, h2, rfl⟩; exact ⟨i, ⟨h1, h2⟩, rfl⟩
/-- what Free makes of an image -/
structure FreeIs (l l' : Bytes) (k : Nat) : Prop where
  k40 : k < 40
  has : hasE (rawE l k) = true
  len : l'.length = l.length
  ents : ∀ j, j < 40 → rawE l' j = if j = k then List.replicate 5 0 else rawE l j
  rots : ∀ i, i < 8 → rawR l' i = rawR l i
  nol : ∀ i, i < 8 → zeroE (rawR l i) = false → ((rawR l i).getD 10 0).toNat ≠ k + 1
  rest : ∀ b m, 288 ≤ b → (l'.drop b).take m = (l.drop b).take m
theorem free_is {l : Bytes} (hg : Good l) {x : Int} (h0 : freeE l x = 0) : ∃ k : Nat, x = (k : Int) + 1 ∧ FreeIs l (freeL l x) k := by
  have hb := hg.bd
  have hQ := h0
  unfold freeE at hQ
  by_cases hx : hE l x = 0
  · rw [if_neg (by simp [hx])] at hQ
    obtain ⟨k, hk, rfl, hh, _⟩ := hE_zero hx
    have hno : (rootsL l).any (fun r => (r.2 : Int) == (k : Int) + 1) = false := by
      cases ha : (rootsL l).any (fun r => (r.2 : Int) == (k : Int) + 1) with
      | false => rfl
      | true => rw [ha] at hQ; simp at hQ
    have hL : freeL l ((k : Int) + 1) = splice l (5 * k) (List.replicate 5 0) := by
      unfold freeL
      rw [if_pos h0, show ((k : Int) + 1 - 1).toNat = k by omega]
    rw [List.any_eq_false] at hno
    refine ⟨k, rfl, ⟨hk, hh, by rw [hL]; exact splice_len _ _ _ (by simp; omega), fun j hj => ?_, fun i hi => ?_, fun i hi hz => ?_, fun b m hb0 => ?_⟩⟩
    · rw [hL]; exact rawE_splice l _ k j (by simp) hk hj (by omega)
    · rw [hL]; exact rawR_head l _ _ _ (by simp; omega) (by omega)
    · have h1 := hno _ (rootsL_mem.2 ⟨i, hi, hz, rfl⟩)
      simp only [rootP, beq_iff_eq] at h1
      omega
    · rw [hL]; exact cut_splice _ _ _ _ _ (by simp; omega) (by simp; omega)
  · rw [if_pos hx] at hQ; exact absurd hQ hx
theorem FreeIs.good {l l' : Bytes} {k : Nat} (h : FreeIs l l' k) (hg : Good l) : Good l' := by
  refine good_iff.2 ⟨by rw [h.len]; exact hg.len, ?_⟩
  rw [h.len]
  have h1 : GoodS l.length (rawE l') (rawR l) := hg.s.dropE k h.k40 h.ents h.nol
  exact h1.putR 0 (rawR l 0) (fun j hj => by rw [h.rots j hj]; split <;> simp_all) (by
    cases hz : zeroE (rawR l 0) with
    | true => exact .inl rfl
    | false => exact .inr ⟨h1.root 0 (by omega) hz, fun j hj hne hz' => (h1.name j hj 0 (by omega) hz' hz).symm⟩)
theorem free_good {l : Bytes} (hg : Good l) (x : Int) : Good (freeL l x) := by
  by_cases h0 : freeE l x = 0
  · obtain ⟨k, _, h⟩ := free_is hg h0
    exact h.good hg
  · have : freeL l x = l := by unfold freeL; rw [if_neg h0]
    rw [this]; exact hg
end Go.Proofs.YtnceheienlekaaaGreatDoor
/- Where a name's root lies, and the first that is free: root.place. -/
namespace Go.Proofs.YtnceheienlekaaaGreatDoor
open Go.RowKit

/-- after j rounds, from the last root down: where the name lies, which root is free (-1: nowhere) -/
def placeF (l s : Bytes) : Nat → Int × Int
  | 0 => (-1, -1)
  | j + 1 => if zeroE (rawR l (7 - j)) = true then ((placeF l s j).1, ((7 - j : Nat) : Int)) else if nmR (rawR l (7 - j)) = s then (((7 - j : Nat) : Int), (placeF l s j).2) else placeF l s j
theorem Good.got {l : Bytes} (h : Good l) {i : Nat} (hi : i < 8) (hz : zeroE (rawR l i) = false) : gotName ((rawR l i).take 8) = true := by
  have := h.s.root i hi hz
  unfold badR at this
  simp only [Bool.or_eq_false_iff] at this
  simpa using this.1.1.1
theorem placeF_spec (l s : Bytes) : ∀ j, j ≤ 8 →
    (((placeF l s j).1 = -1 ∧ ∀ i, 8 - j ≤ i → i < 8 → zeroE (rawR l i) = false → nmR (rawR l i) ≠ s) ∨ (∃ i : Nat, 8 - j ≤ i ∧ i < 8 ∧ (placeF l s j).1 = i ∧ zeroE (rawR l i) = false ∧ nmR (rawR l i) = s ∧ ∀ q, 8 - j ≤ q → q < i → zeroE (rawR l q) = false → nmR (rawR l q) ≠ s)) ∧
    (((placeF l s j).2 = -1 ∧ ∀ i, 8 - j ≤ i → i < 8 → zeroE (rawR l i) = false) ∨ (∃ i : Nat, 8 - j ≤ i ∧ i < 8 ∧ (placeF l s j).2 = i ∧ zeroE (rawR l i) = true ∧ ∀ q, 8 - j ≤ q → q < i → zeroE (rawR l q) = false))
  | 0, _ => ⟨.inl ⟨rfl, fun i h1 h2 => by omega⟩, .inl ⟨rfl, fun i h1 h2 => by omega⟩⟩
  | j + 1, hj => by
    obtain ⟨h1, h2⟩ := placeF_spec l s j (by omega)
    have hcut : ∀ i, 8 - (j + 1) ≤ i → i < 8 → i = 7 - j ∨ 8 - j ≤ i := fun i _ _ => by omega
    cases hz : zeroE (rawR l (7 - j)) with
    | true =>
      have e : placeF l s (j + 1) = ((placeF l s j).1, ((7 - j : Nat) : Int)) := by rw [placeF, if_pos hz]
      rw [e]
      refine ⟨?_, .inr ⟨7 - j, by omega, by omega, rfl, hz, fun q q1 q2 => by omega⟩⟩
      rcases h1 with ⟨a, b⟩ | ⟨i, a, b, c, d, f, g⟩
      · refine .inl ⟨a, fun i i1 i2 i3 => ?_⟩
        rcases hcut i i1 i2 with rfl | hi
        · rw [hz] at i3; cases i3
        · exact b i hi i2 i3
      · refine .inr ⟨i, by omega, b, c, d, f, fun q q1 q2 q3 => ?_⟩
        rcases hcut q q1 (by omega) with rfl | hq
        · rw [hz] at q3; cases q3
        · exact g q hq q2 q3
    | false =>
      have hfree : ∀ v : Int × Int, v.2 = (placeF l s j).2 → ((v.2 = -1 ∧ ∀ i, 8 - (j + 1) ≤ i → i < 8 → zeroE (rawR l i) = false) ∨ (∃ i : Nat, 8 - (j + 1) ≤ i ∧ i < 8 ∧ v.2 = i ∧ zeroE (rawR l i) = true ∧ ∀ q, 8 - (j + 1) ≤ q → q < i → zeroE (rawR l q) = false)) := fun v hv => by
        rw [hv]
        rcases h2 with ⟨a, b⟩ | ⟨i, a, b, c, d, f⟩
        · refine .inl ⟨a, fun i i1 i2 => ?_⟩
          rcases hcut i i1 i2 with rfl | hi
          · exact hz
          · exact b i hi i2
        · refine .inr ⟨i, by omega, b, c, d, fun q q1 q2 => ?_⟩
          rcases hcut q q1 (by omega) with rfl | hq
          · exact hz
          · exact f q hq q2
      by_cases hn : nmR (rawR l (7 - j)) = s
      · have e : placeF l s (j + 1) = (((7 - j : Nat) : Int), (placeF l s j).2) := by rw [placeF, if_neg (by rw [hz]; decide), if_pos hn]
        rw [e]
        exact ⟨.inr ⟨7 - j, by omega, by omega, rfl, hz, hn, fun q q1 q2 => by omega⟩, hfree _ rfl⟩
      · have e : placeF l s (j + 1) = placeF l s j := by rw [placeF, if_neg (by rw [hz]; decide), if_neg hn]
        rw [e]
        refine ⟨?_, hfree _ rfl⟩
        rcases h1 with ⟨a, b⟩ | ⟨i, a, b, c, d, f, g⟩
        · refine .inl ⟨a, fun i i1 i2 i3 => ?_⟩
          rcases hcut i i1 i2 with rfl | hi
          · exact hn
          · exact b i hi i2 i3
        · refine .inr ⟨i, by omega, b, c, d, f, fun q q1 q2 q3 => ?_⟩
          rcases hcut q q1 (by omega) with rfl | hq
          · exact hn
          · exact g q hq q2 q3
section
variable {w0 w : World} {F : Nat → Prop} {h : Nat} {l : Bytes}
set_option maxRecDepth 100000 in
set_option maxHeartbeats 2000000 in
theorem place_any (s : Bytes) (hp : Hp w0 w F h l) (hg : Good l) :
    Calls Tryz.prog 33 #[.pointer (some ⟨h, 0, none⟩), sv s] w fun e w' => e = .returned (.tuple #[.int .i64 (placeF l s 8).1, .int .i64 (placeF l s 8).2]) ∧ Below w.heap.size w w' := by
  have hb := rightB_true.1 hp.len
  have HC := Hidden.mk (hbytes_ok _ _ F h l hp)
  have HLEN : Hidden (∀ k : Nat, k < 8 → (rawR l k).length = 11) := ⟨fun k hk => rawR_len l k hk (by omega)⟩
  have HGOT : Hidden (∀ k : Nat, k < 8 → zeroE (rawR l k) = false → gotName ((rawR l k).take 8) = true) := ⟨fun k hk hz => hg.got hk hz⟩
  have HCUT : Hidden (∀ (W : World) g cap, Row W 5 g cap l → ∀ k, k < 8 → Rd W (some ⟨g, 0 + (200 + 11 * k), none⟩) (rawR l k)) := ⟨fun W g cap hr k hk => by
    have hx := rawR_rd hr.rd k hk (by omega)
    rw [Option.map_some, Addr.add_lit] at hx
    exact hx⟩
  have HNX : Hidden (∀ j, placeF l s (j + 1) = if zeroE (rawR l (7 - j)) = true then ((placeF l s j).1, ((7 - j : Nat) : Int)) else if nmR (rawR l (7 - j)) = s then (((7 - j : Nat) : Int), (placeF l s j).2) else placeF l s j) := ⟨fun j => by rw [placeF]⟩
  have HZ : Hidden (placeF l s 0 = (-1, -1)) := ⟨rfl⟩
  generalize placeF l s = P at *
  clear hp hg
  go_enter Tryz.func33, Tryz.ntmps33
  go_wp2_with fail
  refine HC.out.mono ?_
  rintro e w1 ⟨g, cap, rfl, hg1, hrow, hb1⟩
  have HROW := Hidden.mk hrow
  have HB1 := Hidden.mk hb1
  have hcap := hrow.le.1
  clear hg1 hrow hb1 HC
  go_wp2_with fail
  go_loopg [4, 5, 7] 8 (fun q a f i wr => ∃ j : Nat, j ≤ 8 ∧ q = 8 - j ∧ i = .int .i64 (7 - (j : Int)) ∧ a = .int .i64 (P j).1 ∧ f = .int .i64 (P j).2 ∧ Hidden (Below w1.heap.size w1 wr))
  case atStart => exact ⟨0, by omega, rfl, rfl, by rw [HZ.out], by rw [HZ.out], ⟨Below.refl _ _⟩⟩
  case round =>
    obtain ⟨j, hj, rfl, rfl, rfl, rfl, hst⟩ := hrel
    by_cases hlt : j < 8
    · obtain ⟨i, hi⟩ : ∃ i : Nat, i = 7 - j := ⟨_, rfl⟩
      have hii : (7 - (j : Int)) = (i : Int) := by omega
      have HNJ := Hidden.mk (HNX.out j)
      have s1 : IntKind.i64.wrap ((i : Int) - 1) = (i : Int) - 1 := IntWalk.i64_in _ (by omega)
      have t0 : decide (0 ≤ (i : Int)) = true := by simp
      have hi8 : i < 8 := by omega
      rw [hii]
      rw [← hi] at HNJ
      have hrw := HCUT.out wr g cap (HROW.out.block (hst.out.block _ HROW.out.lt)) i hi8
      have HLK := Hidden.mk (HLEN.out i hi8)
      have HGK := Hidden.mk (HGOT.out i hi8)
      generalize rawR l i = r at *
      have HI := Hidden.mk hi
      clear hi hii
      go_wp2_with fail
      refine (rawRoot_any (some ⟨g, 0, none⟩) l.length cap (i : Int) _ (by omega) (by omega) (by omega) hcap).mono ?_
      rintro e w2 ⟨rfl, rfl⟩
      rw [rootO_k, Option.map_some, Addr.add_lit]
      generalize hcc : cap - (200 + 11 * i) = cc at *
      have hc8 : 8 ≤ cc := by omega
      generalize 0 + (200 + 11 * i) = oo at *
      clear hcc
      go_wp2_with fail
      refine (izero_any _ 11 _ r _ HLK.out (by simp [maxLen]) hrw).mono ?_
      rintro e w3 ⟨rfl, rfl⟩
      cases hz : zeroE r with
      | true =>
        have HPJ := Hidden.mk (show P (j + 1) = ((P j).1, (i : Int)) by rw [HNJ.out, if_pos hz])
        clear HNJ hz HGK hrw
        go_wp2_with fail
        go_roundg (8 - (j + 1))
        case measure => omega
        case rel => exact ⟨j + 1, by omega, rfl, by rw [show (7 - ((j + 1 : Nat) : Int)) = (i : Int) - 1 by have := HI.out; omega], by rw [HPJ.out], by rw [HPJ.out], hst⟩
      | false =>
        have HPJ := Hidden.mk (show P (j + 1) = if nmR r = s then ((i : Int), (P j).2) else P j by rw [HNJ.out, if_neg (by rw [hz]; decide)])
        have hgn := HGK.out hz
        have HGN := Hidden.mk (getName_any (some ⟨g, oo, none⟩) cc (r.take 8) wr (by simp [HLK.out]) hc8 (hrw.take 8 (by rw [HLK.out]; omega)))
        rw [if_pos hgn] at HGN
        rw [show nameAt (r.take 8) = nmR r from rfl] at HGN
        clear HNJ hz HGK hgn hrw HLK
        generalize nmR r = nm at *
        go_wp2_with fail
        refine HGN.out.mono ?_
        rintro e w4 ⟨rfl, hb4⟩
        have HB4 := Hidden.mk (hst.out.trans (hb4.mono hst.out.size))
        clear hb4 hst HGN
        by_cases hn : nm = s
        · have d1 : (nm == s) = true := by simpa using hn
          have HPJ := Hidden.mk (show P (j + 1) = ((i : Int), (P j).2) by rw [HPJ.out, if_pos hn])
          clear hn
          go_wp2_with fail
          go_roundg (8 - (j + 1))
          case measure => omega
          case rel => exact ⟨j + 1, by omega, rfl, by rw [show (7 - ((j + 1 : Nat) : Int)) = (i : Int) - 1 by have := HI.out; omega], by rw [HPJ.out], by rw [HPJ.out], HB4⟩
        · have d1 : (nm == s) = false := by simpa using hn
          have HPJ := Hidden.mk (show P (j + 1) = P j by rw [HPJ.out, if_neg hn])
          clear hn
          go_wp2_with fail
          go_roundg (8 - (j + 1))
          case measure => omega
          case rel => exact ⟨j + 1, by omega, rfl, by rw [show (7 - ((j + 1 : Nat) : Int)) = (i : Int) - 1 by have := HI.out; omega], by rw [HPJ.out], by rw [HPJ.out], HB4⟩
    · obtain rfl : j = 8 := by omega
      have t0 : decide ((0 : Int) ≤ 7 - ((8 : Nat) : Int)) = false := by decide
      have HE := Hidden.mk (HB1.out.trans (hst.out.mono HB1.out.size))
      clear hst
      go_wp2_with fail
      go_ret2
      exact ⟨rfl, HE.out⟩
end
end Go.Proofs.YtnceheienlekaaaGreatDoor
/- root.Set, of a right name and an object that is there. -/
namespace Go.Proofs.YtnceheienlekaaaGreatDoor
open Go.RowKit

/-- where a name's root is set: its own place, else the first that is free -/
def setAt (l s : Bytes) : Int := if (placeF l s 8).1 < 0 then (placeF l s 8).2 else (placeF l s 8).1
section
variable {w0 w : World} {F : Nat → Prop} {h : Nat} {l : Bytes}
set_option maxRecDepth 100000 in
theorem rset_full (s : Bytes) (x : Int) (hp : Hp w0 w F h l) (hg : Good l) (hn : isName s = true) (hx : hE l x = 0) (ha : setAt l s < 0) :
    Calls Tryz.prog 8 #[.pointer (some ⟨h, 0, none⟩), sv s, .int .i64 x] w fun e w' => e = .returned (.tuple #[.bool false, .iface 59 (.int .i64 4)]) ∧ Below w.heap.size w w' := by
  have HP := Hidden.mk hp
  have HG := Hidden.mk hg
  have HX := Hidden.mk hx
  have HC := Hidden.mk (putName_ok s w hn)
  have h1 : (placeF l s 8).1 < 0 := by
    unfold setAt at ha
    by_cases h : (placeF l s 8).1 < 0
    · exact h
    · rw [if_neg h] at ha; exact absurd ha h
  have h2 : (placeF l s 8).2 < 0 := by
    unfold setAt at ha
    rw [if_pos h1] at ha; exact ha
  have HPL : Hidden (∀ W, Below w.heap.size w W → Calls Tryz.prog 33 #[.pointer (some ⟨h, 0, none⟩), sv s] W fun e w' => e = .returned (.tuple #[.int .i64 (placeF l s 8).1, .int .i64 (placeF l s 8).2]) ∧ Below W.heap.size W w') := ⟨fun W hW => place_any s (hp.below hW) hg⟩
  generalize (placeF l s 8).1 = p1 at *
  generalize (placeF l s 8).2 = p2 at *
  have d1 : decide (p1 < 0) = true := by simpa using h1
  have d2 : decide (p2 < 0) = true := by simpa using h2
  clear hp hg hn hx ha h1 h2
  go_enter Tryz.func8, Tryz.ntmps8
  go_wp2_with fail
  refine HC.out.mono ?_
  rintro e w1 ⟨gn, rfl, -, -, hb1⟩
  have HB1 := Hidden.mk hb1
  have HT := Hidden.mk (htag_any x (HP.out.below hb1))
  rw [HX.out, show errV 0 = Value.nilIface from rfl] at HT
  clear hb1 HC
  go_wp2_with fail
  refine HT.out.mono ?_
  rintro e w2 ⟨rfl, hb2⟩
  have HB2 := Hidden.mk (HB1.out.trans (hb2.mono HB1.out.size))
  clear hb2 HT HB1
  go_wp2_with fail
  refine (HPL.out w2 HB2.out).mono ?_
  rintro e w3 ⟨rfl, hb3⟩
  have HB3 := Hidden.mk (HB2.out.trans (hb3.mono HB2.out.size))
  clear hb3 HPL HB2
  go_wp2_with fail
  go_ret2
  exact ⟨rfl, HB3.out⟩
set_option maxRecDepth 100000 in
theorem rset_ok (s : Bytes) (x : Int) (i : Nat) (hp : Hp w0 w F h l) (hg : Good l) (hn : isName s = true) (hx : hE l x = 0) (hi : i < 8) (ha : setAt l s = i) :
    Calls Tryz.prog 8 #[.pointer (some ⟨h, 0, none⟩), sv s, .int .i64 x] w fun e w' => e = .returned (.tuple #[.bool (decide ((placeF l s 8).1 < 0)), .nilIface]) ∧ ∃ F', HpM w0 w w' F F' h (splice l (200 + 11 * i) (putRo s x)) := by
  have HP := Hidden.mk hp
  have HX := Hidden.mk hx
  have HC := Hidden.mk (putName_ok s w hn)
  have hhb : handleB x = true := by
    unfold hE at hx
    cases hb : handleB x with
    | true => rfl
    | false => rw [hb] at hx; simp at hx
  have HPR : Hidden (∀ W, Below w.heap.size w W → Calls Tryz.prog 34 #[.pointer (some ⟨h, 0, none⟩), .int .i64 (i : Int), .agg #[sv s, .int .i64 x]] W fun e w' => e = .returned .nilIface ∧ ∃ F', HpM w0 W w' F F' h (splice l (200 + 11 * i) (putRo s x))) := ⟨fun W hW => hroot_ok i s x (hp.below hW) hi (.inr ⟨hhb, hn⟩)⟩
  have HPL : Hidden (∀ W, Below w.heap.size w W → Calls Tryz.prog 33 #[.pointer (some ⟨h, 0, none⟩), sv s] W fun e w' => e = .returned (.tuple #[.int .i64 (placeF l s 8).1, .int .i64 (placeF l s 8).2]) ∧ Below W.heap.size W w') := ⟨fun W hW => place_any s (hp.below hW) hg⟩
  unfold setAt at ha
  generalize splice l (200 + 11 * i) (putRo s x) = l' at *
  generalize (placeF l s 8).1 = p1 at *
  generalize (placeF l s 8).2 = p2 at *
  have d3 : decide ((i : Int) < 0) = false := by simp
  clear hp hg hn hhb
  by_cases h1 : p1 < 0
  · have d1 : decide (p1 < 0) = true := by simpa using h1
    rw [if_pos h1] at ha
    subst ha
    clear hx hi h1
    go_enter Tryz.func8, Tryz.ntmps8
    go_wp2_with fail
    refine HC.out.mono ?_
    rintro e w1 ⟨gn, rfl, -, -, hb1⟩
    have HB1 := Hidden.mk hb1
    have HT := Hidden.mk (htag_any x (HP.out.below hb1))
    rw [HX.out, show errV 0 = Value.nilIface from rfl] at HT
    clear hb1 HC
    go_wp2_with fail
    refine HT.out.mono ?_
    rintro e w2 ⟨rfl, hb2⟩
    have HB2 := Hidden.mk (HB1.out.trans (hb2.mono HB1.out.size))
    clear hb2 HT HB1
    go_wp2_with fail
    refine (HPL.out w2 HB2.out).mono ?_
    rintro e w3 ⟨rfl, hb3⟩
    have HB3 := Hidden.mk (HB2.out.trans (hb3.mono HB2.out.size))
    clear hb3 HPL HB2
    go_wp2_with fail
    refine (HPR.out w3 HB3.out).mono ?_
    rintro e w4 ⟨rfl, F', hm⟩
    have HF := Hidden.mk ((HP.out.same HB3.out).trans hm)
    clear hm HPR HB3
    go_wp2_with fail
    go_ret2
    exact ⟨by rw [d1]; rfl, F', HF.out⟩
  · have d1 : decide (p1 < 0) = false := by simpa using h1
    rw [if_neg h1] at ha
    subst ha
    clear hx hi h1
    go_enter Tryz.func8, Tryz.ntmps8
    go_wp2_with fail
    refine HC.out.mono ?_
    rintro e w1 ⟨gn, rfl, -, -, hb1⟩
    have HB1 := Hidden.mk hb1
    have HT := Hidden.mk (htag_any x (HP.out.below hb1))
    rw [HX.out, show errV 0 = Value.nilIface from rfl] at HT
    clear hb1 HC
    go_wp2_with fail
    refine HT.out.mono ?_
    rintro e w2 ⟨rfl, hb2⟩
    have HB2 := Hidden.mk (HB1.out.trans (hb2.mono HB1.out.size))
    clear hb2 HT HB1
    go_wp2_with fail
    refine (HPL.out w2 HB2.out).mono ?_
    rintro e w3 ⟨rfl, hb3⟩
    have HB3 := Hidden.mk (HB2.out.trans (hb3.mono HB2.out.size))
    clear hb3 HPL HB2
    go_wp2_with fail
    refine (HPR.out w3 HB3.out).mono ?_
    rintro e w4 ⟨rfl, F', hm⟩
    have HF := Hidden.mk ((HP.out.same HB3.out).trans hm)
    clear hm HPR HB3
    go_wp2_with fail
    go_ret2
    exact ⟨by rw [d3]; rfl, F', HF.out⟩
end
end Go.Proofs.YtnceheienlekaaaGreatDoor
/- The heap: bytes of an object that are read, or written. -/
namespace Go.Proofs.YtnceheienlekaaaGreatDoor
open Go.RowKit

/-- the fault of some bytes of an object -/
def someE (l : Bytes) (x a n : Int) : Nat := if hE l x ≠ 0 then hE l x else if a < 0 ∨ n < 0 ∨ gL l x < a ∨ gL l x - a < n then 3 else 0
/-- the bytes; the image in which others stand there -/
def readL (l : Bytes) (x a n : Int) : Bytes := if someE l x a n = 0 then (l.drop (gA l x + a).toNat).take n.toNat else []
def writeL (l : Bytes) (x a : Int) (b : Bytes) : Bytes := if someE l x a b.length = 0 then splice l (gA l x + a).toNat b else l
theorem some_in {l : Bytes} (hg : Good l) {x a n : Int} (h : someE l x a n = 0) : hE l x = 0 ∧ 0 ≤ a ∧ 0 ≤ n ∧ a + n ≤ gL l x ∧ 288 ≤ gA l x ∧ 1 ≤ gL l x ∧ gL l x ≤ 1000 ∧ gA l x + gL l x ≤ l.length := by
  unfold someE at h
  by_cases h0 : hE l x = 0
  · rw [if_neg (by simp [h0])] at h
    have := good_in hg h0
    by_cases hb : a < 0 ∨ n < 0 ∨ gL l x < a ∨ gL l x - a < n
    · rw [if_pos hb] at h; cases h
    · omega
  · rw [if_pos h0] at h; exact absurd h h0
section
variable {w0 w : World} {F : Nat → Prop} {h : Nat} {l : Bytes}
/-- copy into nothing -/
theorem run_copy_none (w : World) (n c : Nat) (A : Option Addr) (ty : TypeId) :
    (Builtin.copy_ #[22, 22] ty #[.slice none 0 0, .slice A n c]).run Tryz.prog w = .ok (.int .i64 0) w := by
  obtain ⟨i0, hi0, hz0, hz1, hz2⟩ := info_parts byte_info
  cases A <;> simp [Builtin.copy_, run_underlying Tryz.underlying22, Builtin.lenOf, Builtin.firstCells, sizeOf, typeInfo, hi0, goInt, loadCells, loadCellsFrom]
end
end Go.Proofs.YtnceheienlekaaaGreatDoor
/- HeapKeeps, the plain law: what an Alloc and a Write leave as it was. -/
namespace Go.Proofs.YtnceheienlekaaaGreatDoor
open Go.RowKit

theorem obj_congr {l l' : Bytes} {k : Nat} (he : rawE l' k = rawE l k) (hs : hasE (rawE l k) = true → (l'.drop (rAt (rawE l k))).take (rLen (rawE l k)) = (l.drop (rAt (rawE l k))).take (rLen (rawE l k))) : objT l' k = objT l k ∧ objS l' k = objS l k := by
  unfold objT objS
  rw [he]
  by_cases h : hasE (rawE l k) = true
  · simp only [if_pos h, hs h]; exact ⟨trivial, trivial⟩
  · simp only [if_neg h]; exact ⟨trivial, trivial⟩
theorem hd_of {l : Bytes} {k : Nat} (hk : k < 40) (hh : hasE (rawE l k) = true) : hE l ((k : Int) + 1) = 0 ∧ gA l ((k : Int) + 1) = rAt (rawE l k) ∧ gL l ((k : Int) + 1) = rLen (rawE l k) ∧ gT l ((k : Int) + 1) = rTag (rawE l k) := by
  obtain ⟨h0, h1⟩ := hE_has hk hh
  unfold gA gL gT
  rw [if_pos h0, if_pos h0, if_pos h0, h1]
  exact ⟨h0, rfl, rfl, rfl⟩
section
variable {l l' : Bytes} {k a n t : Nat}
theorem AllocIs.keep (h : AllocIs l l' k a n t) (hg : Good l) {j : Nat} (hj : j < 40) (hne : j ≠ k) : objT l' j = objT l j ∧ objS l' j = objS l j := by
  refine obj_congr (by rw [h.ents j hj, if_neg hne]) fun hh => ?_
  have := strayE_false (hg.s.fit j hj hh)
  have := h.apart j hj hh
  exact h.rest _ _ (by omega) (by omega)
theorem AllocIs.hd (h : AllocIs l l' k a n t) (hg : Good l) : hE l' ((k : Int) + 1) = 0 ∧ gA l' ((k : Int) + 1) = a ∧ gL l' ((k : Int) + 1) = n ∧ gT l' ((k : Int) + 1) = t := by
  obtain ⟨e1, e2, e3, e4⟩ := h.ent hg.bd.2
  have := hd_of h.k40 e1
  rw [e2, e3, e4] at this
  exact this
theorem some_zero {x o m : Int} (h0 : hE l x = 0) (h1 : 0 ≤ o) (h2 : 0 ≤ m) (h3 : o + m ≤ gL l x) : someE l x o m = 0 := by
  unfold someE
  rw [if_neg (by omega), if_neg (by omega)]
theorem AllocIs.read (h : AllocIs l l' k a n t) (hg : Good l) : someE l' ((k : Int) + 1) 0 n = 0 ∧ readL l' ((k : Int) + 1) 0 n = List.replicate n 0 := by
  obtain ⟨e1, e2, e3, e4⟩ := h.hd hg
  have h0 : someE l' ((k : Int) + 1) 0 n = 0 := some_zero e1 (by omega) (by omega) (by omega)
  refine ⟨h0, ?_⟩
  unfold readL
  rw [if_pos h0, e2, show ((a : Int) + 0).toNat = a by omega, Int.toNat_natCast]
  exact h.zero
/-- what Write makes of an image -/
structure WriteIs (l l' : Bytes) (k o : Nat) (b : Bytes) : Prop where
  k40 : k < 40
  has : hasE (rawE l k) = true
  o0 : 288 ≤ o
  o1 : o + b.length ≤ l.length
  at0 : rAt (rawE l k) ≤ o
  at1 : o + b.length ≤ rAt (rawE l k) + rLen (rawE l k)
  eq : l' = splice l o b
theorem write_is (hg : Good l) {x c : Int} {b : Bytes} (h : someE l x c b.length = 0) : ∃ k o : Nat, x = (k : Int) + 1 ∧ gA l x + c = o ∧ WriteIs l (writeL l x c b) k o b := by
  obtain ⟨h0, h1, h2, h3, h4, h5, h6, h7⟩ := some_in hg h
  obtain ⟨k, hk, rfl, hh, he⟩ := hE_zero h0
  obtain ⟨_, f1, f2, f3⟩ := hd_of hk hh
  obtain ⟨o, ho⟩ := Int.eq_ofNat_of_zero_le (show 0 ≤ gA l ((k : Int) + 1) + c by omega)
  refine ⟨k, o, rfl, ho, hk, hh, by omega, by omega, by omega, by omega, ?_⟩
  unfold writeL
  rw [if_pos h, ho]
  rfl
variable {o : Nat} {b : Bytes}
theorem WriteIs.len (h : WriteIs l l' k o b) : l'.length = l.length := by rw [h.eq]; exact splice_len _ _ _ h.o1
theorem WriteIs.ents (h : WriteIs l l' k o b) (j : Nat) (hj : j < 40) : rawE l' j = rawE l j := by rw [h.eq]; exact rawE_tail _ _ _ _ h.o0 h.o1 hj
theorem WriteIs.rots (h : WriteIs l l' k o b) (j : Nat) (hj : j < 8) : rawR l' j = rawR l j := by rw [h.eq]; exact rawR_tail _ _ _ _ h.o0 h.o1 hj
theorem Good.apart {l : Bytes} (hg : Good l) {j k : Nat} (hj : j < 40) (hk : k < 40) (hne : j ≠ k) (h1 : hasE (rawE l j) = true) (h2 : hasE (rawE l k) = true) : overE (rawE l k) (rawE l j) = false := by
  rcases Nat.lt_or_gt_of_ne hne with h | h
  · exact hg.s.apart k hk j h h2 h1
  · rw [overE_symm]; exact hg.s.apart j hj k h h1 h2
theorem WriteIs.good (h : WriteIs l l' k o b) (hg : Good l) : Good l' := by
  refine good_iff.2 ⟨by rw [h.len]; exact hg.len, ?_⟩
  rw [h.len]
  have h1 : GoodS l.length (rawE l') (rawR l) := hg.s.putE k h.k40 (rawE l k) (fun j hj => by rw [h.ents j hj]; split <;> simp_all) h.has (hg.s.fit k h.k40 h.has) (fun j hj hne hh => hg.apart hj h.k40 hne hh h.has)
  exact h1.putR 0 (rawR l 0) (fun j hj => by rw [h.rots j hj]; split <;> simp_all) (by
    cases hz : zeroE (rawR l 0) with
    | true => exact .inl rfl
    | false => exact .inr ⟨h1.root 0 (by omega) hz, fun j hj hne hz' => (h1.name j hj 0 (by omega) hz' hz).symm⟩)
theorem write_good (hg : Good l) (x c : Int) (b : Bytes) : Good (writeL l x c b) := by
  by_cases h : someE l x c b.length = 0
  · obtain ⟨k, o, _, _, hw⟩ := write_is hg h
    exact hw.good hg
  · have : writeL l x c b = l := by unfold writeL; rw [if_neg h]
    rw [this]; exact hg
theorem WriteIs.keep (h : WriteIs l l' k o b) (hg : Good l) {j : Nat} (hj : j < 40) (hne : j ≠ k) : objT l' j = objT l j ∧ objS l' j = objS l j := by
  refine obj_congr (h.ents j hj) fun hh => ?_
  have := hg.apart hj h.k40 hne hh h.has
  unfold overE at this
  simp only [Bool.and_eq_false_iff, decide_eq_false_iff_not] at this
  have := h.at0
  have := h.at1
  rw [h.eq]
  exact cut_splice _ _ _ _ _ h.o1 (by omega)
theorem WriteIs.some (h : WriteIs l l' k o b) (x c m : Int) : someE l' x c m = someE l x c m ∧ gA l' x = gA l x := by
  have hx : hE l' x = hE l x ∧ (hE l x = 0 → hR l' x = hR l x) := by
    unfold hE hR
    by_cases hb : handleB x = false
    · rw [if_pos hb, if_pos hb]; exact ⟨rfl, fun h => by cases h⟩
    · have := handleB_true.1 (show handleB x = true by cases hx : handleB x <;> simp_all)
      rw [if_neg hb, if_neg hb, h.ents (x - 1).toNat (by omega)]
      exact ⟨rfl, fun _ => rfl⟩
  have hgl : gL l' x = gL l x ∧ gA l' x = gA l x := by
    unfold gL gA
    rw [hx.1]
    by_cases h0 : hE l x = 0
    · rw [if_pos h0, if_pos h0, if_pos h0, if_pos h0, hx.2 h0]; exact ⟨rfl, rfl⟩
    · rw [if_neg h0, if_neg h0, if_neg h0, if_neg h0]; exact ⟨rfl, rfl⟩
  unfold someE
  rw [hx.1, hgl.1]
  exact ⟨rfl, hgl.2⟩
end
theorem write_read {l : Bytes} (hg : Good l) {x c : Int} {b : Bytes} (h : someE l x c b.length = 0) : someE (writeL l x c b) x c b.length = 0 ∧ readL (writeL l x c b) x c b.length = b := by
  obtain ⟨k, o, _, ho, hw⟩ := write_is hg h
  obtain ⟨h1, h2⟩ := hw.some x c b.length
  rw [h] at h1
  refine ⟨h1, ?_⟩
  unfold readL
  rw [if_pos h1, h2, ho, Int.toNat_natCast, Int.toNat_natCast, hw.eq, cut_splice_in _ _ _ _ _ hw.o1 (Nat.le_refl _) (Nat.le_refl _), Nat.sub_self, List.drop_zero, List.take_of_length_le (Nat.le_refl _)]
theorem write_keep {l : Bytes} (hg : Good l) {x c : Int} {b : Bytes} (h : someE l x c b.length = 0) {j : Nat} (hj : j < 40) (hne : ((j : Int) + 1) ≠ x) : objT (writeL l x c b) j = objT l j ∧ objS (writeL l x c b) j = objS l j := by
  obtain ⟨k, o, hx, ho, hw⟩ := write_is hg h
  exact hw.keep hg hj (by omega)
theorem alloc_keep {l : Bytes} (hg : Good l) {n t : Int} (h : allocE l n t = 0) {j : Nat} (hj : j < 40) (hne : ((j : Int) + 1) ≠ allocH l n t) : objT (allocL l n t) j = objT l j ∧ objS (allocL l n t) j = objS l j := by
  obtain ⟨k, a, n', t', _, _, hH, _, hi⟩ := alloc_is hg h
  exact hi.keep hg hj (by omega)
theorem alloc_read {l : Bytes} (hg : Good l) {n t : Int} (h : allocE l n t = 0) : 1 ≤ n ∧ n ≤ 1000 ∧ 1 ≤ allocH l n t ∧ allocH l n t ≤ 40 ∧ someE (allocL l n t) (allocH l n t) 0 n = 0 ∧ readL (allocL l n t) (allocH l n t) 0 n = List.replicate n.toNat 0 ∧ hE (allocL l n t) (allocH l n t) = 0 ∧ gT (allocL l n t) (allocH l n t) = t := by
  obtain ⟨k, a, n', t', hn, ht, hH, _, hi⟩ := alloc_is hg h
  have h1 := hi.read hg
  have h2 := hi.hd hg
  have := hi.k40
  have := hi.n0
  have := hi.n1
  rw [hH, ht]
  rw [hn] at h1 h2 ⊢
  rw [ht] at h1 h2
  refine ⟨by omega, by omega, by omega, by omega, h1.1, ?_, h2.1, h2.2.2.2⟩
  rw [h1.2, Int.toNat_natCast]
theorem splice_cut (l x : Bytes) (o a m : Nat) (hx : o + x.length ≤ l.length) (h1 : a ≤ o) (h2 : o + x.length ≤ a + m) (h3 : a + m ≤ l.length) : ((splice l o x).drop a).take m = splice ((l.drop a).take m) (o - a) x := by
  apply List.ext_getElem?
  intro q
  have hl : ((l.drop a).take m).length = m := by simp; omega
  rw [splice_at _ _ _ _ (by omega), List.getElem?_take, List.getElem?_drop]
  by_cases hq : q < m
  · rw [if_pos hq, splice_at _ _ _ _ hx]
    by_cases hi : o ≤ a + q ∧ a + q < o + x.length
    · rw [if_pos hi, if_pos (by omega)]; congr 1; omega
    · rw [if_neg hi, if_neg (by omega), List.getElem?_take, List.getElem?_drop, if_pos hq]
  · rw [if_neg hq, if_neg (by omega), List.getElem?_take, if_neg hq]
/-- the first part of the law -/
theorem keeps_first : ∃ l1 : Bytes, allocL (List.replicate 320 0) 4 2 = l1 ∧ Good l1 ∧ allocE (List.replicate 320 0) 4 2 = 0 ∧ allocH (List.replicate 320 0) 4 2 = 1 ∧ someE l1 1 1 1 = 0 ∧ someE (writeL l1 1 1 [7]) 1 0 4 = 0 ∧ readL (writeL l1 1 1 [7]) 1 0 4 = [0, 7, 0, 0] := by
  have hg : Good (List.replicate 320 0) := good_zero' rfl
  have hz : ∀ j, j < 40 → hasE (rawE (List.replicate 320 0) j) = false := fun j hj => by
    rw [show rawE (List.replicate 320 0) j = List.replicate 5 0 from zeros_cut 320 (5 * j) 5 (by omega)]; exact zeros_has
  have hfh : fH (List.replicate 320 0) 40 = 1 := by
    rcases fH_spec (List.replicate 320 0) 40 (Nat.le_refl _) with ⟨_, hall⟩ | ⟨q, _, k2, k3, k4, k5⟩
    · have := hall 0 (by omega) (by omega)
      rw [hz 0 (by omega)] at this; cases this
    · rw [k3]
      by_cases hq : q = 0
      · rw [hq]
      · have := k5 0 (by omega) (by omega)
        rw [hz 0 (by omega)] at this; cases this
  have hc := good_chk hg
  have hlen : (List.replicate 320 (0 : UInt8)).length = 320 := List.length_replicate
  generalize List.replicate 320 (0 : UInt8) = l at *
  rw [hlen] at hc
  have hE : allocE l 4 2 = 0 := by
    have hf : fitE ((320 : Nat) - 288 : Int) (takenL l) 4 = 0 := fit_exists hc (p := 0) (by omega) (by omega) (by omega) (fun e he => by
      obtain ⟨j, hj, hh, _⟩ := takenL_mem.1 he
      rw [hz j hj] at hh; cases hh)
    unfold allocE
    rw [if_neg (by decide), hlen, if_neg (by rw [hfh, hf]; decide)]
  have hH : allocH l 4 2 = 1 := by unfold allocH; rw [if_pos hE, hfh]; rfl
  obtain ⟨k, a, n', t', hn, ht, hH', _, hi⟩ := alloc_is hg hE
  obtain rfl : n' = 4 := by omega
  obtain rfl : k = 0 := by omega
  have hg1 := hi.good hg
  obtain ⟨d1, d2, d3, d4⟩ := hi.hd hg
  have hzero := hi.zero
  have hl1 := hi.len
  have ha1 := hi.a1
  generalize allocL l 4 2 = l1 at *
  rw [show ((0 : Nat) : Int) + 1 = 1 from rfl] at *
  have hs : someE l1 1 1 ([7] : Bytes).length = 0 := some_zero d1 (by decide) (by decide) (by rw [d3]; decide)
  obtain ⟨k2, o, _, ho, hw⟩ := write_is hg1 hs
  have hs2 : someE (writeL l1 1 1 [7]) 1 0 4 = 0 := by
    rw [(hw.some 1 0 4).1]
    exact some_zero d1 (by decide) (by decide) (by rw [d3]; decide)
  refine ⟨l1, rfl, hg1, hE, hH, hs, hs2, ?_⟩
  unfold readL
  rw [if_pos hs2, (hw.some 1 0 4).2, d2, show ((a : Int) + 0).toNat = a by omega, show (4 : Int).toNat = 4 from rfl, hw.eq]
  rw [d2] at ho
  obtain rfl : o = a + 1 := by omega
  rw [splice_cut _ _ _ _ _ hw.o1 (by omega) (by simp) (by omega), hzero, Nat.add_sub_cancel_left]
  rfl
end Go.Proofs.YtnceheienlekaaaGreatDoor
/- The contracts of errors.As at a target that points to an api.Errno, of plain.Told and of vaultsame.Error. After the guide's worked example on errors.As at a concrete target. -/
namespace Go.Proofs.YtnceheienlekaaaGreatDoor
open Go.RowKit Go.Extern.Stop Go.Stop Go.Extern

/-- errors.As(nil, target) -/
theorem as_nil (t : Value) (w : World) :
    Calls Tryz.prog 74 #[.nilIface, t] w fun e w' => e = .returned (.bool false) ∧ w' = w := by
  go_enter Tryz.func74, Tryz.ntmps74
  go_wp2
  go_ret
  exact ⟨rfl, rfl⟩

theorem rl_valueOfP (t : Addr) (w : World) : (ReflectliteValue.unpack (.iface 129 (.pointer (some t)))).run Tryz.prog w
    = .ok (.agg #[.pointer (some ⟨1, 129, none⟩), .pointer (some ⟨w.heap.size, 0, none⟩), .int .u64 150]) (w.alloc (.cells #[.pointer (some t)] 129)) := by kernel_rfl
theorem rl_typeP (a : Addr) (w : World) : (ReflectliteValue.methodAny (ReflectliteValue.valueError "reflectlite.Value.Type" 0) (fun t _ _ _ => ReflectliteType.toType t) #[.agg #[.pointer (some ⟨1, 129, none⟩), .pointer (some a), .int .u64 150]]).run Tryz.prog w
    = .ok (.iface 187 (.agg #[.pointer (some ⟨1, 129, none⟩)])) w := by kernel_rfl
theorem rl_kindP (w : World) : ((ReflectliteType.abiMethod fun t => (fun a : Nat => Value.int IntKind.u8 (a : Int)) <$> Rtype.kind t) #[.pointer (some ⟨1, 129, none⟩)]).run Tryz.prog w = .ok (.int .u8 22) w := by kernel_rfl
theorem rl_kindE (w : World) : ((ReflectliteType.abiMethod fun t => (fun a : Nat => Value.int IntKind.u8 (a : Int)) <$> Rtype.kind t) #[.pointer (some ⟨1, 59, none⟩)]).run Tryz.prog w = .ok (.int .u8 2) w := by kernel_rfl
theorem rl_m (z : Sem Value) (f : TypeId → Addr → Nat → Nat → Sem Value) (v : Value) :
    ReflectliteValue.method z f #[v] = (do match ← ReflectliteValue.parts v with | none => z | some (t, a, fl) => f t a fl (fl % 32)) := rfl
theorem rl_partsP (a : Addr) (w : World) : (ReflectliteValue.parts (.agg #[.pointer (some ⟨1, 129, none⟩), .pointer (some a), .int .u64 150])).run Tryz.prog w = .ok (some (129, a, 150)) w := by kernel_rfl
theorem rl_isNilP (a p : Addr) (W : World) (ha : W.cell? a = some (.pointer (some p))) :
    (ReflectliteValue.method (ReflectliteValue.valueError "reflectlite.Value.IsNil" 0) ReflectliteValue.isNil #[.agg #[.pointer (some ⟨1, 129, none⟩), .pointer (some a), .int .u64 150]]).run Tryz.prog W = .ok (.bool false) W := by
  rw [rl_m]
  simp only [Sem.run_bind, rl_partsP, Result.andThen]
  simp [ReflectliteValue.isNil, loadVar, isAgg, underlying, Tryz.underlying129, ha, Result.andThen]
theorem rl_elemP (w : World) : (ReflectliteType.method ReflectliteType.elem #[.agg #[.pointer (some ⟨1, 129, none⟩)]]).run Tryz.prog w = .ok (.iface 187 (.agg #[.pointer (some ⟨1, 59, none⟩)])) w := by kernel_rfl
theorem rl_implE (w : World) : (ReflectliteType.relation "Implements" ReflectliteType.implements_ #[.agg #[.pointer (some ⟨1, 59, none⟩)], .iface 187 (.agg #[.pointer (some ⟨1, 25, none⟩)])]).run Tryz.prog w = .ok (.bool true) w := by kernel_rfl
theorem rl_typeOfE (v : Value) (w : World) : (ReflectliteType.typeOf #[.iface 59 v]).run Tryz.prog w = .ok (.iface 187 (.agg #[.pointer (some ⟨1, 59, none⟩)])) w := by kernel_rfl
theorem rl_assignE (w : World) : (ReflectliteType.relation "AssignableTo" ReflectliteType.assignableTo #[.agg #[.pointer (some ⟨1, 59, none⟩)], .iface 187 (.agg #[.pointer (some ⟨1, 59, none⟩)])]).run Tryz.prog w = .ok (.bool true) w := by kernel_rfl
theorem rl_valueOfE (k : Int) (w : World) : (ReflectliteValue.unpack (.iface 59 (.int .i64 k))).run Tryz.prog w
    = .ok (.agg #[.pointer (some ⟨1, 59, none⟩), .pointer (some ⟨w.heap.size, 0, none⟩), .int .u64 130]) (w.alloc (.cells #[.int .i64 k] 59)) := by kernel_rfl
theorem rl_elemOfP (w : World) : (Rtype.elem? 129).run Tryz.prog w = .ok (some 59) w := by kernel_rfl
theorem rl_mkE (p : Addr) (w : World) : (ReflectliteValue.mk 59 p ReflectliteValue.flagAddr).run Tryz.prog w = .ok (.agg #[.pointer (some ⟨1, 59, none⟩), .pointer (some p), .int .u64 386]) w := by kernel_rfl
theorem rl_elemVP (a p : Addr) (W : World) (ha : W.cell? a = some (.pointer (some p))) :
    (ReflectliteValue.method (ReflectliteValue.valueError "reflectlite.Value.Elem" 0) ReflectliteValue.elem #[.agg #[.pointer (some ⟨1, 129, none⟩), .pointer (some a), .int .u64 150]]).run Tryz.prog W
      = .ok (.agg #[.pointer (some ⟨1, 59, none⟩), .pointer (some p), .int .u64 386]) W := by
  rw [rl_m]
  simp only [Sem.run_bind, rl_partsP, Result.andThen]
  simp [ReflectliteValue.elem, loadVar, isAgg, underlying, Tryz.underlying129, ha, Result.andThen, rl_elemOfP, rl_mkE]
theorem rl_s (v x : Value) : ReflectliteValue.set #[v, x] = (do
    let (some (dst, a, fl), some (src, b, _)) := (← ReflectliteValue.parts v, ← ReflectliteValue.parts x)
      | unsupported (.noEntry "extern/(internal/reflectlite.Value).Set.zeroValue")
    if fl / ReflectliteValue.flagAddr % 2 == 0 then unsupported (.noEntry "extern/(internal/reflectlite.Value).Set.unaddressable")
    let val ← loadVar src b
    if ← Rtype.directlyAssignable dst src then storeVar dst a val
    else if ← Rtype.implements dst src then
      if (← Rtype.kind src) == 20 then
        match val with
        | .nilIface => unsupported (.noEntry "extern/reflectlite: a nil value of one interface type handed on as a value of another")
        | _ => storeVar dst a val
      else storeVar dst a (.iface src val)
    else panicString ("reflectlite.Set: value of type " ++ (← Rtype.spelt src) ++ " is not assignable to type " ++ (← Rtype.spelt dst))
    pure (.tuple #[])) := rfl
theorem rl_partsEa (a : Addr) (w : World) : (ReflectliteValue.parts (.agg #[.pointer (some ⟨1, 59, none⟩), .pointer (some a), .int .u64 386])).run Tryz.prog w = .ok (some (59, a, 386)) w := by kernel_rfl
theorem rl_partsE (a : Addr) (w : World) : (ReflectliteValue.parts (.agg #[.pointer (some ⟨1, 59, none⟩), .pointer (some a), .int .u64 130])).run Tryz.prog w = .ok (some (59, a, 130)) w := by kernel_rfl
theorem rl_directE (w : World) : (Rtype.directlyAssignable 59 59).run Tryz.prog w = .ok true w := by kernel_rfl
theorem rl_setE (ta b : Addr) (k : Int) (old : Value) (W : World) (hb : W.cell? b = some (.int .i64 k)) (ht : W.cell? ta = some old) (hf : W.frozen? ta = false) :
    (ReflectliteValue.set #[.agg #[.pointer (some ⟨1, 59, none⟩), .pointer (some ta), .int .u64 386], .agg #[.pointer (some ⟨1, 59, none⟩), .pointer (some b), .int .u64 130]]).run Tryz.prog W
      = .ok (.tuple #[]) (W.setCell ta (.int .i64 k)) := by
  rw [rl_s]
  simp only [Sem.run_bind, rl_partsEa, rl_partsE, Result.andThen]
  simp [ReflectliteValue.flagAddr, loadVar, isAgg, underlying, Tryz.underlying59, hb, Result.andThen, rl_directE, storeVar, Value.cells, storeCells, Addr.add]
  rw [run_store Tryz.prog W ta _ _ (by rfl)]
  simp [ht, hf]

/-- what the row's condition gives: the variable errors.errorType -/
def HasType (w : World) : Prop := w.cell? ⟨0, 0, none⟩ = some (.iface 187 (.agg #[.pointer (some ⟨1, 25, none⟩)]))
theorem HasType.below {B : Nat} {w w' : World} (h : HasType w) (hB : 0 < B) (hb : Below B w w') : HasType w' := (hb.cell (p := ⟨0, 0, none⟩) hB).trans h
theorem HasType.lt {w : World} (h : HasType w) : 0 < w.heap.size := block_lt_of_cell h
end Go.Proofs.YtnceheienlekaaaGreatDoor
/- The contracts of errors.As at a target that points to an api.Errno, of plain.Told and of vaultsame.Error. -/
namespace Go.Proofs.YtnceheienlekaaaGreatDoor
open Go.RowKit Go.Extern.Stop Go.Stop Go.Extern

theorem rl_methKind (n : Nat) (h : Value) (w : World) : (Go.method (n + 1) 187 (.agg #[h]) "Kind").run Tryz.prog w = .ok (177, h) w := by kernel_rfl
theorem rl_methElem (n : Nat) (h : Value) (w : World) : (Go.method (n + 1) 187 (.agg #[h]) "Elem").run Tryz.prog w = .ok (189, .agg #[h]) w := by kernel_rfl
theorem rl_methImpl (n : Nat) (h : Value) (w : World) : (Go.method (n + 1) 187 (.agg #[h]) "Implements").run Tryz.prog w = .ok (190, .agg #[h]) w := by kernel_rfl
theorem rl_methAssign (n : Nat) (h : Value) (w : World) : (Go.method (n + 1) 187 (.agg #[h]) "AssignableTo").run Tryz.prog w = .ok (187, .agg #[h]) w := by kernel_rfl

set_option maxRecDepth 100000 in
set_option maxHeartbeats 4000000 in
theorem as_errno (k : Int) (t : Addr) (old : Value) (w : World) (hg : HasType w) (ht0 : w.cell? t = some old) (hf0 : w.frozen? t = false) :
    Calls Tryz.prog 74 #[.iface 59 (.int .i64 k), .iface 129 (.pointer (some t))] w fun ev w' => ev = .returned (.bool true) ∧ w' = ((((w.alloc (.cells #[.pointer (some t)] 129)).alloc (.cells #[.pointer (some ⟨1, 129, none⟩), .pointer (some ⟨w.heap.size, 0, none⟩), .int .u64 150] 161)).alloc (.cells #[.pointer (some ⟨1, 129, none⟩), .pointer (some ⟨w.heap.size, 0, none⟩), .int .u64 150] 161)).alloc (.cells #[.int .i64 k] 59)).setCell t (.int .i64 k) := by
  have h6 := @run_callFunc_extern Tryz.prog 100 _ (fun args => ReflectliteValue.unpack (args.getD 0 (.tuple #[]))) Tryz.func100 (by kernel_rfl) (by kernel_rfl) (by kernel_rfl) (by kernel_rfl)
  have h7 := @run_callFunc_extern Tryz.prog 101 _ (ReflectliteValue.methodAny (ReflectliteValue.valueError "reflectlite.Value.Type" 0) (fun t _ _ _ => ReflectliteType.toType t)) Tryz.func101 (by kernel_rfl) (by kernel_rfl) (by kernel_rfl) (by kernel_rfl)
  have h8 := @run_callFunc_extern Tryz.prog 102 _ (ReflectliteValue.method (ReflectliteValue.valueError "reflectlite.Value.IsNil" 0) ReflectliteValue.isNil) Tryz.func102 (by kernel_rfl) (by kernel_rfl) (by kernel_rfl) (by kernel_rfl)
  have h27 := @run_callFunc_extern Tryz.prog 177 _ (ReflectliteType.abiMethod fun t => do pure (.int .u8 (← Rtype.kind t))) Tryz.func177 (by kernel_rfl) (by kernel_rfl) (by kernel_rfl) (by kernel_rfl)
  have h37 := @run_callFunc_extern Tryz.prog 189 _ (ReflectliteType.method ReflectliteType.elem) Tryz.func189 (by kernel_rfl) (by kernel_rfl) (by kernel_rfl) (by kernel_rfl)
  have h38 := @run_callFunc_extern Tryz.prog 190 _ (ReflectliteType.relation "Implements" ReflectliteType.implements_) Tryz.func190 (by kernel_rfl) (by kernel_rfl) (by kernel_rfl) (by kernel_rfl)
  have h10 := @run_callFunc_extern Tryz.prog 122 _ ReflectliteType.typeOf Tryz.func122 (by kernel_rfl) (by kernel_rfl) (by kernel_rfl) (by kernel_rfl)
  have h35 := @run_callFunc_extern Tryz.prog 187 _ (ReflectliteType.relation "AssignableTo" ReflectliteType.assignableTo) Tryz.func187 (by kernel_rfl) (by kernel_rfl) (by kernel_rfl) (by kernel_rfl)
  have h11 := @run_callFunc_extern Tryz.prog 123 _ (ReflectliteValue.method (ReflectliteValue.valueError "reflectlite.Value.Elem" 0) ReflectliteValue.elem) Tryz.func123 (by kernel_rfl) (by kernel_rfl) (by kernel_rfl) (by kernel_rfl)
  have h12 := @run_callFunc_extern Tryz.prog 124 _ ReflectliteValue.set Tryz.func124 (by kernel_rfl) (by kernel_rfl) (by kernel_rfl) (by kernel_rfl)
  have tO := rl_typeOfE
  have aE := rl_assignE
  have vE := rl_valueOfE
  have f6 := rl_valueOfP
  have f7 := rl_typeP
  have mK := rl_methKind
  have mE := rl_methElem
  have mI := rl_methImpl
  have mA := rl_methAssign
  have kP := rl_kindP
  have kE := rl_kindE
  have eP := rl_elemP
  have iE := rl_implE
  have n8 := rl_isNilP ⟨w.heap.size, 0, none⟩ t ((w.alloc (.cells #[.pointer (some t)] 129)).alloc (.cells #[.pointer (some ⟨1, 129, none⟩), .pointer (some ⟨w.heap.size, 0, none⟩), .int .u64 150] 161)) (by simp)
  have hlt : 0 < w.heap.size := hg.lt
  unfold HasType at hg
  have hg2 : ((w.alloc (.cells #[.pointer (some t)] 129)).alloc (.cells #[.pointer (some ⟨1, 129, none⟩), .pointer (some ⟨w.heap.size, 0, none⟩), .int .u64 150] 161)).cell? ⟨0, 0, none⟩ = some (.iface 187 (.agg #[.pointer (some ⟨1, 25, none⟩)])) := by
    rw [World.cell?_alloc_lt _ _ ⟨0, 0, none⟩ (by simp), World.cell?_alloc_lt _ _ ⟨0, 0, none⟩ hlt]; exact hg
  have htl : t.block < w.heap.size := by
    rcases Nat.lt_or_ge t.block w.heap.size with h | h
    · exact h
    · simp [World.cell?, Array.getElem?_eq_none h] at ht0
  have el := rl_elemVP ⟨w.heap.size, 0, none⟩ t (((w.alloc (.cells #[.pointer (some t)] 129)).alloc (.cells #[.pointer (some ⟨1, 129, none⟩), .pointer (some ⟨w.heap.size, 0, none⟩), .int .u64 150] 161)).alloc (.cells #[.pointer (some ⟨1, 129, none⟩), .pointer (some ⟨w.heap.size, 0, none⟩), .int .u64 150] 161)) (by rw [World.cell?_alloc_lt _ _ ⟨w.heap.size, 0, none⟩ (by simp; omega)]; simp)
  have st := rl_setE t ⟨w.heap.size + 1 + 1 + 1, 0, none⟩ k old ((((w.alloc (.cells #[.pointer (some t)] 129)).alloc (.cells #[.pointer (some ⟨1, 129, none⟩), .pointer (some ⟨w.heap.size, 0, none⟩), .int .u64 150] 161)).alloc (.cells #[.pointer (some ⟨1, 129, none⟩), .pointer (some ⟨w.heap.size, 0, none⟩), .int .u64 150] 161)).alloc (.cells #[.int .i64 k] 59))
    (by rw [World.cell?_alloc_at _ _ _ _ (by simp)]; rfl)
    (by rw [World.cell?_alloc_lt _ _ t (by simp; omega), World.cell?_alloc_lt _ _ t (by simp; omega), World.cell?_alloc_lt _ _ t (by simp; omega), World.cell?_alloc_lt _ _ t htl]; exact ht0)
    (by rw [World.frozen?_alloc_old _ _ t (by simp; omega), World.frozen?_alloc_old _ _ t (by simp; omega), World.frozen?_alloc_old _ _ t (by simp; omega), World.frozen?_alloc_old _ _ t (Nat.ne_of_lt htl)]; exact hf0)
  go_enter Tryz.func74, Tryz.ntmps74
  go_wp2
  refine wp_loop_rounds 1 ?_
  rw [rounds_succ]
  go_wp2
  go_ret
  exact ⟨rfl, rfl⟩
end Go.Proofs.YtnceheienlekaaaGreatDoor
/- The contracts of plain.Told and of vaultsame.Error. -/
namespace Go.Proofs.YtnceheienlekaaaGreatDoor
open Go.RowKit

theorem told_nil (w : World) : Calls Tryz.prog 38 #[.nilIface] w fun e w' => e = .returned (.int .i64 0) ∧ w = w' := by
  go_enter Tryz.func38, Tryz.ntmps38
  go_wp2_with fail
  go_ret
  exact ⟨rfl, rfl⟩
theorem told_errno (k : Int) (w : World) (hg : HasType w) : Calls Tryz.prog 38 #[.iface 59 (.int .i64 k)] w fun e w' => e = .returned (.int .i64 k) ∧ Below w.heap.size w w' := by
  have hW : Below w.heap.size w (w.alloc (.cells #[.int .i64 0] 59)) := (Below.refl _ _).alloc (Nat.le_refl _) _
  have hg1 := hg.below hg.lt hW
  have HC := Hidden.mk (as_errno k ⟨w.heap.size, 0, none⟩ (.int .i64 0) _ hg1 (by simp) (by simp))
  clear hg1
  go_enter Tryz.func38, Tryz.ntmps38
  go_wp2_with fail
  refine HC.out.mono ?_
  rintro e w' ⟨rfl, hw'⟩
  have hB : Below w.heap.size w w' := by
    rw [hw']
    exact ((((hW.alloc hW.size _).alloc (by simp; omega) _).alloc (by simp; omega) _).alloc (by simp; omega) _).setCell (p := ⟨w.heap.size, 0, none⟩) (Nat.le_refl _) _
  have hc : w'.cell? ⟨w.heap.size, 0, none⟩ = some (.int .i64 k) := by
    rw [hw']
    refine World.cell?_setCell_same' _ _ _ ?_
    rw [(((((Below.refl _ (w.alloc (.cells #[.int .i64 0] 59))).alloc (Nat.le_refl _) _).alloc (by simp) _).alloc (by simp) _).alloc (by simp) _).cell (p := ⟨w.heap.size, 0, none⟩) (by simp)]
    simp
  clear hw' HC hW
  go_wp2_with fail
  go_ret
  exact ⟨rfl, hB⟩
theorem err_nil (x : Int) (w : World) : Calls Tryz.prog 10 #[.nilIface, .int .i64 x] w fun e w' => e = .returned (.bool ((0 : Int) == x)) ∧ Below w.heap.size w w' := by
  go_enter Tryz.func10, Tryz.ntmps10
  go_wp2_with fail
  refine (told_nil _).mono ?_
  rintro e w' ⟨rfl, rfl⟩
  go_wp2_with fail
  go_ret
  exact ⟨rfl, Below.refl _ _⟩
theorem err_some (k x : Int) (w : World) (hg : HasType w) : Calls Tryz.prog 10 #[.iface 59 (.int .i64 k), .int .i64 x] w fun e w' => e = .returned (.bool (k == x)) ∧ Below w.heap.size w w' := by
  go_enter Tryz.func10, Tryz.ntmps10
  go_wp2_with fail
  refine (told_errno k _ hg).mono ?_
  rintro e w' ⟨rfl, hb⟩
  go_wp2_with fail
  go_ret
  exact ⟨rfl, hb⟩
/-- .. of an error that is nil or a number -/
theorem err_any (n : Nat) (x : Int) (w : World) (hg : HasType w) : Calls Tryz.prog 10 #[errV n, .int .i64 x] w fun e w' => e = .returned (.bool ((n : Int) == x)) ∧ Below w.heap.size w w' := by
  unfold errV
  by_cases h : n = 0
  · rw [if_pos h, h]; exact err_nil x w
  · rw [if_neg h]; exact err_some n x w hg
end Go.Proofs.YtnceheienlekaaaGreatDoor
/- What comes in: the program's own slices, opened. -/
namespace Go.Proofs.YtnceheienlekaaaGreatDoor
open Go.RowKit Go.ChangeShapes Go.WideShapes Go.ChangeAt

section
variable {H : Type} {enc : TypeId × Value → H} {w : World} {v : Value} {d : DataW H} {ps : List MemPlace} {base : Nat} {r : Reach}
set_option maxRecDepth 20000 in
/-- entries that came in -/
theorem open_entries (hv : Value.okWide Tryz.prog w r base 100 v) (h : DataW.Trod enc Tryz.prog w 0 (fun _ => true) true 100 v d ps) (hz : (d.weights Tryz.prog 100).all (· ≤ reachBytes) = true) :
    ∃ (A : Option Addr) (c : Nat) (L : List EntX), v = .slice A L.length c ∧ L.length ≤ c ∧ c ≤ 140737488351232 ∧ (∀ x ∈ L, EntOk w x) ∧ RdX xcells 4 w A L := by
  have hb : decide (1 ≤ Tryz.prog.bytesOf 63) = true := by kernel_rfl
  have hC : Tryz.prog.cellsOf 63 = 4 := by kernel_rfl
  refine open_seq (P := Tryz.prog) xcells 4 EntOk Tryz.underlying100 hC (by omega) (of_decide_eq_true hb) (fun n cs x hl ht _ => ?_) hv h hz
  match cs, hl with
  | [c0, c1, c2, c3], _ =>
    obtain ⟨xs, n, _, hx, _, hlen, hg⟩ := DataW.trod_struct Tryz.underlying63 ht
    match xs, hlen with
    | [y0, y1, y2], _ =>
      have k0 : Tryz.prog.cellsOf 3 = 1 := by kernel_rfl
      have k1 : Tryz.prog.cellsOf 61 = 2 := by kernel_rfl
      have t0 : DataW.trod enc Tryz.prog w 0 (fun _ => true) true n 3 [c0] = some y0 := by simpa [k0] using hg 0 _ rfl
      have t1 : DataW.trod enc Tryz.prog w 0 (fun _ => true) true n 61 [c1, c2] = some y1 := by simpa [k1] using hg 1 _ rfl
      have t2 : DataW.trod enc Tryz.prog w 0 (fun _ => true) true n 3 [c3] = some y2 := by simpa [k0] using hg 2 _ rfl
      obtain ⟨ys, n', _, hx', _, hlen', hg'⟩ := DataW.trod_struct Tryz.underlying61 t1
      match ys, hlen' with
      | [z0, z1], _ =>
        have u0 : DataW.trod enc Tryz.prog w 0 (fun _ => true) true n' 3 [c1] = some z0 := by simpa [k0] using hg' 0 _ rfl
        have u1 : DataW.trod enc Tryz.prog w 0 (fun _ => true) true n' 3 [c2] = some z1 := by simpa [k0] using hg' 1 _ rfl
        obtain ⟨a, ha, -, wa⟩ := DataW.trod_int Tryz.underlying3 t0
        obtain ⟨b, hb', -, wb⟩ := DataW.trod_int Tryz.underlying3 u0
        obtain ⟨c, hc, -, wc⟩ := DataW.trod_int Tryz.underlying3 u1
        obtain ⟨e, he, -, we⟩ := DataW.trod_int Tryz.underlying3 t2
        simp only [List.cons.injEq, and_true] at ha hb' hc he
        subst ha hb' hc he
        exact ⟨⟨a, b, c, e⟩, rfl, wf_i64' wa, wf_i64' wb, wf_i64' wc, wf_i64' we⟩
set_option maxRecDepth 20000 in
/-- roots that came in -/
theorem open_roots (hv : Value.okWide Tryz.prog w r base 36 v) (h : DataW.Trod enc Tryz.prog w 0 (fun _ => true) true 36 v d ps) (hz : (d.weights Tryz.prog 36).all (· ≤ reachBytes) = true) :
    ∃ (A : Option Addr) (c : Nat) (L : List RotX), v = .slice A L.length c ∧ L.length ≤ c ∧ c ≤ 140737488351232 ∧ (∀ x ∈ L, RotOk w x) ∧ RdX ycells 2 w A L := by
  have hb : decide (1 ≤ Tryz.prog.bytesOf 78) = true := by kernel_rfl
  have hC : Tryz.prog.cellsOf 78 = 2 := by kernel_rfl
  refine open_seq (P := Tryz.prog) ycells 2 RotOk Tryz.underlying36 hC (by omega) (of_decide_eq_true hb) (fun n cs x hl ht hz => ?_) hv h hz
  obtain ⟨v0, v1, y0, y1, m, rfl, t0, t1, z0, z1⟩ := open_two Tryz.underlying78 ⟨rfl, by kernel_rfl⟩ ⟨rfl, by kernel_rfl⟩ hl ht hz
  obtain ⟨s, ha, hy, -⟩ := DataW.trod_string Tryz.underlying9 t0
  obtain ⟨b, hb', -, wb⟩ := DataW.trod_int Tryz.underlying3 t1
  simp only [List.cons.injEq, and_true] at ha hb'
  subst ha hb' hy
  have h2 := of_decide_eq_true (List.all_eq_true.1 z0 s.data.toList.length (by simp [DataW.weights]))
  have h3 : reachBytes = 140737488351232 := by decide
  exact ⟨⟨s.data.toList, b⟩, rfl, by simp only at *; omega, wf_i64' wb⟩
end
end Go.Proofs.YtnceheienlekaaaGreatDoor
/- ImageBack: what the walk leans on. -/
namespace Go.Proofs.YtnceheienlekaaaGreatDoor
open Go.RowKit

theorem iget_t (A : Option Addr) (n c : Nat) (l : Bytes) (k : Nat) (w : World) (hn : l.length = n) (hr : rightB n = true) (hnc : n ≤ c) (hrd : Rd w A l) (hk : k < 40) (hE : hasE (rawE l k) = true) :
    Calls Tryz.prog 26 #[.slice A n c, .int .i64 ((k : Int) + 1)] w fun e w' => e = .returned (.tuple #[.agg #[.int .i64 ((k : Int) + 1), .int .i64 (rAt (rawE l k)), .int .i64 (rLen (rawE l k)), .int .i64 (rTag (rawE l k))], .nilIface]) ∧ Below w.heap.size w w' :=
  (iget_ok A n c l k w hn hr hnc hrd hk).mono fun _ _ h => ⟨h.1 hE, h.2.2⟩
theorem iget_f (A : Option Addr) (n c : Nat) (l : Bytes) (k : Nat) (w : World) (hn : l.length = n) (hr : rightB n = true) (hnc : n ≤ c) (hrd : Rd w A l) (hk : k < 40) (hE : hasE (rawE l k) = false) :
    Calls Tryz.prog 26 #[.slice A n c, .int .i64 ((k : Int) + 1)] w fun e w' => e = .returned (.tuple #[.agg #[.int .i64 0, .int .i64 0, .int .i64 0, .int .i64 0], .iface 59 (.int .i64 5)]) ∧ Below w.heap.size w w' :=
  (iget_ok A n c l k w hn hr hnc hrd hk).mono fun _ _ h => ⟨h.2.1 hE, h.2.2⟩
theorem below_four {w w' : World} {a b c d : Value} {t : TypeId} (hb : Below (w.alloc (.cells #[a, b, c, d] t)).heap.size (w.alloc (.cells #[a, b, c, d] t)) w') :
    w'.cell? ⟨w.heap.size, 0, none⟩ = some a ∧ w'.cell? ⟨w.heap.size, 1, none⟩ = some b ∧ w'.cell? ⟨w.heap.size, 2, none⟩ = some c ∧ w'.cell? ⟨w.heap.size, 3, none⟩ = some d := by
  have h := (hb.block w.heap.size (by simp)).trans (heap_alloc_new w (.cells #[a, b, c, d] t))
  refine ⟨?_, ?_, ?_, ?_⟩ <;> simp [World.cell?, h]
/-- the image that the law has come to -/
structure ImB (w wr : World) (n gb cap : Nat) (lb : Bytes) (i : Nat) : Prop where
  row : Row wr 5 gb cap lb
  len : lb.length = n
  no : NoRoots lb i
  bel : Below w.heap.size w wr
theorem ImB.below {w wr w' : World} {n gb cap i : Nat} {lb : Bytes} (h : ImB w wr n gb cap lb i) (hb : Below wr.heap.size wr w') : ImB w w' n gb cap lb i :=
  ⟨h.row.below hb h.row.lt, h.len, h.no, h.bel.trans (hb.mono h.bel.size)⟩
theorem ImB.up {w wr : World} {n gb cap i : Nat} {lb : Bytes} (h : ImB w wr n gb cap lb i) : ImB w wr n gb cap lb (i + 1) :=
  ⟨h.row, h.len, fun j h1 h2 => h.no j (by omega) h2, h.bel⟩
theorem noRoots_new (n : Nat) (hn : 288 ≤ n) : NoRoots (List.replicate n 0) 0 := fun j _ hj => by
  unfold rawR
  rw [List.drop_replicate, List.take_replicate]
  congr 1; omega
theorem ent_back (l : Bytes) (kk : Nat) (a b t : Int) (hk : kk < 40) (hl : 200 ≤ l.length) (ha : 0 ≤ a ∧ a < 65536) (hb : 0 ≤ b ∧ b < 65536) (ht : 0 ≤ t ∧ t ≤ 15) :
    putEnt l ((kk : Int) + 1) a b t = splice l (5 * kk) (entB a.toNat b.toNat t.toNat) ∧ hasE (rawE (putEnt l ((kk : Int) + 1) a b t) kk) = true ∧ (rAt (rawE (putEnt l ((kk : Int) + 1) a b t) kk) : Int) = a ∧ (rLen (rawE (putEnt l ((kk : Int) + 1) a b t) kk) : Int) = b ∧ rTag (rawE (putEnt l ((kk : Int) + 1) a b t) kk) = t := by
  have hp : putEnt l ((kk : Int) + 1) a b t = splice l (5 * kk) (entB a.toNat b.toNat t.toNat) := by unfold putEnt; rw [entO_k]
  have hr : rawE (putEnt l ((kk : Int) + 1) a b t) kk = entB a.toNat b.toNat t.toNat := by rw [hp, rawE_splice _ _ _ _ (entB_len _ _ _) hk hk hl, if_pos rfl]
  obtain ⟨h1, h2, h3, h4⟩ := entB_rd a.toNat b.toNat t.toNat (by omega) (by omega) (by omega)
  rw [hr]
  exact ⟨hp, h1, by rw [h2]; omega, by rw [h3]; omega, by rw [h4]; omega⟩
theorem rootB_zero (s : Bytes) (h : Int) (hh : handleB h = true) : zeroE (rootB s h) = false := by
  have hb := handleB_true.1 hh
  have hd : (UInt8.ofNat h.toNat).toNat = h.toNat := by rw [UInt8.toNat_ofNat', Nat.mod_eq_of_lt (by omega)]
  unfold zeroE
  rw [Bool.not_eq_false', List.any_eq_true]
  refine ⟨UInt8.ofNat h.toNat, by simp [rootB], ?_⟩
  unfold nonZero
  rw [bne_iff_ne]
  intro e
  rw [e] at hd
  simp at hd
  omega
theorem rootB_P (s : Bytes) (h : Int) (hh : handleB h = true) (hnm : isName s = true) : rootP (rootB s h) = (s, h.toNat) := by
  have hb := handleB_true.1 hh
  have hd : (UInt8.ofNat h.toNat).toNat = h.toNat := by rw [UInt8.toNat_ofNat', Nat.mod_eq_of_lt (by omega)]
  have h8 := nameB_len s hnm
  obtain ⟨h1, h2⟩ := nameB_back s hnm
  have ht : (rootB s h).take 8 = nameB s := by unfold rootB; rw [List.take_append_of_le_length (by omega), List.take_of_length_le (by omega)]
  have h3 : nmR (rootB s h) = s := by unfold nmR; rw [ht]; exact h2
  unfold rootP
  rw [ht, if_pos h1, h3]
  congr 1
  unfold rootB
  rw [List.getD_eq_getElem?_getD, List.getElem?_append_right (by omega), h8]
  exact hd
theorem rootB_len (s : Bytes) (h : Int) (hnm : isName s = true) : (rootB s h).length = 11 := by unfold rootB; simp [nameB_len s hnm]
theorem root_back (gb n c : Nat) (l : Bytes) (i : Nat) (s : Bytes) (h : Int) (w : World) (hs : s.length ≤ 140737488351232) (hn : l.length = n) (hnc : n ≤ c) (hrd : Rd w (some ⟨gb, 0, none⟩) l) (hr : rightB n = true) (hi : i < 8) (hz : NoRoots l i) :
    Calls Tryz.prog 73 #[.slice (some ⟨gb, 0, none⟩) n c, .int .i64 (i : Int), rootV s h] w fun e w' => (∃ x, e = .returned (.tuple #[.slice none 0 0, .iface 59 (.int .i64 x)]) ∧ Below w.heap.size w w') ∨
      (∃ g cp lc, e = .returned (.tuple #[.slice (some ⟨g, 0, none⟩) n cp, .nilIface]) ∧ n ≤ cp ∧ Row w' 5 g cp lc ∧ lc.length = n ∧ NoRoots lc (i + 1) ∧ Below w.heap.size w w' ∧
        ((s.isEmpty = true ∧ rootsL lc = rootsL l) ∨ (s.isEmpty = false ∧ rootsL lc = rootsL l ++ [(s, h.toNat)] ∧ (h.toNat : Int) = h))) := by
  have hnb := rightB_true.1 hr
  have hsp : ∀ X : Bytes, X.length = 11 → (splice l (rootO (i : Int)) X).length = n := fun X hX => by rw [rootO_k, splice_len _ _ _ (by omega)]; exact hn
  by_cases h0 : s = [] ∧ h = 0
  · obtain ⟨rfl, rfl⟩ := h0
    refine (root_zero (some ⟨gb, 0, none⟩) n c l i w hn hnc hrd hr (by omega) (by omega)).mono ?_
    rintro e w' ⟨g, cap, he, hg, hrow, hb⟩
    have h1 := roots_put l (List.replicate 11 0) i (by simp) hi (by omega) hz
    have h2 := hsp (List.replicate 11 0) (by simp)
    rw [zeros_zero, if_pos rfl, List.append_nil] at h1
    rw [rootO_k] at hrow h2
    exact .inr ⟨g, cap, _, he, by have := hrow.le.1; omega, hrow, h2, h1.2, hb, .inl ⟨rfl, h1.1⟩⟩
  cases hh : handleB h with
  | false => exact (root_e1h _ n c i s h w hr (by omega) (by omega) h0 hh).mono fun e w' he => .inl ⟨1, he⟩
  | true =>
    cases hnm : isName s with
    | false => exact (root_e2 _ n c i s h w hs hr (by omega) (by omega) hh hnm).mono fun e w' he => .inl ⟨2, he⟩
    | true =>
      refine (root_ok _ n c l i s h w hn hrd hr (by omega) (by omega) hh hnm).mono ?_
      rintro e w' ⟨g, cap, he, hg, hrow, hb⟩
      have hb' := handleB_true.1 hh
      have h11 := rootB_len s h hnm
      have h1 := roots_put l (rootB s h) i h11 hi (by omega) hz
      have h2 := hsp (rootB s h) h11
      rw [rootB_zero s h hh, rootB_P s h hh hnm, if_neg (by simp)] at h1
      rw [rootO_k] at hrow h2
      have hse : s.isEmpty = false := by
        cases s with
        | nil => cases hnm
        | cons x r => rfl
      exact .inr ⟨g, cap, _, he, by have := hrow.le.1; omega, hrow, h2, h1.2, hb, .inr ⟨hse, h1.1, by omega⟩⟩
theorem flatMap_at {X : Type} (f : X → List Value) (C : Nat) (hC : ∀ x, (f x).length = C) : ∀ (L : List X) (i : Nat) (h : i < L.length) (q : Nat), q < C → (L.flatMap f)[i * C + q]? = (f L[i])[q]?
  | [], i, h, _, _ => absurd h (by simp)
  | x :: r, 0, _, q, hq => by
    rw [List.flatMap_cons, Nat.zero_mul, Nat.zero_add, List.getElem?_append_left (by rw [hC]; exact hq)]; rfl
  | x :: r, i + 1, h, q, hq => by
    have hx := hC x
    rw [List.flatMap_cons, List.getElem?_append_right (by rw [hx, Nat.succ_mul]; omega), hx, show (i + 1) * C + q - C = i * C + q by rw [Nat.succ_mul]; omega]
    exact flatMap_at f C hC r i (by simpa using h) q hq
theorem own_rdX {X : Type} {f : X → List Value} {C : Nat} {w : World} {base : Nat} {e : TypeId} {v : Value} {L : List X} (hC : ∀ x, (f x).length = C) (h : w.ownsRow base e C v L.length (L.flatMap f)) : ∃ A c, v = .slice A L.length c ∧ L.length ≤ c ∧ RdX f C w A L := by
  rcases h.2 with ⟨rfl, h0⟩ | ⟨g, cap, cur, rfl, _, hh, hc, hm, hz, ht⟩
  · exact ⟨none, 0, by rw [h0], by omega, fun i hi => by omega⟩
  · refine ⟨_, cap, rfl, hc, fun i hi => ⟨g, 0, rfl, fun q u hq => ?_⟩⟩
    have hqC : q < C := by rw [← hC L[i]]; exact (List.getElem?_eq_some_iff.1 hq).1
    have := h.cells (g := g) rfl (i * C + q) u (by rw [flatMap_at f C hC L i hi q hqC]; exact hq)
    rw [Addr.add_lit] at this
    rw [Nat.add_assoc]
    exact this
theorem rcells_len (x : Bytes × Nat) : (rcells x).length = 2 := rfl
end Go.Proofs.YtnceheienlekaaaGreatDoor
/- Roots that are set and unset, plainly: where names lead then. No walk here. -/
namespace Go.Proofs.YtnceheienlekaaaGreatDoor
open Go.RowKit

theorem leadR_mem {L : List (Bytes × Nat)} {s : Bytes} {r : Bytes × Nat} (hr : r ∈ L) (hs : r.1 = s) (hu : ∀ x ∈ L, x.1 = s → x.2 = r.2) : leadR L s = r.2 := by
  unfold leadR
  cases hf : L.find? (fun r => r.1 == s) with
  | none =>
    have := List.find?_eq_none.1 hf r hr
    simp [hs] at this
  | some x =>
    have h1 := List.find?_some hf
    have h2 := List.mem_of_find?_eq_some hf
    exact hu x h2 (by simpa using h1)
theorem mem_rootsF {S : Nat → Bytes} {m : Nat} {x : Bytes × Nat} : x ∈ rootsF S m ↔ ∃ i, i < m ∧ zeroE (S i) = false ∧ rootP (S i) = x := by
  unfold rootsF
  simp only [List.mem_map, List.mem_filter, List.mem_range, Bool.not_eq_true']
  constructor
  · rintro ⟨i, ⟨h1, h2⟩, h3⟩; exact ⟨i, h1, h2, h3⟩
  · rintro ⟨i, h1, h2, h3⟩; exact ⟨i, ⟨h1, h2⟩, h3⟩
theorem good_rootP {l : Bytes} (hg : Good l) {i : Nat} (hi : i < 8) (hz : zeroE (rawR l i) = false) : rootP (rawR l i) = (nmR (rawR l i), ((rawR l i).getD 10 0).toNat) := by
  unfold rootP; rw [if_pos (hg.got hi hz)]
/-- where a name leads, by the place of its root -/
theorem lead_at {l s : Bytes} (hg : Good l) {i : Nat} (hi : i < 8) (hz : zeroE (rawR l i) = false) (hs : nmR (rawR l i) = s) : leadR (rootsL l) s = ((rawR l i).getD 10 0).toNat := by
  have hm : rootP (rawR l i) ∈ rootsL l := mem_rootsF.2 ⟨i, hi, hz, rfl⟩
  rw [good_rootP hg hi hz] at hm
  refine leadR_mem hm hs fun x hx he => ?_
  obtain ⟨j, hj, hzj, rfl⟩ := mem_rootsF.1 hx
  rw [good_rootP hg hj hzj] at he ⊢
  dsimp only at he ⊢
  by_cases h : j = i
  · rw [h]
  · exfalso
    rcases Nat.lt_or_gt_of_ne h with h | h
    · exact hg.s.name i hi j h hz hzj (hs.trans he.symm)
    · exact hg.s.name j hj i h hzj hz (he.trans hs.symm)
theorem lead_no {l s : Bytes} (hg : Good l) (h : ∀ i, i < 8 → zeroE (rawR l i) = false → nmR (rawR l i) ≠ s) : leadR (rootsL l) s = 0 :=
  leadR_none fun x hx => by
    obtain ⟨j, hj, hzj, rfl⟩ := mem_rootsF.1 hx
    rw [good_rootP hg hj hzj]
    simpa using h j hj hzj
theorem count_upd (p : Nat → Bool) (i : Nat) (b : Bool) : ∀ n, ((List.range n).filter (fun j => if j = i then b else p j)).length + (if i < n ∧ p i = true then 1 else 0) = ((List.range n).filter p).length + (if i < n ∧ b = true then 1 else 0)
  | 0 => by simp
  | n + 1 => by
    have ih := count_upd p i b n
    rw [List.range_succ, List.filter_append, List.filter_append, List.length_append, List.length_append]
    by_cases h : n = i
    · subst h
      have h1 : ((List.range n).filter (fun j => if j = n then b else p j)) = (List.range n).filter p := List.filter_congr fun j hj => by
        rw [if_neg (by have := List.mem_range.1 hj; omega)]
      rw [h1]
      cases hb : b <;> cases hp : p n <;> simp [hp]
    · have e1 : (i < n + 1 ∧ p i = true) ↔ (i < n ∧ p i = true) := by constructor <;> rintro ⟨a, b⟩ <;> exact ⟨by omega, b⟩
      have e2 : (i < n + 1 ∧ b = true) ↔ (i < n ∧ b = true) := by constructor <;> rintro ⟨a, b⟩ <;> exact ⟨by omega, b⟩
      simp only [e1, e2]
      have e3 : ((List.filter (fun j => if j = i then b else p j) [n]).length) = (List.filter p [n]).length := by
        simp only [List.filter_cons, List.filter_nil, if_neg h]
      omega
/-- l' has x in the place of the root i; nothing else is another -/
structure PutsR (l l' : Bytes) (i : Nat) (x : Bytes) : Prop where
  i8 : i < 8
  x11 : x.length = 11
  eq : l' = splice l (200 + 11 * i) x
section
variable {l l' x : Bytes} {i : Nat}
theorem PutsR.len (h : PutsR l l' i x) (hb : 288 ≤ l.length) : l'.length = l.length := by rw [h.eq]; exact splice_len _ _ _ (by have := h.i8; have := h.x11; omega)
theorem PutsR.ents (h : PutsR l l' i x) (hb : 288 ≤ l.length) (j : Nat) (hj : j < 40) : rawE l' j = rawE l j := by rw [h.eq]; exact rawE_root l _ i j h.x11 h.i8 hj hb
theorem PutsR.rots (h : PutsR l l' i x) (hb : 288 ≤ l.length) (j : Nat) (hj : j < 8) : rawR l' j = if j = i then x else rawR l j := by rw [h.eq]; exact rawR_splice l _ i j h.x11 h.i8 hj hb
theorem same_ents {l l' : Bytes} (h : ∀ j, j < 40 → rawE l' j = rawE l j) (y : Int) : hE l' y = hE l y ∧ gT l' y = gT l y ∧ gA l' y = gA l y ∧ gL l' y = gL l y := by
  have hx : hE l' y = hE l y ∧ (hE l y = 0 → hR l' y = hR l y) := by
    unfold hE hR
    by_cases hb : handleB y = false
    · rw [if_pos hb, if_pos hb]; exact ⟨rfl, fun h => by cases h⟩
    · have := handleB_true.1 (show handleB y = true by
        cases hx : handleB y with
        | true => rfl
        | false => exact absurd hx hb)
      rw [if_neg hb, if_neg hb, h (y - 1).toNat (by omega)]
      exact ⟨rfl, fun _ => rfl⟩
  unfold gT gL gA
  rw [hx.1]
  by_cases h0 : hE l y = 0
  · rw [if_pos h0, if_pos h0, if_pos h0, if_pos h0, if_pos h0, if_pos h0, hx.2 h0]; exact ⟨rfl, rfl, rfl, rfl⟩
  · rw [if_neg h0, if_neg h0, if_neg h0, if_neg h0, if_neg h0, if_neg h0]; exact ⟨rfl, rfl, rfl, rfl⟩
theorem PutsR.same (h : PutsR l l' i x) (hb : 288 ≤ l.length) (y : Int) : hE l' y = hE l y ∧ gT l' y = gT l y ∧ gA l' y = gA l y ∧ gL l' y = gL l y := same_ents (h.ents hb) y
theorem goodS_ents {n : Nat} {R R' S : Nat → Bytes} (g : GoodS n R S) (h : ∀ j, j < 40 → R' j = R j) : GoodS n R' S where
  none j hj hh := by rw [h j hj] at hh ⊢; exact g.none j hj hh
  fit j hj hh := by rw [h j hj] at hh ⊢; exact g.fit j hj hh
  apart i hi j hj hh hh' := by rw [h i hi] at hh ⊢; rw [h j (by omega)] at hh' ⊢; exact g.apart i hi j hj hh hh'
  root i hi hz := badR_mono (g.root i hi hz) fun hl => by
    obtain ⟨j, hj, hh, hx⟩ := leadsS_iff.1 hl
    exact leadsS_iff.2 ⟨j, hj, by rw [h j hj]; exact hh, hx⟩
  name := g.name
theorem PutsR.good (h : PutsR l l' i x) (hg : Good l) (hx : zeroE x = true ∨ (badR (leadsS (rawE l)) x = false ∧ ∀ j, j < 8 → j ≠ i → zeroE (rawR l j) = false → nmR x ≠ nmR (rawR l j))) : Good l' := by
  have hb := hg.bd.1
  refine good_iff.2 ⟨by rw [h.len hb]; exact hg.len, ?_⟩
  rw [h.len hb]
  exact goodS_ents (hg.s.putR i x (h.rots hb) hx) (h.ents hb)
theorem PutsR.count (h : PutsR l l' i x) (hb : 288 ≤ l.length) : (rootsL l').length + (if zeroE (rawR l i) = false then 1 else 0) = (rootsL l).length + (if zeroE x = false then 1 else 0) := by
  have hc := count_upd (fun j => !zeroE (rawR l j)) i (!zeroE x) 8
  have e : (List.range 8).filter (fun j => !zeroE (rawR l' j)) = (List.range 8).filter (fun j => if j = i then !zeroE x else !zeroE (rawR l j)) := List.filter_congr fun j hj => by
    rw [h.rots hb j (List.mem_range.1 hj)]; split <;> rfl
  unfold rootsL rootsF
  rw [List.length_map, List.length_map, e]
  have hi := h.i8
  cases h1 : zeroE (rawR l i) <;> cases h2 : zeroE x <;> simp [h1, h2, hi] at hc ⊢ <;> omega
end
theorem putRo_zero : putRo [] 0 = List.replicate 11 0 := by decide
theorem rootB_facts (s : Bytes) (y : Int) (hh : handleB y = true) (hnm : isName s = true) : zeroE (rootB s y) = false ∧ nmR (rootB s y) = s ∧ (rootB s y).length = 11 ∧ ((rootB s y).getD 10 0).toNat = y.toNat ∧ gotName ((rootB s y).take 8) = true ∧ (rootB s y).getD 8 0 = 0 ∧ (rootB s y).getD 9 0 = 0 := by
  have hb := handleB_true.1 hh
  have h8 := nameB_len s hnm
  obtain ⟨h1, h2⟩ := nameB_back s hnm
  have ht : (rootB s y).take 8 = nameB s := by unfold rootB; rw [List.take_append_of_le_length (by omega), List.take_of_length_le (by omega)]
  have hd : (UInt8.ofNat y.toNat).toNat = y.toNat := by rw [UInt8.toNat_ofNat', Nat.mod_eq_of_lt (by omega)]
  refine ⟨rootB_zero s y hh, by unfold nmR; rw [ht]; exact h2, rootB_len s y hnm, ?_, by rw [ht]; exact h1, ?_, ?_⟩
  · unfold rootB
    rw [List.getD_eq_getElem?_getD, List.getElem?_append_right (by omega), h8]
    exact hd
  · unfold rootB
    rw [List.getD_eq_getElem?_getD, List.getElem?_append_right (by omega), h8]
    rfl
  · unfold rootB
    rw [List.getD_eq_getElem?_getD, List.getElem?_append_right (by omega), h8]
    rfl
theorem putRo_name (s : Bytes) (y : Int) (hh : handleB y = true) : putRo s y = rootB s y := by
  have hb := handleB_true.1 hh
  unfold putRo
  rw [if_neg (by simp; omega)]
theorem hE_handle {l : Bytes} {y : Int} (h : hE l y = 0) : handleB y = true := by
  obtain ⟨k, hk, rfl, -, -⟩ := hE_zero h
  exact handleB_true.2 (by omega)
/-- what is said of a name that is set -/
structure SetIs (l l' s : Bytes) (y : Int) : Prop where
  good : Good l'
  same : ∀ z, hE l' z = hE l z ∧ gT l' z = gT l z ∧ gA l' z = gA l z ∧ gL l' z = gL l z
  lead : (leadR (rootsL l') s : Int) = y
  rest : ∀ t, t ≠ s → leadR (rootsL l') t = leadR (rootsL l) t
  count : (rootsL l').length = (rootsL l).length + (if (placeF l s 8).1 < 0 then 1 else 0)
  own : ∃ r ∈ rootsL l', (r.2 : Int) = y
  puts : ∃ i, PutsR l l' i (rootB s y)
theorem set_is {l s : Bytes} {y : Int} {i : Nat} (hg : Good l) (hn : isName s = true) (hy : hE l y = 0) (hi : i < 8) (ha : setAt l s = i) : SetIs l (splice l (200 + 11 * i) (rootB s y)) s y := by
  have hb := hg.bd.1
  have hh := hE_handle hy
  have hyb := handleB_true.1 hh
  have hyn : ((y.toNat : Nat) : Int) = y := Int.toNat_of_nonneg (by omega)
  obtain ⟨f1, f2, f3, f4, f5, f6, f7⟩ := rootB_facts s y hh hn
  have hP : PutsR l (splice l (200 + 11 * i) (rootB s y)) i (rootB s y) := ⟨hi, f3, rfl⟩
  obtain ⟨p1, p2⟩ := placeF_spec l s 8 (Nat.le_refl _)
  have hno : ∀ j, j < 8 → j ≠ i → zeroE (rawR l j) = false → nmR (rawR l j) ≠ s := fun j hj hne hz => by
    rcases p1 with ⟨a, b⟩ | ⟨q, _, b, c, d, e, _⟩
    · exact b j (by omega) hj hz
    · unfold setAt at ha
      rw [if_neg (by omega), c] at ha
      obtain rfl : q = i := by omega
      intro hs
      rcases Nat.lt_or_gt_of_ne hne with h | h
      · exact hg.s.name q b j h d hz (e.trans hs.symm)
      · exact hg.s.name j hj q h hz d (hs.trans e.symm)
  have hz : zeroE (rawR l i) = decide ((placeF l s 8).1 < 0) := by
    rcases p1 with ⟨a, b⟩ | ⟨q, _, b, c, d, e, _⟩
    · unfold setAt at ha
      rw [if_pos (by omega)] at ha
      rcases p2 with ⟨a2, b2⟩ | ⟨q, _, b2, c2, d2, e2⟩
      · omega
      · obtain rfl : q = i := by omega
        rw [d2, a]; rfl
    · unfold setAt at ha
      rw [if_neg (by omega), c] at ha
      obtain rfl : q = i := by omega
      rw [d, c]; simp
  have hG : Good (splice l (200 + 11 * i) (rootB s y)) := hP.good hg (.inr ⟨by
    unfold badR
    rw [f5, f6, f7]
    have : leadsS (rawE l) ((rootB s y).getD 10 0) = true := by
      obtain ⟨k, hk, rfl, hk1, -⟩ := hE_zero hy
      exact leadsS_iff.2 ⟨k, hk, hk1, by rw [f4]; omega⟩
    rw [this]; rfl, fun j hj hne hz => by rw [f2]; exact (hno j hj hne hz).symm⟩)
  have hr := hP.rots hb
  have hLs : leadR (rootsL (splice l (200 + 11 * i) (rootB s y))) s = y.toNat := by
    have := lead_at hG (s := s) hi (by rw [hr i hi, if_pos rfl]; exact f1) (by rw [hr i hi, if_pos rfl]; exact f2)
    rw [hr i hi, if_pos rfl, f4] at this
    exact this
  refine ⟨hG, hP.same hb, by rw [hLs]; exact hyn, fun t ht => ?_, ?_, ?_, i, hP⟩
  · by_cases hex : ∃ j, j < 8 ∧ zeroE (rawR l j) = false ∧ nmR (rawR l j) = t
    · obtain ⟨j, hj, hzj, hnj⟩ := hex
      have hne : j ≠ i := fun e => by
        subst e
        rw [hz] at hzj
        have h1 : ¬ (placeF l s 8).1 < 0 := by simpa using hzj
        rcases p1 with ⟨a, b⟩ | ⟨q, _, b, c, d, e, _⟩
        · omega
        · unfold setAt at ha
          rw [if_neg h1, c] at ha
          obtain rfl : q = j := by omega
          exact ht (hnj.symm.trans e)
      rw [lead_at hg hj hzj hnj, lead_at hG hj (by rw [hr j hj, if_neg hne]; exact hzj) (by rw [hr j hj, if_neg hne]; exact hnj), hr j hj, if_neg hne]
    · rw [lead_no hg (fun j hj hzj hnj => hex ⟨j, hj, hzj, hnj⟩), lead_no hG (fun j hj hzj hnj => ?_)]
      rw [hr j hj] at hzj hnj
      by_cases e : j = i
      · rw [if_pos e, f2] at hnj; exact ht hnj.symm
      · rw [if_neg e] at hzj hnj; exact hex ⟨j, hj, hzj, hnj⟩
  · have hc := hP.count hb
    rw [f1, hz] at hc
    by_cases h0 : (placeF l s 8).1 < 0
    · simp [h0] at hc ⊢; omega
    · simp [h0] at hc ⊢; omega
  · refine ⟨rootP (rootB s y), mem_rootsF.2 ⟨i, hi, by rw [hr i hi, if_pos rfl]; exact f1, by rw [hr i hi, if_pos rfl]⟩, ?_⟩
    rw [rootB_P s y hh hn]
    exact hyn
/-- a name that was set lies at its own place then -/
theorem SetIs.place {l l' s : Bytes} {y : Int} (h : SetIs l l' s y) (hg : Good l) (hn : isName s = true) (hy : hE l y = 0) : ∃ i : Nat, i < 8 ∧ (placeF l' s 8).1 = i ∧ zeroE (rawR l' i) = false ∧ nmR (rawR l' i) = s := by
  obtain ⟨i, hP⟩ := h.puts
  obtain ⟨f1, f2, -⟩ := rootB_facts s y (hE_handle hy) hn
  have hr := hP.rots hg.bd.1 i hP.i8
  rw [if_pos rfl] at hr
  obtain ⟨p1, -⟩ := placeF_spec l' s 8 (Nat.le_refl _)
  rcases p1 with ⟨a, b⟩ | ⟨q, _, b, c, d, e, _⟩
  · exact absurd (by rw [hr]; exact f2) (b i (by have := hP.i8; omega) hP.i8 (by rw [hr]; exact f1))
  · exact ⟨q, b, c, d, e⟩
/-- unset -/
theorem unset_is {l s : Bytes} {i : Nat} (hg : Good l) (hi : i < 8) (hz : zeroE (rawR l i) = false) (hs : nmR (rawR l i) = s) : Good (splice l (200 + 11 * i) (List.replicate 11 0)) ∧ leadR (rootsL (splice l (200 + 11 * i) (List.replicate 11 0))) s = 0 ∧ (placeF (splice l (200 + 11 * i) (List.replicate 11 0)) s 8).1 = -1 := by
  have hP : PutsR l (splice l (200 + 11 * i) (List.replicate 11 0)) i (List.replicate 11 0) := ⟨hi, by simp, rfl⟩
  have hG := hP.good hg (.inl (zeros_zero 11))
  have hr := hP.rots hg.bd.1
  have hno : ∀ j, j < 8 → zeroE (rawR (splice l (200 + 11 * i) (List.replicate 11 0)) j) = false → nmR (rawR (splice l (200 + 11 * i) (List.replicate 11 0)) j) ≠ s := fun j hj hzj hnj => by
    rw [hr j hj] at hzj hnj
    by_cases e : j = i
    · rw [if_pos e, zeros_zero] at hzj; cases hzj
    · rw [if_neg e] at hzj hnj
      rcases Nat.lt_or_gt_of_ne e with h | h
      · exact hg.s.name i hi j h hz hzj (hs.trans hnj.symm)
      · exact hg.s.name j hj i h hzj hz (hnj.trans hs.symm)
  refine ⟨hG, lead_no hG hno, ?_⟩
  obtain ⟨p1, -⟩ := placeF_spec (splice l (200 + 11 * i) (List.replicate 11 0)) s 8 (Nat.le_refl _)
  rcases p1 with ⟨a, _⟩ | ⟨q, _, b, c, d, e, _⟩
  · exact a
  · exact absurd e (hno q b d)
end Go.Proofs.YtnceheienlekaaaGreatDoor
/- root.Set of whatever, and root.Unset. -/
namespace Go.Proofs.YtnceheienlekaaaGreatDoor
open Go.RowKit

/-- the fault of Set; the image behind it -/
def setE (l s : Bytes) (x : Int) : Nat := if isName s = false then 2 else if hE l x ≠ 0 then hE l x else if setAt l s < 0 then 4 else 0
def setL (l s : Bytes) (x : Int) : Bytes := if setE l s x = 0 then splice l (200 + 11 * (setAt l s).toNat) (rootB s x) else l
def unE (l s : Bytes) : Nat := if isName s = false then 2 else if (placeF l s 8).1 < 0 then 5 else 0
def unL (l s : Bytes) : Bytes := if unE l s = 0 then splice l (200 + 11 * (placeF l s 8).1.toNat) (List.replicate 11 0) else l
theorem setAt_lt (l s : Bytes) : -1 ≤ setAt l s ∧ setAt l s < 8 := by
  obtain ⟨p1, p2⟩ := placeF_spec l s 8 (Nat.le_refl _)
  unfold setAt
  split
  · rcases p2 with ⟨a, _⟩ | ⟨q, _, b, c, _⟩ <;> omega
  · rcases p1 with ⟨a, _⟩ | ⟨q, _, b, c, _⟩ <;> omega
theorem setE_ok {l s : Bytes} {x : Int} (h : setE l s x = 0) : isName s = true ∧ hE l x = 0 ∧ ∃ i : Nat, i < 8 ∧ setAt l s = i ∧ setL l s x = splice l (200 + 11 * i) (rootB s x) := by
  have h' := h
  unfold setE at h
  cases hn : isName s with
  | false => rw [hn] at h; simp at h
  | true =>
    rw [hn] at h
    by_cases h0 : hE l x = 0
    · by_cases h1 : setAt l s < 0
      · simp [h0, h1] at h
      · have := setAt_lt l s
        refine ⟨rfl, h0, (setAt l s).toNat, by omega, by omega, ?_⟩
        unfold setL; rw [if_pos h']
    · simp [h0] at h
theorem setE_is {l s : Bytes} {x : Int} (hg : Good l) (h : setE l s x = 0) : SetIs l (setL l s x) s x := by
  obtain ⟨h1, h2, i, h3, h4, h5⟩ := setE_ok h
  rw [h5]; exact set_is hg h1 h2 h3 h4
theorem unL_good {l s : Bytes} (hg : Good l) : Good (unL l s) := by
  unfold unL
  split
  · rename_i h
    obtain ⟨p1, p2⟩ := placeF_spec l s 8 (Nat.le_refl _)
    rcases p1 with ⟨a, _⟩ | ⟨q, _, b, c, d, e, _⟩
    · unfold unE at h; rw [if_pos (by omega : (placeF l s 8).1 < 0)] at h; split at h <;> simp at h
    · rw [c, Int.toNat_natCast]; exact (unset_is hg b d e).1
  · exact hg
section
variable {w0 w : World} {F : Nat → Prop} {h : Nat} {l : Bytes}
set_option maxRecDepth 100000 in
theorem rset_any (s : Bytes) (x : Int) (hp : Hp w0 w F h l) (hg : Good l) (hs : s.length ≤ 140737488351232) :
    Calls Tryz.prog 8 #[.pointer (some ⟨h, 0, none⟩), sv s, .int .i64 x] w fun e w' => e = .returned (.tuple #[.bool (decide (setE l s x = 0 ∧ (placeF l s 8).1 < 0)), errV (setE l s x)]) ∧ ∃ F', HpM w0 w w' F F' h (setL l s x) := by
  cases hn : isName s with
  | false =>
    have he : setE l s x = 2 := by unfold setE; rw [if_pos hn]
    have hL : setL l s x = l := by unfold setL; rw [he]; rfl
    rw [he, hL]
    rw [show decide ((2 : Nat) = 0 ∧ (placeF l s 8).1 < 0) = false from by simp]
    have HP := Hidden.mk hp
    have HC := Hidden.mk (putName_no s w hs hn)
    clear hp hg he hL hn
    go_enter Tryz.func8, Tryz.ntmps8
    go_wp2_with fail
    refine HC.out.mono ?_
    rintro e w2 ⟨rfl, hb2⟩
    have HB := Hidden.mk (HP.out.same hb2)
    clear hb2 HC
    go_wp2_with fail
    go_ret2
    exact ⟨rfl, F, HB.out⟩
  | true =>
    by_cases hx : hE l x = 0
    · have hA := setAt_lt l s
      by_cases ha : setAt l s < 0
      · have he : setE l s x = 4 := by unfold setE; rw [if_neg (by rw [hn]; decide), if_neg (by omega), if_pos ha]
        have hL : setL l s x = l := by unfold setL; rw [he]; rfl
        rw [he, hL]
        rw [show decide ((4 : Nat) = 0 ∧ (placeF l s 8).1 < 0) = false from by simp]
        refine (rset_full s x hp hg hn hx ha).mono ?_
        rintro e w' ⟨rfl, hb⟩
        exact ⟨rfl, F, hp.same hb⟩
      · have he : setE l s x = 0 := by unfold setE; rw [if_neg (by rw [hn]; decide), if_neg (by omega), if_neg ha]
        obtain ⟨_, _, i, hi, hai, hL⟩ := setE_ok he
        rw [he, hL]
        refine (rset_ok s x i hp hg hn hx hi hai).mono ?_
        rintro e w' ⟨rfl, F', hm⟩
        rw [putRo_name s x (hE_handle hx)] at hm
        refine ⟨?_, F', hm⟩
        rw [show decide ((0 : Nat) = 0 ∧ (placeF l s 8).1 < 0) = decide ((placeF l s 8).1 < 0) from by simp]
        rfl
    · have he : setE l s x = hE l x := by unfold setE; rw [if_neg (by rw [hn]; decide), if_pos hx]
      have hL : setL l s x = l := by unfold setL; rw [he, if_neg hx]
      have hev : errV (hE l x) = .iface 59 (.int .i64 (hE l x : Int)) := by unfold errV; rw [if_neg hx]
      rw [he, hL]
      rw [show decide (hE l x = 0 ∧ (placeF l s 8).1 < 0) = false from by simp [hx]]
      have HP := Hidden.mk hp
      have HC := Hidden.mk (putName_ok s w hn)
      have HT : Hidden (∀ W, Below w.heap.size w W → Calls Tryz.prog 32 #[.pointer (some ⟨h, 0, none⟩), .int .i64 x] W fun e w' => e = .returned (.tuple #[.int .i64 (gT l x), .iface 59 (.int .i64 (hE l x : Int))]) ∧ Below W.heap.size W w') := ⟨fun W hW => by rw [← hev]; exact htag_any x (hp.below hW)⟩
      rw [hev]
      generalize gT l x = gt at *
      generalize (hE l x : Int) = q at *
      clear hp hg he hL hn hx hev
      go_enter Tryz.func8, Tryz.ntmps8
      go_wp2_with fail
      refine HC.out.mono ?_
      rintro e w1 ⟨gn, rfl, -, -, hb1⟩
      have HB1 := Hidden.mk hb1
      clear hb1 HC
      go_wp2_with fail
      refine (HT.out w1 HB1.out).mono ?_
      rintro e w2 ⟨rfl, hb2⟩
      have HB2 := Hidden.mk (HP.out.same (HB1.out.trans (hb2.mono HB1.out.size)))
      clear hb2 HT HB1
      go_wp2_with fail
      go_ret2
      exact ⟨rfl, F, HB2.out⟩
set_option maxRecDepth 100000 in
theorem runset_any (s : Bytes) (hp : Hp w0 w F h l) (hg : Good l) (hs : s.length ≤ 140737488351232) :
    Calls Tryz.prog 14 #[.pointer (some ⟨h, 0, none⟩), sv s] w fun e w' => e = .returned (errV (unE l s)) ∧ ∃ F', HpM w0 w w' F F' h (unL l s) := by
  have HP := Hidden.mk hp
  cases hn : isName s with
  | false =>
    have he : unE l s = 2 := by unfold unE; rw [if_pos hn]
    have hL : unL l s = l := by unfold unL; rw [he]; rfl
    rw [he, hL]
    have HC := Hidden.mk (putName_no s w hs hn)
    clear hp hg he hL hn
    go_enter Tryz.func14, Tryz.ntmps14
    go_wp2_with fail
    refine HC.out.mono ?_
    rintro e w2 ⟨rfl, hb2⟩
    have HB := Hidden.mk (HP.out.same hb2)
    clear hb2 HC
    go_wp2_with fail
    go_ret
    exact ⟨rfl, F, HB.out⟩
  | true =>
    have HC := Hidden.mk (putName_ok s w hn)
    have HPL : Hidden (∀ W, Below w.heap.size w W → Calls Tryz.prog 33 #[.pointer (some ⟨h, 0, none⟩), sv s] W fun e w' => e = .returned (.tuple #[.int .i64 (placeF l s 8).1, .int .i64 (placeF l s 8).2]) ∧ Below W.heap.size W w') := ⟨fun W hW => place_any s (hp.below hW) hg⟩
    obtain ⟨p1, -⟩ := placeF_spec l s 8 (Nat.le_refl _)
    rcases p1 with ⟨a, _⟩ | ⟨i, _, b, c, d, e, _⟩
    · have he : unE l s = 5 := by unfold unE; rw [if_neg (by rw [hn]; decide), if_pos (by omega)]
      have hL : unL l s = l := by unfold unL; rw [he]; rfl
      rw [he, hL]
      rw [a] at HPL
      generalize (placeF l s 8).2 = p2 at *
      clear hp hg he hL hn a
      go_enter Tryz.func14, Tryz.ntmps14
      go_wp2_with fail
      refine HC.out.mono ?_
      rintro e w1 ⟨gn, rfl, -, -, hb1⟩
      have HB1 := Hidden.mk hb1
      clear hb1 HC
      go_wp2_with fail
      refine (HPL.out w1 HB1.out).mono ?_
      rintro e w2 ⟨rfl, hb2⟩
      have HB2 := Hidden.mk (HP.out.same (HB1.out.trans (hb2.mono HB1.out.size)))
      clear hb2 HPL HB1
      go_wp2_with fail
      go_ret
      exact ⟨rfl, F, HB2.out⟩
    · have he : unE l s = 0 := by unfold unE; rw [if_neg (by rw [hn]; decide), if_neg (by omega)]
      have hL : unL l s = splice l (200 + 11 * i) (List.replicate 11 0) := by unfold unL; rw [if_pos he, c, Int.toNat_natCast]
      rw [he, hL]
      rw [c] at HPL
      have HPR : Hidden (∀ W, Below w.heap.size w W → Calls Tryz.prog 34 #[.pointer (some ⟨h, 0, none⟩), .int .i64 (i : Int), .agg #[sv [], .int .i64 0]] W fun e w' => e = .returned .nilIface ∧ ∃ F', HpM w0 W w' F F' h (splice l (200 + 11 * i) (List.replicate 11 0))) := ⟨fun W hW => by
        have := hroot_ok i [] 0 (hp.below hW) b (.inl ⟨rfl, rfl⟩)
        rw [putRo_zero] at this; exact this⟩
      have d1 : decide ((i : Int) < 0) = false := by simp
      generalize splice l (200 + 11 * i) (List.replicate 11 0) = l' at *
      generalize (placeF l s 8).2 = p2 at *
      clear hp hg he hL hn c d e b
      go_enter Tryz.func14, Tryz.ntmps14
      go_wp2_with fail
      refine HC.out.mono ?_
      rintro e w1 ⟨gn, rfl, -, -, hb1⟩
      have HB1 := Hidden.mk hb1
      clear hb1 HC
      go_wp2_with fail
      refine (HPL.out w1 HB1.out).mono ?_
      rintro e w2 ⟨rfl, hb2⟩
      have HB2 := Hidden.mk (HB1.out.trans (hb2.mono HB1.out.size))
      clear hb2 HPL HB1
      go_wp2_with fail
      refine (HPR.out w2 HB2.out).mono ?_
      rintro e w3 ⟨rfl, F', hm⟩
      have HF := Hidden.mk ((HP.out.same HB2.out).trans hm)
      clear hm HPR HB2
      go_wp2_with fail
      go_ret
      exact ⟨rfl, F', HF.out⟩
end
end Go.Proofs.YtnceheienlekaaaGreatDoor
/- RootLeads: the walk. -/
namespace Go.Proofs.YtnceheienlekaaaGreatDoor
open Go.RowKit

theorem getRE_all {l s : Bytes} : getRE l s (-1) = if isName s = false then 2 else if leadR (rootsL l) s = 0 then 5 else 0 := by
  unfold getRE
  rw [if_neg (show ¬ ((-1 : Int) < -1 ∨ 15 < (-1 : Int)) by omega), if_neg (show ¬ ((0 : Int) ≤ -1 ∧ gT l (leadR (rootsL l) s) ≠ -1) by omega)]
theorem leads_first : ∃ l1 l2 : Bytes, allocL (List.replicate 320 0) 1 3 = l1 ∧ Good l1 ∧ allocE (List.replicate 320 0) 1 3 = 0 ∧ allocH (List.replicate 320 0) 1 3 = 1 ∧ setL l1 [97] 1 = l2 ∧ setE l1 [97] 1 = 0 ∧ (placeF l1 [97] 8).1 < 0 ∧ Good l2 ∧ getRE l2 [97] 3 = 0 ∧ getRH l2 [97] 3 = 1 ∧ getRE l2 [97] 4 = 8 ∧ getRH l2 [97] 4 = 0 := by
  have hg : Good (List.replicate 320 0) := good_zero' rfl
  have hz : ∀ j, j < 40 → hasE (rawE (List.replicate 320 0) j) = false := fun j hj => by
    rw [show rawE (List.replicate 320 0) j = List.replicate 5 0 from zeros_cut 320 (5 * j) 5 (by omega)]; exact zeros_has
  have hr : ∀ i, i < 8 → rawR (List.replicate 320 0) i = List.replicate 11 0 := fun i hi => zeros_cut 320 (200 + 11 * i) 11 (by omega)
  have hfh : fH (List.replicate 320 0) 40 = 1 := by
    rcases fH_spec (List.replicate 320 0) 40 (Nat.le_refl _) with ⟨_, hall⟩ | ⟨q, _, k2, k3, k4, k5⟩
    · have := hall 0 (by omega) (by omega)
      rw [hz 0 (by omega)] at this; cases this
    · rw [k3]
      by_cases hq : q = 0
      · rw [hq]
      · have := k5 0 (by omega) (by omega)
        rw [hz 0 (by omega)] at this; cases this
  have hc := good_chk hg
  have hlen : (List.replicate 320 (0 : UInt8)).length = 320 := List.length_replicate
  generalize List.replicate 320 (0 : UInt8) = l at *
  rw [hlen] at hc
  have hE : allocE l 1 3 = 0 := by
    have hf : fitE ((320 : Nat) - 288 : Int) (takenL l) 1 = 0 := fit_exists hc (p := 0) (by omega) (by omega) (by omega) (fun e he => by
      obtain ⟨j, hj, hh, _⟩ := takenL_mem.1 he
      rw [hz j hj] at hh; cases hh)
    unfold allocE
    rw [if_neg (by decide), hlen, if_neg (by rw [hfh, hf]; decide)]
  have hH : allocH l 1 3 = 1 := by unfold allocH; rw [if_pos hE, hfh]; rfl
  obtain ⟨_, _, _, _, _, _, hh1, ht1⟩ := alloc_read hg hE
  rw [hH] at hh1 ht1
  obtain ⟨k, a, n', t', hn, ht, hH', _, hi⟩ := alloc_is hg hE
  have hg1 := hi.good hg
  have hro := hi.rots
  have hzr : ∀ i, i < 8 → zeroE (rawR (allocL l 1 3) i) = true := fun i hi' => by rw [hro i hi', hr i hi']; exact zeros_zero 11
  have hp : (placeF (allocL l 1 3) [97] 8).1 = -1 ∧ (placeF (allocL l 1 3) [97] 8).2 = 0 := by
    obtain ⟨p1, p2⟩ := placeF_spec (allocL l 1 3) [97] 8 (Nat.le_refl _)
    constructor
    · rcases p1 with ⟨a, _⟩ | ⟨q, _, b, c, d, e, _⟩
      · exact a
      · rw [hzr q b] at d; cases d
    · rcases p2 with ⟨a, b⟩ | ⟨q, _, b, c, d, e⟩
      · have := b 0 (by omega) (by omega)
        rw [hzr 0 (by omega)] at this; cases this
      · by_cases hq : q = 0
        · rw [c, hq]; rfl
        · have := e 0 (by omega) (by omega)
          rw [hzr 0 (by omega)] at this; cases this
  generalize allocL l 1 3 = l1 at *
  have hsE : setE l1 [97] 1 = 0 := by
    have hsA : setAt l1 [97] = 0 := by unfold setAt; rw [if_pos (by omega)]; exact hp.2
    unfold setE
    rw [if_neg (by decide), if_neg (by rw [hh1]; decide), hsA]; rfl
  have hS := setE_is hg1 hsE
  have hl : leadR (rootsL (setL l1 [97] 1)) [97] = 1 := by have := hS.lead; omega
  have hT : gT (setL l1 [97] 1) 1 = 3 := (hS.same 1).2.1.trans ht1
  have e3 : getRE (setL l1 [97] 1) [97] 3 = 0 := by
    unfold getRE
    rw [if_neg (by decide), if_neg (by omega), hl, if_neg (by omega), if_neg (fun h => h.2 hT)]
  have e4 : getRE (setL l1 [97] 1) [97] 4 = 8 := by
    unfold getRE
    rw [if_neg (by decide), if_neg (by omega), hl, if_neg (by omega), if_pos ⟨by omega, by rw [show (((1 : Nat)) : Int) = 1 from rfl, hT]; omega⟩]
  refine ⟨l1, _, rfl, hg1, hE, hH, rfl, hsE, by omega, hS.good, e3, ?_, e4, ?_⟩
  · unfold getRH; rw [if_pos e3, hl]
  · unfold getRH; rw [if_neg (by omega)]
/-- what the law asks of an image in which a name was set -/
structure LeadsIs (l s t : Bytes) (x : Int) (l2 l3 : Bytes) : Prop where
  g2 : Good l2
  e5 : getRE l2 s (-1) = 0
  h5 : (getRH l2 s (-1) : Int) = x
  yt : t ≠ s → getRE l2 t (-1) = getRE l t (-1) ∧ getRH l2 t (-1) = getRH l t (-1)
  fr : freeE l2 x = 7
  fl : freeL l2 x = l2
  count : (rootsL l2).length = (rootsL l).length + (if (placeF l s 8).1 < 0 then 1 else 0)
  u : unE l2 s = 0
  g3 : Good l3
  none : getRE l3 s (-1) = 5
  again : unE l3 s = 5
theorem leads_is {l s : Bytes} {x : Int} (t : Bytes) (hg : Good l) (h : setE l s x = 0) : LeadsIs l s t x (setL l s x) (unL (setL l s x) s) := by
  have hS := setE_is hg h
  obtain ⟨hn, hx, -⟩ := setE_ok h
  have hb := handleB_true.1 (hE_handle hx)
  have hl := hS.lead
  have e5 : getRE (setL l s x) s (-1) = 0 := by
    rw [getRE_all, if_neg (by rw [hn]; decide), if_neg (by omega)]
  have hfe : freeE (setL l s x) x = 7 := by
    unfold freeE
    rw [if_neg (by rw [(hS.same x).1]; omega), if_pos]
    obtain ⟨r, hr, hr2⟩ := hS.own
    exact List.any_eq_true.2 ⟨r, hr, by rw [hr2]; exact beq_self_eq_true x⟩
  obtain ⟨i, hi, hpi, hz, hnm⟩ := hS.place hg hn hx
  have hu : unE (setL l s x) s = 0 := by unfold unE; rw [if_neg (by rw [hn]; decide), if_neg (by omega)]
  have hul : unL (setL l s x) s = splice (setL l s x) (200 + 11 * i) (List.replicate 11 0) := by unfold unL; rw [if_pos hu, hpi, Int.toNat_natCast]
  obtain ⟨u1, u2, u3⟩ := unset_is hS.good hi hz hnm
  rw [← hul] at u1 u2 u3
  refine ⟨hS.good, e5, by unfold getRH; rw [if_pos e5]; exact hl, fun ht => ?_, hfe, by unfold freeL; rw [if_neg (by omega)], hS.count, hu, u1, ?_, ?_⟩
  · have e : getRE (setL l s x) t (-1) = getRE l t (-1) := by rw [getRE_all, getRE_all, hS.rest t ht]
    refine ⟨e, ?_⟩
    unfold getRH
    rw [e, hS.rest t ht]
  · rw [getRE_all, if_neg (by rw [hn]; decide), u2, if_pos rfl]
  · unfold unE; rw [if_neg (by rw [hn]; decide), u3, if_pos (by omega)]
set_option maxRecDepth 100000 in
set_option maxHeartbeats 2000000 in
theorem rootLeads_walk (A : Option Addr) (n c : Nat) (b s t : Bytes) (x : Int) (w : World) (hg : HasType w) (hn : b.length = n) (hnc : n ≤ c) (hrd : Rd w A b) (hs : s.length ≤ 140737488351232) (ht : t.length ≤ 140737488351232) :
    Calls Tryz.prog 3 #[.slice A n c, sv s, sv t, .int .i64 x] w fun e w' => e = .returned (.bool true) ∧ Below w.heap.size w w' := by
  have HG := Hidden.mk hg
  have HA := Hidden.mk (And.intro hn (And.intro hnc hrd))
  have HSS := Hidden.mk (And.intro hs ht)
  have HN := Hidden.mk (hnew_ok 320 w (by decide))
  rw [show ((320 : Nat) : Int) = 320 from rfl] at HN
  obtain ⟨l1, l2, k1, k2, k3, k4, k5, k6, k7, k8, k9, k10, k11, k12⟩ := leads_first
  have HK2 := Hidden.mk k2
  have HK8 := Hidden.mk k8
  have HSET : Hidden (∀ (W : World) F h, Hp w W F h l1 → Calls Tryz.prog 8 #[.pointer (some ⟨h, 0, none⟩), sv [97], .int .i64 1] W fun e w' => e = .returned (.tuple #[.bool true, .nilIface]) ∧ ∃ F', HpM w W w' F F' h l2) := ⟨fun W F h hp => by
    have := rset_any [97] 1 hp k2 (by simp)
    rw [k6, k5, show errV 0 = Value.nilIface from rfl, decide_eq_true (show (0 : Nat) = 0 ∧ (placeF l1 [97] 8).1 < 0 from ⟨rfl, k7⟩)] at this
    exact this⟩
  have HGET : Hidden (∀ (W : World) F h, Hp w W F h l2 → (Calls Tryz.prog 9 #[.pointer (some ⟨h, 0, none⟩), sv [97], .int .i64 3] W fun e w' => e = .returned (.tuple #[.int .i64 1, .nilIface]) ∧ Below W.heap.size W w') ∧ (Calls Tryz.prog 9 #[.pointer (some ⟨h, 0, none⟩), sv [97], .int .i64 4] W fun e w' => e = .returned (.tuple #[.int .i64 0, .iface 59 (.int .i64 8)]) ∧ Below W.heap.size W w')) := ⟨fun W F h hp => by
    have a := rget_any [97] 3 hp k8 (by simp)
    have b := rget_any [97] 4 hp k8 (by simp)
    rw [k9, k10, show errV 0 = Value.nilIface from rfl] at a
    rw [k11, k12, show errV 8 = Value.iface 59 (.int .i64 8) from rfl] at b
    exact ⟨a, b⟩⟩
  clear hg hn hnc hrd hs ht k2 k5 k6 k7 k8 k9 k10 k11 k12
  go_enter Tryz.func3, Tryz.ntmps3
  go_wp2_with fail
  refine HN.out.mono ?_
  rintro e w1 ⟨h0, F0, rfl, hp⟩
  have HC := Hidden.mk (halloc_any 1 3 hp)
  rw [k1, k3, k4, show errV 0 = Value.nilIface from rfl] at HC
  clear hp HN k1 k3 k4
  go_wp2_with fail
  refine HC.out.mono ?_
  rintro e w2 ⟨rfl, F1, hm1⟩
  have HSE := Hidden.mk (HSET.out w2 F1 h0 hm1.hp)
  clear hm1 HC HSET
  go_wp2_with fail
  refine HSE.out.mono ?_
  rintro e w3 ⟨rfl, F2, hm2⟩
  have HP := Hidden.mk hm2.hp
  have HG1 := Hidden.mk (HGET.out w3 F2 h0 hm2.hp).1
  clear hm2 HSE
  go_wp2_with fail
  refine HG1.out.mono ?_
  rintro e w4 ⟨rfl, hb4⟩
  have HP := Hidden.mk (HP.out.below hb4)
  have HG2 := Hidden.mk (HGET.out w4 F2 h0 HP.out).2
  clear hb4 HG1 HGET
  go_wp2_with fail
  refine HG2.out.mono ?_
  rintro e w5 ⟨rfl, hb5⟩
  have HP := Hidden.mk (HP.out.below hb5)
  have HERR := Hidden.mk (err_some 8 8 w5 (HG.out.below HG.out.lt HP.out.bel))
  rw [beq_self_eq_true] at HERR
  clear hb5 HG2
  go_wp2_with fail
  refine HERR.out.mono ?_
  rintro e w6 ⟨rfl, hb6⟩
  have HB6 := Hidden.mk (HP.out.below hb6).bel
  clear hb6 HERR HP
  have HLD := Hidden.mk (loaded_ok A n c b w6 HA.out.1 HA.out.2.1 (HA.out.2.2.below HB6.out))
  have HGL := Hidden.mk (loadL_good b)
  generalize loadL b = ll at *
  go_wp2_with fail
  refine HLD.out.mono ?_
  rintro e w7 ⟨h, F, p, off, c1, rfl, hc1, hp, -, -⟩
  have HP := Hidden.mk hp
  have HBE := Hidden.mk (HB6.out.trans (hp.bel.mono HB6.out.size))
  have HG6 := Hidden.mk (HG.out.below HG.out.lt HB6.out)
  have HFIN : Hidden (∀ W, Below w6.heap.size w6 W → Below w.heap.size w W) := ⟨fun W hW => HB6.out.trans (hW.mono HB6.out.size)⟩
  clear hp HLD HG HBE HB6 HA hc1 HK2 HK8
  have HGT := Hidden.mk (rget_any t (-1) HP.out HGL.out HSS.out.2)
  go_wp2_with fail
  refine HGT.out.mono ?_
  rintro e w8 ⟨rfl, hb8⟩
  have HP := Hidden.mk (HP.out.below hb8)
  clear hb8 HGT
  have HALL := Hidden.mk (rall_any HP.out)
  go_wp2_with fail
  refine HALL.out.mono ?_
  rintro e w9 ⟨v9, rfl, hown9, hb9⟩
  obtain ⟨A9, c9, rfl, -, -⟩ := own_split hown9
  have HP := Hidden.mk (HP.out.below hb9)
  clear hown9 hb9 HALL
  have HSE := Hidden.mk (rset_any s x HP.out HGL.out HSS.out.1)
  go_wp2_with fail
  refine HSE.out.mono ?_
  rintro e w10 ⟨rfl, F10, hm10⟩
  have HP := Hidden.mk hm10.hp
  clear hm10 HSE
  by_cases hse : setE ll s x = 0
  · have HL := Hidden.mk (leads_is t HGL.out hse)
    rw [hse, show errV 0 = Value.nilIface from rfl, show decide ((0 : Nat) = 0 ∧ (placeF ll s 8).1 < 0) = decide ((placeF ll s 8).1 < 0) from by simp]
    clear hse
    generalize setL ll s x = l4 at *
    have HG5 := Hidden.mk (rget_any s (-1) HP.out HL.out.g2 HSS.out.1)
    rw [HL.out.e5, HL.out.h5, show errV 0 = Value.nilIface from rfl] at HG5
    go_wp2_with fail
    refine HG5.out.mono ?_
    rintro e w11 ⟨rfl, hb11⟩
    have HP := Hidden.mk (HP.out.below hb11)
    clear hb11 HG5
    have HGT := Hidden.mk (rget_any t (-1) HP.out HL.out.g2 HSS.out.2)
    go_wp2_with fail
    refine HGT.out.mono ?_
    rintro e w12 ⟨rfl, hb12⟩
    have HP := Hidden.mk (HP.out.below hb12)
    clear hb12 HGT
    have HFR := Hidden.mk (hfree_any x HP.out)
    rw [HL.out.fr, HL.out.fl, show errV 7 = Value.iface 59 (.int .i64 7) from rfl] at HFR
    go_wp2_with fail
    refine HFR.out.mono ?_
    rintro e w13 ⟨rfl, F13, hm13⟩
    have HP := Hidden.mk hm13.hp
    clear hm13 HFR
    have HERR := Hidden.mk (err_some 7 7 w13 (HG6.out.below HG6.out.lt HP.out.bel))
    rw [beq_self_eq_true] at HERR
    go_wp2_with fail
    refine HERR.out.mono ?_
    rintro e w14 ⟨rfl, hb14⟩
    have HP := Hidden.mk (HP.out.below hb14)
    clear hb14 HERR
    have xx : (x == x) = true := beq_self_eq_true x
    go_upto_region 23 with (fail)
    go_cut [175] (fun cv wz => cv = .bool false ∧ Hidden (Hp w6 wz F13 h l4))
    case first =>
      have hcn0 : (rootsL ll).length ≤ 8 := rootsF_len _ _
      have s1 : IntKind.i64.wrap (((rootsL ll).length : Int) + 1) = ((rootsL ll).length : Int) + 1 := IntWalk.i64_in _ (by omega)
      have HCN := Hidden.mk HL.out.count
      have HALL : Hidden (∀ W, Below w14.heap.size w14 W → Calls Tryz.prog 12 #[.pointer (some ⟨h, 0, none⟩)] W fun e w' => ∃ A c, e = .returned (.slice A (rootsL l4).length c) ∧ Hp w6 w' F13 h l4) := ⟨fun W hW => (rall_any (HP.out.below hW)).mono fun e w' ⟨v, h1, h2, h3⟩ => by
        obtain ⟨A, c, rfl, -, -⟩ := own_split h2
        exact ⟨A, c, h1, (HP.out.below hW).below h3⟩⟩
      have HPOS : Hidden ((((rootsL l4).length : Int) == ((rootsL ll).length : Int) + 1) = decide ((placeF ll s 8).1 < 0)) := ⟨by
        rw [HCN.out]
        by_cases h0 : (placeF ll s 8).1 < 0
        · simp [h0]
        · simp [h0]; omega⟩
      have HPOS2 := HPOS.out
      generalize decide ((placeF ll s 8).1 < 0) = is_ at *
      by_cases hst : s = t
      · subst hst
        have ss : ∀ W, Sem.run Tryz.prog (binOp BinOp.neq 9 (sv s) (sv s)) W = Result.ok (Value.bool false) W := fun W => by go_simp
        clear HCN HPOS
        generalize (rootsL l4).length = n4 at *
        generalize (rootsL ll).length = nl at *
        clear HL
        refine wp_region_held_drew (S := fun _ => True) (by kernel_rfl) trivial (fun hHeld => ?_)
        refine wpAnyH_take (i := 0) (oi := { dst := some 138, op := Op.move (Operand.tmp 28), type := 25, pos := "law.go:344", after := #[], guard := none }) (v := ?_) rfl (by kernel_rfl) (by kernel_rfl) (by kernel_rfl) (fun _ _ _ h => h) (Or.inl ⟨by rfl, ?_⟩) hHeld ?_
        rotate_left
        · intro w_ hSw
          go_simp
          try with_reducible rfl
        try simp only [Act.put, List.setIfInBounds_toArray, List.set_cons_zero, List.set_cons_succ]
        refine wpAnyH_take (i := 1) (oi := { dst := some 139, op := Op.binOp BinOp.neq 25 (Operand.tmp 138) (Operand.const Value.nilIface) 25, type := 4, pos := "law.go:344", after := #[{ on := 0, ground := Ground.data }], guard := none }) (v := ?_) rfl (by kernel_rfl) (by kernel_rfl) (by kernel_rfl) (fun _ _ _ h => h) (Or.inl ⟨by rfl, ?_⟩) hHeld ?_
        rotate_left
        · intro w_ hSw
          go_simp
          try with_reducible rfl
        try simp only [Act.put, List.setIfInBounds_toArray, List.set_cons_zero, List.set_cons_succ]
        refine wpAnyH_take (i := 2) (oi := { dst := some 140, op := Op.move (Operand.tmp 139), type := 4, pos := "law.go:344", after := #[{ on := 1, ground := Ground.data }], guard := none }) (v := ?_) rfl (by kernel_rfl) (by kernel_rfl) (by kernel_rfl) (fun _ _ _ h => h) (Or.inl ⟨by rfl, ?_⟩) hHeld ?_
        rotate_left
        · intro w_ hSw
          go_simp
          try with_reducible rfl
        try simp only [Act.put, List.setIfInBounds_toArray, List.set_cons_zero, List.set_cons_succ]
        refine wpAnyH_take (i := 3) (oi := { dst := some 141, op := Op.move (Operand.tmp 27), type := 3, pos := "law.go:344", after := #[{ on := 2, ground := Ground.guard }], guard := some (2, false) }) (v := ?_) rfl (by kernel_rfl) (by kernel_rfl) (by kernel_rfl) (fun _ _ _ h => h) (Or.inl ⟨by rfl, ?_⟩) hHeld ?_
        rotate_left
        · intro w_ hSw
          go_simp
          try with_reducible rfl
        try simp only [Act.put, List.setIfInBounds_toArray, List.set_cons_zero, List.set_cons_succ]
        refine wpAnyH_take (i := 4) (oi := { dst := some 142, op := Op.move (Operand.tmp 3), type := 3, pos := "law.go:344", after := #[{ on := 2, ground := Ground.guard }], guard := some (2, false) }) (v := ?_) rfl (by kernel_rfl) (by kernel_rfl) (by kernel_rfl) (fun _ _ _ h => h) (Or.inl ⟨by rfl, ?_⟩) hHeld ?_
        rotate_left
        · intro w_ hSw
          go_simp
          try with_reducible rfl
        try simp only [Act.put, List.setIfInBounds_toArray, List.set_cons_zero, List.set_cons_succ]
        refine wpAnyH_take (i := 5) (oi := { dst := some 143, op := Op.binOp BinOp.neq 3 (Operand.tmp 141) (Operand.tmp 142) 3, type := 4, pos := "law.go:344", after := #[{ on := 3, ground := Ground.data }, { on := 4, ground := Ground.data }, { on := 2, ground := Ground.guard }], guard := some (2, false) }) (v := ?_) rfl (by kernel_rfl) (by kernel_rfl) (by kernel_rfl) (fun _ _ _ h => h) (Or.inl ⟨by rfl, ?_⟩) hHeld ?_
        rotate_left
        · intro w_ hSw
          go_simp
          try with_reducible rfl
        try simp only [Act.put, List.setIfInBounds_toArray, List.set_cons_zero, List.set_cons_succ]
        refine wpAnyH_take (i := 6) (oi := { dst := some 144, op := Op.pick (Operand.tmp 140) (Operand.const (Value.bool true)) (Operand.tmp 143), type := 4, pos := "law.go:344", after := #[{ on := 2, ground := Ground.data }, { on := 5, ground := Ground.data }], guard := none }) (v := ?_) rfl (by kernel_rfl) (by kernel_rfl) (by kernel_rfl) (fun _ _ _ h => h) (Or.inl ⟨by rfl, ?_⟩) hHeld ?_
        rotate_left
        · intro w_ hSw
          go_simp
          try with_reducible rfl
        try simp only [Act.put, List.setIfInBounds_toArray, List.set_cons_zero, List.set_cons_succ]
        refine wpAnyH_take (i := 7) (oi := { dst := some 145, op := Op.move (Operand.tmp 144), type := 4, pos := "law.go:344", after := #[{ on := 6, ground := Ground.data }, { on := 2, ground := Ground.chain }], guard := none }) (v := ?_) rfl (by kernel_rfl) (by kernel_rfl) (by kernel_rfl) (fun _ _ _ h => h) (Or.inl ⟨by rfl, ?_⟩) hHeld ?_
        rotate_left
        · intro w_ hSw
          go_simp
          try with_reducible rfl
        try simp only [Act.put, List.setIfInBounds_toArray, List.set_cons_zero, List.set_cons_succ]
        refine wpAnyH_take (i := 8) (oi := { dst := some 146, op := Op.move (Operand.tmp 32), type := 4, pos := "law.go:344", after := #[{ on := 7, ground := Ground.guard }], guard := some (7, false) }) (v := ?_) rfl (by kernel_rfl) (by kernel_rfl) (by kernel_rfl) (fun _ _ _ h => h) (Or.inl ⟨by rfl, ?_⟩) hHeld ?_
        rotate_left
        · intro w_ hSw
          go_simp
          try with_reducible rfl
        try simp only [Act.put, List.setIfInBounds_toArray, List.set_cons_zero, List.set_cons_succ]
        refine wpAnyH_take (i := 9) (oi := { dst := some 147, op := Op.unOp UnOp.not 4 (Operand.tmp 146), type := 4, pos := "law.go:344", after := #[{ on := 8, ground := Ground.data }, { on := 7, ground := Ground.guard }], guard := some (7, false) }) (v := ?_) rfl (by kernel_rfl) (by kernel_rfl) (by kernel_rfl) (fun _ _ _ h => h) (Or.inl ⟨by rfl, ?_⟩) hHeld ?_
        rotate_left
        · intro w_ hSw
          go_simp
          try with_reducible rfl
        try simp only [Act.put, List.setIfInBounds_toArray, List.set_cons_zero, List.set_cons_succ]
        refine wpAnyH_take (i := 10) (oi := { dst := some 148, op := Op.pick (Operand.tmp 145) (Operand.const (Value.bool true)) (Operand.tmp 147), type := 4, pos := "law.go:344", after := #[{ on := 7, ground := Ground.data }, { on := 9, ground := Ground.data }], guard := none }) (v := ?_) rfl (by kernel_rfl) (by kernel_rfl) (by kernel_rfl) (fun _ _ _ h => h) (Or.inl ⟨by rfl, ?_⟩) hHeld ?_
        rotate_left
        · intro w_ hSw
          go_simp
          try with_reducible rfl
        try simp only [Act.put, List.setIfInBounds_toArray, List.set_cons_zero, List.set_cons_succ]
        refine wpAnyH_take (i := 11) (oi := { dst := some 149, op := Op.move (Operand.tmp 148), type := 4, pos := "law.go:344", after := #[{ on := 10, ground := Ground.data }, { on := 7, ground := Ground.chain }], guard := none }) (v := ?_) rfl (by kernel_rfl) (by kernel_rfl) (by kernel_rfl) (fun _ _ _ h => h) (Or.inl ⟨by rfl, ?_⟩) hHeld ?_
        rotate_left
        · intro w_ hSw
          go_simp
          try with_reducible rfl
        try simp only [Act.put, List.setIfInBounds_toArray, List.set_cons_zero, List.set_cons_succ]
        refine wpAnyH_take (i := 12) (oi := { dst := some 150, op := Op.move (Operand.tmp 1), type := 9, pos := "law.go:344", after := #[{ on := 11, ground := Ground.guard }], guard := some (11, false) }) (v := ?_) rfl (by kernel_rfl) (by kernel_rfl) (by kernel_rfl) (fun _ _ _ h => h) (Or.inl ⟨by rfl, ?_⟩) hHeld ?_
        rotate_left
        · intro w_ hSw
          go_simp
          try with_reducible rfl
        try simp only [Act.put, List.setIfInBounds_toArray, List.set_cons_zero, List.set_cons_succ]
        refine wpAnyH_take (i := 13) (oi := { dst := some 151, op := Op.move (Operand.tmp 2), type := 9, pos := "law.go:344", after := #[{ on := 11, ground := Ground.guard }], guard := some (11, false) }) (v := ?_) rfl (by kernel_rfl) (by kernel_rfl) (by kernel_rfl) (fun _ _ _ h => h) (Or.inl ⟨by rfl, ?_⟩) hHeld ?_
        rotate_left
        · intro w_ hSw
          go_simp
          try with_reducible rfl
        try simp only [Act.put, List.setIfInBounds_toArray, List.set_cons_zero, List.set_cons_succ]
        refine wpAnyH_take (i := 14) (oi := { dst := some 152, op := Op.binOp BinOp.neq 9 (Operand.tmp 150) (Operand.tmp 151) 9, type := 4, pos := "law.go:344", after := #[{ on := 12, ground := Ground.data }, { on := 13, ground := Ground.data }, { on := 11, ground := Ground.guard }], guard := some (11, false) }) (v := ?_) rfl (by kernel_rfl) (by kernel_rfl) (by kernel_rfl) (fun _ _ _ h => h) (Or.inl ⟨by rfl, ?_⟩) hHeld ?_
        rotate_left
        · intro w_ hSw
          go_simp
          try with_reducible rfl
        try simp only [Act.put, List.setIfInBounds_toArray, List.set_cons_zero, List.set_cons_succ]
        refine wpAnyH_take (i := 15) (oi := { dst := some 153, op := Op.move (Operand.tmp 152), type := 4, pos := "law.go:344", after := #[{ on := 14, ground := Ground.data }, { on := 11, ground := Ground.chain }, { on := 11, ground := Ground.guard }], guard := some (11, false) }) (v := ?_) rfl (by kernel_rfl) (by kernel_rfl) (by kernel_rfl) (fun _ _ _ h => h) (Or.inl ⟨by rfl, ?_⟩) hHeld ?_
        rotate_left
        · intro w_ hSw
          go_simp
          try with_reducible rfl
        try simp only [Act.put, List.setIfInBounds_toArray, List.set_cons_zero, List.set_cons_succ]
        refine wpAnyH_take (i := 16) (oi := { dst := some 154, op := Op.move (Operand.tmp 29), type := 3, pos := "law.go:344", after := #[{ on := 15, ground := Ground.guard }], guard := some (15, true) }) (v := _) rfl (by kernel_rfl) (by kernel_rfl) (by kernel_rfl) (fun _ _ _ h => h) (Or.inr ⟨by rfl, rfl⟩) hHeld ?_
        try simp only [Act.put, List.setIfInBounds_toArray, List.set_cons_zero, List.set_cons_succ]
        refine wpAnyH_take (i := 17) (oi := { dst := some 155, op := Op.move (Operand.tmp 22), type := 3, pos := "law.go:344", after := #[{ on := 15, ground := Ground.guard }], guard := some (15, true) }) (v := _) rfl (by kernel_rfl) (by kernel_rfl) (by kernel_rfl) (fun _ _ _ h => h) (Or.inr ⟨by rfl, rfl⟩) hHeld ?_
        try simp only [Act.put, List.setIfInBounds_toArray, List.set_cons_zero, List.set_cons_succ]
        refine wpAnyH_take (i := 18) (oi := { dst := some 156, op := Op.binOp BinOp.neq 3 (Operand.tmp 154) (Operand.tmp 155) 3, type := 4, pos := "law.go:344", after := #[{ on := 16, ground := Ground.data }, { on := 17, ground := Ground.data }, { on := 15, ground := Ground.guard }], guard := some (15, true) }) (v := _) rfl (by kernel_rfl) (by kernel_rfl) (by kernel_rfl) (fun _ _ _ h => h) (Or.inr ⟨by rfl, rfl⟩) hHeld ?_
        try simp only [Act.put, List.setIfInBounds_toArray, List.set_cons_zero, List.set_cons_succ]
        refine wpAnyH_take (i := 19) (oi := { dst := some 157, op := Op.move (Operand.tmp 156), type := 4, pos := "law.go:344", after := #[{ on := 18, ground := Ground.data }, { on := 15, ground := Ground.chain }, { on := 15, ground := Ground.guard }], guard := some (15, true) }) (v := _) rfl (by kernel_rfl) (by kernel_rfl) (by kernel_rfl) (fun _ _ _ h => h) (Or.inr ⟨by rfl, rfl⟩) hHeld ?_
        try simp only [Act.put, List.setIfInBounds_toArray, List.set_cons_zero, List.set_cons_succ]
        refine wpAnyH_take (i := 20) (oi := { dst := some 158, op := Op.move (Operand.tmp 23), type := 25, pos := "law.go:344", after := #[{ on := 19, ground := Ground.guard }], guard := some (19, false) }) (v := _) rfl (by kernel_rfl) (by kernel_rfl) (by kernel_rfl) (fun _ _ _ h => h) (Or.inr ⟨by rfl, rfl⟩) hHeld ?_
        try simp only [Act.put, List.setIfInBounds_toArray, List.set_cons_zero, List.set_cons_succ]
        refine wpAnyH_take (i := 21) (oi := { dst := some 159, op := Op.binOp BinOp.eql 25 (Operand.tmp 158) (Operand.const Value.nilIface) 25, type := 4, pos := "law.go:344", after := #[{ on := 20, ground := Ground.data }, { on := 19, ground := Ground.guard }], guard := some (19, false) }) (v := _) rfl (by kernel_rfl) (by kernel_rfl) (by kernel_rfl) (fun _ _ _ h => h) (Or.inr ⟨by rfl, rfl⟩) hHeld ?_
        try simp only [Act.put, List.setIfInBounds_toArray, List.set_cons_zero, List.set_cons_succ]
        refine wpAnyH_take (i := 22) (oi := { dst := some 160, op := Op.move (Operand.tmp 30), type := 25, pos := "law.go:344", after := #[{ on := 19, ground := Ground.guard }], guard := some (19, false) }) (v := _) rfl (by kernel_rfl) (by kernel_rfl) (by kernel_rfl) (fun _ _ _ h => h) (Or.inr ⟨by rfl, rfl⟩) hHeld ?_
        try simp only [Act.put, List.setIfInBounds_toArray, List.set_cons_zero, List.set_cons_succ]
        refine wpAnyH_take (i := 23) (oi := { dst := some 161, op := Op.binOp BinOp.eql 25 (Operand.tmp 160) (Operand.const Value.nilIface) 25, type := 4, pos := "law.go:344", after := #[{ on := 22, ground := Ground.data }, { on := 19, ground := Ground.guard }], guard := some (19, false) }) (v := _) rfl (by kernel_rfl) (by kernel_rfl) (by kernel_rfl) (fun _ _ _ h => h) (Or.inr ⟨by rfl, rfl⟩) hHeld ?_
        try simp only [Act.put, List.setIfInBounds_toArray, List.set_cons_zero, List.set_cons_succ]
        refine wpAnyH_take (i := 24) (oi := { dst := some 162, op := Op.binOp BinOp.neq 4 (Operand.tmp 159) (Operand.tmp 161) 4, type := 4, pos := "law.go:344", after := #[{ on := 21, ground := Ground.data }, { on := 23, ground := Ground.data }, { on := 19, ground := Ground.guard }], guard := some (19, false) }) (v := _) rfl (by kernel_rfl) (by kernel_rfl) (by kernel_rfl) (fun _ _ _ h => h) (Or.inr ⟨by rfl, rfl⟩) hHeld ?_
        try simp only [Act.put, List.setIfInBounds_toArray, List.set_cons_zero, List.set_cons_succ]
        refine wpAnyH_take (i := 25) (oi := { dst := some 163, op := Op.pick (Operand.tmp 157) (Operand.const (Value.bool true)) (Operand.tmp 162), type := 4, pos := "law.go:344", after := #[{ on := 19, ground := Ground.data }, { on := 24, ground := Ground.data }, { on := 15, ground := Ground.guard }], guard := some (15, true) }) (v := _) rfl (by kernel_rfl) (by kernel_rfl) (by kernel_rfl) (fun _ _ _ h => h) (Or.inr ⟨by rfl, rfl⟩) hHeld ?_
        try simp only [Act.put, List.setIfInBounds_toArray, List.set_cons_zero, List.set_cons_succ]
        refine wpAnyH_take (i := 26) (oi := { dst := some 164, op := Op.pick (Operand.tmp 153) (Operand.tmp 163) (Operand.const (Value.bool false)), type := 4, pos := "law.go:344", after := #[{ on := 15, ground := Ground.data }, { on := 25, ground := Ground.data }, { on := 11, ground := Ground.guard }], guard := some (11, false) }) (v := ?_) rfl (by kernel_rfl) (by kernel_rfl) (by kernel_rfl) (fun _ _ _ h => h) (Or.inl ⟨by rfl, ?_⟩) hHeld ?_
        rotate_left
        · intro w_ hSw
          go_simp
          try with_reducible rfl
        try simp only [Act.put, List.setIfInBounds_toArray, List.set_cons_zero, List.set_cons_succ]
        refine wpAnyH_take (i := 27) (oi := { dst := some 165, op := Op.pick (Operand.tmp 149) (Operand.const (Value.bool true)) (Operand.tmp 164), type := 4, pos := "law.go:344", after := #[{ on := 11, ground := Ground.data }, { on := 26, ground := Ground.data }], guard := none }) (v := ?_) rfl (by kernel_rfl) (by kernel_rfl) (by kernel_rfl) (fun _ _ _ h => h) (Or.inl ⟨by rfl, ?_⟩) hHeld ?_
        rotate_left
        · intro w_ hSw
          go_simp
          try with_reducible rfl
        try simp only [Act.put, List.setIfInBounds_toArray, List.set_cons_zero, List.set_cons_succ]
        refine wpAnyH_take (i := 28) (oi := { dst := some 166, op := Op.move (Operand.tmp 165), type := 4, pos := "law.go:344", after := #[{ on := 27, ground := Ground.data }, { on := 19, ground := Ground.chain }], guard := none }) (v := ?_) rfl (by kernel_rfl) (by kernel_rfl) (by kernel_rfl) (fun _ _ _ h => h) (Or.inl ⟨by rfl, ?_⟩) hHeld ?_
        rotate_left
        · intro w_ hSw
          go_simp
          try with_reducible rfl
        try simp only [Act.put, List.setIfInBounds_toArray, List.set_cons_zero, List.set_cons_succ]
        refine wpAnyH_take (i := 29) (oi := { dst := some 167, op := Op.move (Operand.tmp 25), type := 4, pos := "law.go:344", after := #[{ on := 28, ground := Ground.guard }], guard := some (28, false) }) (v := ?_) rfl (by kernel_rfl) (by kernel_rfl) (by kernel_rfl) (fun _ _ _ h => h) (Or.inl ⟨by rfl, ?_⟩) hHeld ?_
        rotate_left
        · intro w_ hSw
          go_simp
          try with_reducible rfl
        try simp only [Act.put, List.setIfInBounds_toArray, List.set_cons_zero, List.set_cons_succ]
        refine wpAnyH_take (i := 30) (oi := { dst := some 168, op := Op.move (Operand.tmp 20), type := 23, pos := "law.go:344", after := #[{ on := 28, ground := Ground.guard }], guard := some (28, false) }) (v := ?_) rfl (by kernel_rfl) (by kernel_rfl) (by kernel_rfl) (fun _ _ _ h => h) (Or.inl ⟨by rfl, ?_⟩) hHeld ?_
        rotate_left
        · intro w_ hSw
          go_simp
          try with_reducible rfl
        try simp only [Act.put, List.setIfInBounds_toArray, List.set_cons_zero, List.set_cons_succ]
        refine wpAnyH_take (i := 33) (oi := { dst := some 171, op := Op.move (Operand.tmp 24), type := 3, pos := "law.go:344", after := #[{ on := 28, ground := Ground.guard }], guard := some (28, false) }) (v := ?_) rfl (by kernel_rfl) (by kernel_rfl) (by kernel_rfl) (fun _ _ _ h => h) (Or.inl ⟨by rfl, ?_⟩) hHeld ?_
        rotate_left
        · intro w_ hSw
          go_simp
          try with_reducible rfl
        try simp only [Act.put, List.setIfInBounds_toArray, List.set_cons_zero, List.set_cons_succ]
        refine wpAnyH_take (i := 34) (oi := { dst := some 172, op := Op.binOp BinOp.add 3 (Operand.tmp 171) (Operand.const (Value.int IntKind.i64 1)) 3, type := 3, pos := "law.go:344", after := #[{ on := 33, ground := Ground.data }, { on := 28, ground := Ground.guard }], guard := some (28, false) }) (v := ?_) rfl (by kernel_rfl) (by kernel_rfl) (by kernel_rfl) (fun _ _ _ h => h) (Or.inl ⟨by rfl, ?_⟩) hHeld ?_
        rotate_left
        · intro w_ hSw
          go_simp
          try with_reducible rfl
        try simp only [Act.put, List.setIfInBounds_toArray, List.set_cons_zero, List.set_cons_succ]
        refine wpAnyH_ready (rs := [31]) (by kernel_rfl) (by simp) ?_
        refine AllReadyH.cons (o := { dst := some 169, op := Op.call { callee := Callee.value (Operand.func 12), args := #[Operand.tmp 168], argTypes := #[23] }, type := 36, pos := "law.go:344", after := #[{ on := 30, ground := Ground.data }, { on := 28, ground := Ground.chain }, { on := 28, ground := Ground.guard }], guard := some (28, false) }) rfl (fun K hK => ?_) AllReadyH.nil
        rw [if_pos (by rfl)]
        go_simp
        go_at_call 12
        refine (HALL.out _ (by exact (Below.refl _ _).drew)).mono ?_
        rintro e w15 ⟨A15, c15, rfl, hp15⟩
        dsimp only
        refine hK.out _ _ (trivial) (fun hHeld => ?_)
        clear hK K
        try simp only [Act.put, List.setIfInBounds_toArray, List.set_cons_zero, List.set_cons_succ]
        refine wpAnyH_take (i := 32) (oi := { dst := some 170, op := Op.call { callee := Callee.builtin Builtin.len, args := #[Operand.tmp 169], argTypes := #[36] }, type := 3, pos := "law.go:344", after := #[{ on := 31, ground := Ground.data }, { on := 28, ground := Ground.guard }], guard := some (28, false) }) (v := ?_) rfl (by kernel_rfl) (by kernel_rfl) (by kernel_rfl) (fun _ _ _ h => h) (Or.inl ⟨by rfl, ?_⟩) hHeld ?_
        rotate_left
        · intro w_ hSw
          go_simp
          try with_reducible rfl
        try simp only [Act.put, List.setIfInBounds_toArray, List.set_cons_zero, List.set_cons_succ]
        refine wpAnyH_take (i := 35) (oi := { dst := some 173, op := Op.binOp BinOp.eql 3 (Operand.tmp 170) (Operand.tmp 172) 3, type := 4, pos := "law.go:344", after := #[{ on := 32, ground := Ground.data }, { on := 34, ground := Ground.data }, { on := 28, ground := Ground.guard }], guard := some (28, false) }) (v := ?_) rfl (by kernel_rfl) (by kernel_rfl) (by kernel_rfl) (fun _ _ _ h => h) (Or.inl ⟨by rfl, ?_⟩) hHeld ?_
        rotate_left
        · intro w_ hSw
          go_simp
          try with_reducible rfl
        try simp only [Act.put, List.setIfInBounds_toArray, List.set_cons_zero, List.set_cons_succ]
        refine wpAnyH_take (i := 36) (oi := { dst := some 174, op := Op.binOp BinOp.neq 4 (Operand.tmp 167) (Operand.tmp 173) 4, type := 4, pos := "law.go:344", after := #[{ on := 29, ground := Ground.data }, { on := 35, ground := Ground.data }, { on := 28, ground := Ground.guard }], guard := some (28, false) }) (v := ?_) rfl (by kernel_rfl) (by kernel_rfl) (by kernel_rfl) (fun _ _ _ h => h) (Or.inl ⟨by rfl, ?_⟩) hHeld ?_
        rotate_left
        · intro w_ hSw
          go_simp
          try with_reducible rfl
        try simp only [Act.put, List.setIfInBounds_toArray, List.set_cons_zero, List.set_cons_succ]
        refine wpAnyH_take (i := 37) (oi := { dst := some 175, op := Op.pick (Operand.tmp 166) (Operand.const (Value.bool true)) (Operand.tmp 174), type := 4, pos := "law.go:344", after := #[{ on := 28, ground := Ground.data }, { on := 36, ground := Ground.data }], guard := none }) (v := ?_) rfl (by kernel_rfl) (by kernel_rfl) (by kernel_rfl) (fun _ _ _ h => h) (Or.inl ⟨by rfl, ?_⟩) hHeld ?_
        rotate_left
        · intro w_ hSw
          go_simp
          try with_reducible rfl
        try simp only [Act.put, List.setIfInBounds_toArray, List.set_cons_zero, List.set_cons_succ]
        refine wpAnyH_done (by kernel_rfl) ?_ _
        go_wp2_with fail
        go_meet
        cases is_ <;> exact ⟨rfl, ⟨hp15⟩⟩
      · have ss : (s == t) = false := by simpa using hst
        obtain ⟨y1, y2⟩ := HL.out.yt (fun e => hst e.symm)
        clear hst HCN HPOS HL
        generalize getRH ll t (-1) = yv at *
        generalize getRH l4 t (-1) = yv' at *
        generalize getRE ll t (-1) = ke at *
        generalize getRE l4 t (-1) = ke' at *
        subst y1 y2
        obtain ⟨hge, hgn, heq, hneq⟩ := errIs_errV ke'
        generalize errV ke' = ev at *
        generalize (ke' == 0) = eb at *
        have yy : (yv' == yv') = true := beq_self_eq_true _
        have yy2 : ((yv' : Int) == (yv' : Int)) = true := beq_self_eq_true _
        generalize (rootsL l4).length = n4 at *
        generalize (rootsL ll).length = nl at *
        go_region_held3 (fun _ => True) (first | trivial)
          (first | (go_at_call 12; refine (HALL.out _ (by exact (Below.refl _ _).drew)).mono ?_; rintro e w15 ⟨A15, c15, rfl, hp15⟩))
        all_goals go_wp2_with fail
        all_goals go_meet
        all_goals cases is_ <;> cases eb <;> exact ⟨rfl, ⟨hp15⟩⟩
    case rest =>
      obtain ⟨rfl, hpc⟩ := hcut
      have HP := Hidden.mk hpc.out
      clear hpc
      have HUN := Hidden.mk (runset_any s HP.out HL.out.g2 HSS.out.1)
      rw [HL.out.u, show errV 0 = Value.nilIface from rfl] at HUN
      generalize unL l4 s = l5 at *
      go_wp2_with fail
      refine HUN.out.mono ?_
      rintro e w16 ⟨rfl, F16, hm16⟩
      have HP := Hidden.mk hm16.hp
      clear hm16 HUN
      have HG5 := Hidden.mk (rget_any s (-1) HP.out HL.out.g3 HSS.out.1)
      rw [HL.out.none, show errV 5 = Value.iface 59 (.int .i64 5) from rfl] at HG5
      generalize (getRH l5 s (-1) : Int) = z5 at *
      go_wp2_with fail
      refine HG5.out.mono ?_
      rintro e w17 ⟨rfl, hb17⟩
      have HP := Hidden.mk (HP.out.below hb17)
      clear hb17 HG5
      have HERR := Hidden.mk (err_some 5 5 w17 (HG6.out.below HG6.out.lt HP.out.bel))
      rw [beq_self_eq_true] at HERR
      go_wp2_with fail
      refine HERR.out.mono ?_
      rintro e w18 ⟨rfl, hb18⟩
      have HP := Hidden.mk (HP.out.below hb18)
      clear hb18 HERR
      have HUN := Hidden.mk (runset_any s HP.out HL.out.g3 HSS.out.1)
      rw [HL.out.again, show errV 5 = Value.iface 59 (.int .i64 5) from rfl] at HUN
      go_wp2_with fail
      refine HUN.out.mono ?_
      rintro e w19 ⟨rfl, F19, hm19⟩
      have HP := Hidden.mk hm19.hp
      clear hm19 HUN
      have HERR := Hidden.mk (err_some 5 5 w19 (HG6.out.below HG6.out.lt HP.out.bel))
      rw [beq_self_eq_true] at HERR
      go_wp2_with fail
      refine HERR.out.mono ?_
      rintro e w20 ⟨rfl, hb20⟩
      have HF := Hidden.mk (HFIN.out _ (HP.out.below hb20).bel)
      clear hb20 HERR HP
      go_wp2_with fail
      go_ret
      exact ⟨rfl, HF.out⟩
  · have HLL : Hidden (setL ll s x = ll) := ⟨by unfold setL; rw [if_neg hse]⟩
    rw [HLL.out] at HP
    have hev : errV (setE ll s x) = .iface 59 (.int .i64 (setE ll s x : Int)) := by unfold errV; rw [if_neg hse]
    rw [hev]
    generalize (setE ll s x : Int) = q at *
    have HALL := Hidden.mk (rall_any HP.out)
    clear hse hev HLL
    go_wp2_with fail
    refine HALL.out.mono ?_
    rintro e w11 ⟨v11, rfl, hown11, hb11⟩
    obtain ⟨A11, c11, rfl, -, -⟩ := own_split hown11
    have HF := Hidden.mk (HFIN.out _ (HP.out.below hb11).bel)
    have nn : (((rootsL ll).length : Int) == ((rootsL ll).length : Int)) = true := beq_self_eq_true _
    have nn2 : ((rootsL ll).length == (rootsL ll).length) = true := beq_self_eq_true _
    clear hown11 hb11 HALL HP
    generalize (rootsL ll).length = nl at *
    go_wp2_with fail
    go_ret
    exact ⟨rfl, HF.out⟩
end Go.Proofs.YtnceheienlekaaaGreatDoor
