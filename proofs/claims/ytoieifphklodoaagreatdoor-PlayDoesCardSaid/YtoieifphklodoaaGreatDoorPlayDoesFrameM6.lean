/- Contracts and plain laws, put together: Store3, ReachQ, RefWP, LayN, Keys3, Reach4, Play1, Store4, Store5, Play2, StoreSafeP, StoreSafe0, SimP, PlayP, PlayT, Play3, Play4, StepP, RefPO, RefS2, RefXP, RefX1, RefX2, RefX3, RefA1, RefA2. -/
import Derived.Test.YtoieifphklodoaaGreatDoorPlayDoesFrameM5
import Derived.Test.YtoieifphklodoaaGreatDoorPlayDoesFrameM3
import Derived.Test.YtoieifphklodoaaGreatDoorPlayDoesFrameM2
import Derived.Test.YtoieifphklodoaaGreatDoorPlayDoesFrameM4
import Derived.Deep.DeepCutAuto
import Derived.Deep.CutBlock
import Derived.Deep.RegionHeld3
import Derived.Test.YtoieifphklodoaaGreatDoorPlayDoesFrameM1
import Derived.Deep.LoopGhost
import Derived.BigQuiet
import Derived.Deep.AppendLies
/- Package store: Commit. -/
namespace Go.Proofs.YtoieifphklodoaaGreatDoor
open Go.RowKit Go.Maps Go.ChangeMaps

section
variable {w0 w w' : World} {F F' GH GH' G : Nat → Prop} {s p d h gk ck st n : Nat} {D : Dv} {l l' K : Bytes}
/-- what a call leaves of a store and its device -/
structure StM (w0 w w' : World) (F F' GH GH' : Nat → Prop) (s p d h gk ck st n : Nat) (D : Dv) (l K : Bytes) : Prop where
  dev : DevB w0 w' F' d D
  st : StH w0 w' F' GH' s p d h gk ck st n l K
  kp : Keep (fun q => (F q ∨ GH q) ∨ (q = s ∨ q = p)) w w'
  sub : ∀ q, F' q → F q ∨ w.heap.size ≤ q
  nw : ∀ q, GH' q → GH q ∨ w.heap.size ≤ q
/-- what is said of a commit -/
def ScAns (w0 w : World) (F GH : Nat → Prop) (s p d h _gk _ck st n : Nat) (D : Dv) (l K : Bytes) (e : Ending) (w' : World) : Prop :=
  e = .returned (errV (cmS n st D l K).2) ∧ ∃ F' gk' ck',
    ((cmS n st D l K).2 ≠ 0 → StM w0 w w' F F' GH GH s p d h gk' ck' st n (cmS n st D l K).1 l K) ∧
    ((cmS n st D l K).2 = 0 → StM w0 w w' F F' GH GH s p d h gk' ck' (if (dL l K n).length ≠ 0 then st + 1 else st) n (cmS n st D l K).1 l l)
theorem StH.types (a : StH w0 w F GH s p d h gk ck st n l K) {g c : Nat} {x : Bytes} (hr : Row w 5 g c x) : g ≠ s ∧ g ≠ p := ⟨(ne_row a.blk hr (by decide)).symm, (ne_row a.pg.1 hr (by decide)).symm⟩
/-- its pages are committed -/
theorem StH.cm {st' : Nat} {D' : Dv} (a : StH w0 w F GH s p d h gk ck st n l K) (hm : CmM w0 w w' F F' p d st' n D') (hn : ∀ q, F q → w0.heap.size ≤ q) : StH w0 w' F' GH s p d h gk ck st' n l K := by
  obtain ⟨l1, l2, l3⟩ := a.lt
  have hno : ∀ q, q < w.heap.size → ¬ F q → ¬ F' q := fun q hq hf hf' => by rcases hm.sub q hf' with h' | h'; exact hf h'; omega
  refine ⟨(hm.kp.block s l1 (fun e => e.elim a.sf a.ne.1)).trans a.blk, hm.pg, a.hp.keep hm.kp (fun q hq e => e.elim (a.gf q hq) (fun e => a.pgg (e ▸ hq))) (fun q e => e.elim (hn q) (fun e => e ▸ a.p0)), hm.kp.row a.kep (fun e => e.elim a.kf (fun e => a.ne.2.2 e.symm)), hno s l1 a.sf, hno gk l3 a.kf, fun q hq => hno q (a.hp.flt q hq) (a.gf q hq), a.sg, a.pgg, a.kg, a.s0, a.p0, a.k0⟩
/-- what is kept is another row -/
theorem StH.setK (a : StH w0 w F GH s p d h gk ck st n l K) {g c : Nat} {x : Bytes} (hr : Row w 5 g c x) (hf : ¬ F g) (hg : ¬ GH g) (h0 : w0.heap.size ≤ g) : StH w0 (w.setCell ⟨s, 2, none⟩ (.slice (some ⟨g, 0, none⟩) x.length c)) F GH s p d h g c st n l x := by
  have hne := a.types hr
  have hk : Keep (fun q => q = s) w (w.setCell ⟨s, 2, none⟩ (.slice (some ⟨g, 0, none⟩) x.length c)) := Keep.setCell (F := fun q => q = s) (Keep.refl _ _) (p := ⟨s, 2, none⟩) (.inl rfl) _
  have hsg : ∀ q, GH q → ¬ q = s := fun q hq e => a.sg (e ▸ hq)
  have hblk := heap_setK (k := 2) a.blk (.slice (some ⟨g, 0, none⟩) x.length c)
  exact ⟨hblk, ⟨(hk.block p a.lt.2.1 (fun e => a.ne.1 e.symm)).trans a.pg.1, a.pg.2⟩, a.hp.keep hk hsg (fun q e => e ▸ a.s0), hk.row hr hne.1, a.sf, hf, a.gf, a.sg, a.pgg, hg, a.s0, a.p0, h0⟩
set_option maxRecDepth 100000 in
set_option maxHeartbeats 1000000 in
theorem scommit_any (a : StH w0 w F GH s p d h gk ck st n l K) (hd : DevB w0 w F d D) (hl : l.length = 32 * n) (hK : K.length = 32 * n) (hn : n ≤ 200) (hst : st ≤ 4294967295) :
    Calls Tryz.prog 46 #[.pointer (some ⟨s, 0, none⟩)] w (ScAns w0 w F GH s p d h gk ck st n D l K) := by
  obtain ⟨⟨c0, c1, c2⟩, -⟩ := a.cells
  have HA := Hidden.mk (And.intro a hd)
  have HB := Hidden.mk (hbytes_ok w0 w GH h l a.hp)
  have HL := Hidden.mk (And.intro hl hK)
  have HST := Hidden.mk hst
  rw [hl] at HB
  clear a hd hl hK hst c2
  go_enter Tryz.func46, Tryz.ntmps46
  go_upto_region 1 with (fail)
  go_wp2_with fail
  refine HB.out.mono ?_
  rintro e w1 ⟨gb, cb, rfl, hgb, hrb, hb1⟩
  have HA1 := Hidden.mk (And.intro (HA.out.1.below hb1) (HA.out.2.below hb1))
  have HRB := Hidden.mk (And.intro hgb (And.intro hrb hb1))
  obtain ⟨⟨x0, x1, -⟩, -⟩ := HA1.out.1.cells
  have HDR := Hidden.mk (sdirty_any (w := w1.drew) (HA1.out.1.below ((Below.refl _ w1).drew)) HL.out.1 HL.out.2 hn)
  have KC := Hidden.mk x0
  have KB : Hidden (∀ W, Below w1.heap.size w1 W → W.cell? ⟨s, 0, none⟩ = some (.pointer (some ⟨p, 0, none⟩))) := ⟨fun W hW => (hW.cell (p := ⟨s, 0, none⟩) HA1.out.1.lt.1).trans KC.out⟩
  have KE : Hidden (∀ W W' : World, Below w1.heap.size w1 W → Keep (fun q => F q ∨ q = p) W W' → W'.cell? ⟨s, 0, none⟩ = some (.pointer (some ⟨p, 0, none⟩))) := ⟨fun W W' hW hk => by
    have e := hk.block s (Nat.lt_of_lt_of_le HA1.out.1.lt.1 hW.size) (fun h => h.elim HA1.out.1.sf HA1.out.1.ne.1)
    exact (World.cell?_of_block (w := W) (a := ⟨s, 0, none⟩) e).trans (KB.out W hW)⟩
  clear c0 c1 HB hgb hrb hb1 x1
  go_upto_region 2 with (fail)
  go_region_held3 (fun W => W.cell? ⟨s, 0, none⟩ = some (.pointer (some ⟨p, 0, none⟩))) (first | exact KC.out | exact KE.out _ _ hB3 hm3.kp | exact KB.out _ hB3 | exact KB.out _ hB2)
    (first
      | (go_at_call 48; refine HDR.out.mono ?_; rintro e w2 ⟨u, rfl, hown, hb2⟩; obtain ⟨A1, c1, rfl, hAc1, -⟩ := own_split hown; have hx1 := own_rdX3 (f := ncell) (fun _ => rfl) rfl hown; have hB2 : Below w1.heap.size w1 w2 := ((Below.refl _ w1).drew).trans hb2)
      | (go_at_call 115; refine (cut_ok gb (32 * n) cb l A1 (dL l K n).length c1 (dL l K n) w2 HL.out.1 (by omega) (HRB.out.2.1.below hB2 HRB.out.2.1.lt) rfl (Nat.le_trans (dL_le _ _ _) hn) hx1 (fun i hi => by have := (dL_mem.1 hi).1; omega)).mono ?_; rintro e w3 ⟨u2, X, rfl, hX⟩; obtain ⟨A2, c2, rfl, hAc2, -⟩ := own_split hX.own; have hB3 : Below w1.heap.size w1 w3 := hB2.trans (hX.bel.mono hB2.size))
      | (go_at_call 18; refine (pcommit_any (HA1.out.2.below hB3) (HA1.out.1.below hB3).pg hn HST.out HA.out.1.p0 A2 (dL l K n).length c2 X hX.len hAc2 (hX.pgsR (fun q hq => Nat.lt_of_lt_of_le (HA1.out.2.flt q hq) hB2.size))).mono ?_; rintro e w4 ⟨rfl, F4, hm3⟩))
  all_goals
    rename_i hheld
    clear hheld
    rw [hX.eq] at hm3
    rw [hX.eq]
  rw [hX.len] at hm3
  have hst4 := (HA1.out.1.below hB3).cm hm3 HA1.out.2.new
  have hkp : Keep (fun q => (F q ∨ GH q) ∨ (q = s ∨ q = p)) w w4 := (Keep.of_below (F := fun q => (F q ∨ GH q) ∨ (q = s ∨ q = p)) (HRB.out.2.2.trans (hB3.mono HRB.out.2.2.size))).trans (hm3.kp.wide (G := fun q => (F q ∨ GH q) ∨ (q = s ∨ q = p)) (fun q hq => hq.elim (fun h => .inl (.inl h)) (fun h => .inr (.inr h)))) (fun q hq => .inl hq)
  have hsub : ∀ q, F4 q → F q ∨ w.heap.size ≤ q := fun q hq => by
    rcases hm3.sub q hq with h' | h'
    · exact .inl h'
    · have := HRB.out.2.2.size
      have := hB3.size
      exact .inr (by omega)
  have hng : ¬ F4 gb ∧ ¬ GH gb ∧ w0.heap.size ≤ gb := by
    have h1 := HRB.out.1
    have h2 := HRB.out.2.1.lt
    have h3 := hB3.size
    refine ⟨fun hf => ?_, fun hg => ?_, Nat.le_trans HA.out.2.bel.size h1⟩
    · rcases hm3.sub gb hf with h' | h'
      · have := HA.out.2.flt gb h'; omega
      · omega
    · have := HA.out.1.hp.flt gb hg; omega
  have hrb4 : Row w4 5 gb cb l := hm3.kp.row ((HRB.out.2.1.below hB3 HRB.out.2.1.lt)) (fun hf => by
    rcases hf with hf | hf
    · have := HA.out.2.flt gb hf
      have := HRB.out.1
      omega
    · have := HA.out.1.lt.2.1
      have := HRB.out.1
      omega)
  have HM := Hidden.mk (And.intro hm3.dev (And.intro hst4 (And.intro hkp (And.intro hsub (And.intro hng hrb4)))))
  obtain ⟨r, hr⟩ : ∃ r, commitP st n (cutL l (dL l K n)) D = r := ⟨_, rfl⟩
  have HQ := Hidden.mk (show cmS n st D l K = r from hr)
  rw [hr] at HM
  rw [hr]
  clear hkp hsub hng hrb4 hm3 hst4 hr hX hB2 hB3 hb2 hown hx1 hAc1 hAc2 KB KE KC HDR x0
  by_cases hr0 : r.2 = 0
  · have HR0 := Hidden.mk hr0
    rw [hr0, errV0]
    rw [hr0] at HM
    clear hr0
    have e1 : (if (0 : Nat) = 0 ∧ (dL l K n).length ≠ 0 then st + 1 else st) = (if (dL l K n).length ≠ 0 then st + 1 else st) := by
      by_cases h : (dL l K n).length ≠ 0
      · rw [if_pos ⟨rfl, h⟩, if_pos h]
      · rw [if_neg (fun x => h x.2), if_neg h]
    rw [e1] at HM
    clear e1
    have HF : Hidden (StM w0 w (w4.setCell ⟨s, 2, none⟩ (.slice (some ⟨gb, 0, none⟩) (32 * n) cb)) F F4 GH GH s p d h gb cb (if (dL l K n).length ≠ 0 then st + 1 else st) n r.1 l l) := ⟨by
      obtain ⟨a1, a2, a3, a4, ⟨b1, b2, b3⟩, b4⟩ := HM.out
      have hk : Keep (fun q => q = s) w4 (w4.setCell ⟨s, 2, none⟩ (.slice (some ⟨gb, 0, none⟩) (32 * n) cb)) := Keep.setCell (F := fun q => q = s) (Keep.refl _ _) (p := ⟨s, 2, none⟩) (.inl rfl) _
      have hs := a2.setK b4 b1 b2 b3
      rw [HL.out.1] at hs
      exact ⟨a1.keep hk (fun q hq e => a2.sf (e ▸ hq)) (fun q e => e ▸ a2.s0), hs, a3.trans (hk.wide (G := fun q => (F q ∨ GH q) ∨ (q = s ∨ q = p)) (fun q hq => .inr (.inl hq))) (fun q hq => .inl hq), a4, fun q hq => .inl hq⟩⟩
    obtain ⟨⟨y0, y1, y2⟩, yf⟩ := HM.out.2.1.cells
    have f2 := yf 2
    clear yf
    go_wp2_with fail
    go_ret
    refine ⟨by rw [HQ.out, HR0.out]; rfl, F4, gb, cb, fun h => absurd (by rw [HQ.out]; exact HR0.out) h, fun _ => ?_⟩
    rw [HQ.out]
    exact HF.out
  · have HR0 := Hidden.mk hr0
    rw [errV_pos hr0]
    clear hr0
    go_wp2_with fail
    go_ret
    refine ⟨by rw [HQ.out, errV_pos HR0.out]; rfl, F4, gk, ck, fun _ => ?_, fun h => absurd (by rw [HQ.out] at h; exact h) HR0.out⟩
    rw [HQ.out]
    obtain ⟨a1, a2, a3, a4, -⟩ := HM.out
    rw [if_neg (fun x => HR0.out x.1)] at a2
    exact ⟨a1, a2, a3, a4, fun q hq => .inl hq⟩
end
end Go.Proofs.YtoieifphklodoaaGreatDoor
/- Package reach, plain: of all ways the least one. -/
namespace Go.Proofs.YtoieifphklodoaaGreatDoor
open Go.RowKit

def lexLt : List Nat → List Nat → Bool
  | x :: a, y :: b => if x = y then lexLt a b else decide (x < y)
  | _, _ => false
/-- one way is ahead of another -/
def lessW (a b : List Nat) : Bool := if a.length = b.length then lexLt a b else decide (a.length < b.length)
theorem lexLt_irrefl : ∀ a, lexLt a a = false
  | [] => rfl
  | x :: a => by unfold lexLt; rw [if_pos rfl]; exact lexLt_irrefl a
theorem lexLt_trans : ∀ {a b c : List Nat}, lexLt a b = true → lexLt b c = true → lexLt a c = true
  | [], _, _, h, _ => by simp [lexLt] at h
  | _ :: _, [], _, h, _ => by simp [lexLt] at h
  | _ :: _, _ :: _, [], _, h => by simp [lexLt] at h
  | x :: a, y :: b, z :: c, h1, h2 => by
    unfold lexLt at *
    by_cases e1 : x = y
    · subst e1
      rw [if_pos rfl] at h1
      by_cases e2 : x = z
      · subst e2; rw [if_pos rfl] at h2 ⊢; exact lexLt_trans h1 h2
      · rw [if_neg e2] at h2 ⊢; exact h2
    · rw [if_neg e1] at h1
      by_cases e2 : y = z
      · subst e2; rw [if_neg e1]; exact h1
      · rw [if_neg e2] at h2
        have h1' := of_decide_eq_true h1
        have h2' := of_decide_eq_true h2
        rw [if_neg (by omega)]; exact decide_eq_true (by omega)
theorem lexLt_total : ∀ {a b : List Nat}, a.length = b.length → lexLt a b = false → lexLt b a = false → a = b
  | [], [], _, _, _ => rfl
  | [], _ :: _, h, _, _ => by simp at h
  | _ :: _, [], h, _, _ => by simp at h
  | x :: a, y :: b, h, h1, h2 => by
    unfold lexLt at *
    by_cases e : x = y
    · subst e
      rw [if_pos rfl] at h1 h2
      rw [lexLt_total (by simpa using h) h1 h2]
    · rw [if_neg e] at h1
      rw [if_neg (fun e' => e e'.symm)] at h2
      have := of_decide_eq_false h1
      have := of_decide_eq_false h2
      omega
theorem lessW_irrefl (a : List Nat) : lessW a a = false := by unfold lessW; rw [if_pos rfl]; exact lexLt_irrefl a
theorem lessW_trans {a b c : List Nat} (h1 : lessW a b = true) (h2 : lessW b c = true) : lessW a c = true := by
  unfold lessW at *
  by_cases e1 : a.length = b.length
  · rw [if_pos e1] at h1
    by_cases e2 : b.length = c.length
    · rw [if_pos e2] at h2; rw [if_pos (e1.trans e2)]; exact lexLt_trans h1 h2
    · rw [if_neg e2] at h2; rw [if_neg (by omega)]
      have := of_decide_eq_true h2
      exact decide_eq_true (by omega)
  · rw [if_neg e1] at h1
    have h1' := of_decide_eq_true h1
    by_cases e2 : b.length = c.length
    · rw [if_neg (by omega)]; exact decide_eq_true (by omega)
    · rw [if_neg e2] at h2
      have h2' := of_decide_eq_true h2
      rw [if_neg (by omega)]; exact decide_eq_true (by omega)
theorem lessW_total {a b : List Nat} (h1 : lessW a b = false) (h2 : lessW b a = false) : a = b := by
  unfold lessW at *
  by_cases e : a.length = b.length
  · rw [if_pos e] at h1; rw [if_pos e.symm] at h2; exact lexLt_total e h1 h2
  · rw [if_neg e] at h1; rw [if_neg (fun x => e x.symm)] at h2
    have := of_decide_eq_false h1
    have := of_decide_eq_false h2
    omega
/-- not behind: a is b, or ahead of it -/
def leW (a b : List Nat) : Prop := lessW b a = false
theorem leW_refl (a : List Nat) : leW a a := lessW_irrefl a
theorem leW_of_less {a b : List Nat} (h : lessW a b = true) : leW a b := by
  unfold leW
  cases h2 : lessW b a with
  | false => rfl
  | true => have := lessW_trans h h2; rw [lessW_irrefl] at this; cases this
theorem leW_cases {a b : List Nat} (h : leW a b) : a = b ∨ lessW a b = true := by
  cases h2 : lessW a b with
  | true => exact .inr rfl
  | false => exact .inl (lessW_total h2 h)
theorem leW_trans {a b c : List Nat} (h1 : leW a b) (h2 : leW b c) : leW a c := by
  rcases leW_cases h1 with rfl | h1
  · exact h2
  · rcases leW_cases h2 with rfl | h2
    · exact leW_of_less h1
    · exact leW_of_less (lessW_trans h1 h2)
theorem leW_antisymm {a b : List Nat} (h1 : leW a b) (h2 : leW b a) : a = b := lessW_total h2 h1
theorem leW_short {a b : List Nat} (h : a.length < b.length) : leW a b := leW_of_less (by unfold lessW; rw [if_neg (by omega)]; exact decide_eq_true h)
theorem leW_len {a b : List Nat} (h : leW a b) : a.length ≤ b.length := by
  rcases leW_cases h with rfl | h
  · exact Nat.le_refl _
  · unfold lessW at h
    by_cases e : a.length = b.length
    · omega
    · rw [if_neg e] at h; have := of_decide_eq_true h; omega
theorem lexLt_append : ∀ {a b : List Nat} (c d : List Nat), a.length = b.length → lexLt a b = true → lexLt (a ++ c) (b ++ d) = true
  | [], [], _, _, _, h => by simp [lexLt] at h
  | [], _ :: _, _, _, h, _ => by simp at h
  | _ :: _, [], _, _, h, _ => by simp at h
  | x :: a, y :: b, c, d, h, h1 => by
    rw [List.cons_append, List.cons_append]
    unfold lexLt at *
    by_cases e : x = y
    · rw [if_pos e] at h1 ⊢; exact lexLt_append c d (by simpa using h) h1
    · rw [if_neg e] at h1 ⊢; exact h1
theorem lexLt_same : ∀ (a c d : List Nat), lexLt (a ++ c) (a ++ d) = lexLt c d
  | [], _, _ => rfl
  | x :: a, c, d => by rw [List.cons_append, List.cons_append]; conv => lhs; unfold lexLt
                       rw [if_pos rfl]; exact lexLt_same a c d
theorem lessW_snoc {a b : List Nat} (x y : Nat) (h : lessW a b = true) : lessW (a ++ [x]) (b ++ [y]) = true := by
  unfold lessW at *
  simp only [List.length_append, List.length_cons, List.length_nil]
  by_cases e : a.length = b.length
  · rw [if_pos e] at h; rw [if_pos (by omega)]; exact lexLt_append _ _ e h
  · rw [if_neg e] at h; have := of_decide_eq_true h; rw [if_neg (by omega)]; exact decide_eq_true (by omega)
theorem lessW_last (a : List Nat) {x y : Nat} (h : x < y) : lessW (a ++ [x]) (a ++ [y]) = true := by
  unfold lessW
  rw [if_pos (by simp), lexLt_same]
  unfold lexLt; rw [if_neg (by omega)]; exact decide_eq_true h
theorem leW_snoc {a b : List Nat} (y : Nat) (h : leW a b) : leW (a ++ [y]) (b ++ [y]) := by
  rcases leW_cases h with rfl | h
  · exact leW_refl _
  · exact leW_of_less (lessW_snoc y y h)
/-- a way: from a root, link by link -/
inductive IsWay (l : Bytes) : List Nat → Nat → Prop
  | root {r : Nat} (h : r ∈ rootsH l) : IsWay l [r] r
  | step {q : List Nat} {x y : Nat} (h : IsWay l q x) (hy : y ∈ refsL l (x : Int)) : IsWay l (q ++ [y]) y
theorem IsWay.last {l : Bytes} {p : List Nat} {y : Nat} (h : IsWay l p y) : ∃ q, p = q ++ [y] := by
  cases h with
  | root h => exact ⟨[], rfl⟩
  | step h hy => exact ⟨_, rfl⟩
theorem IsWay.pos {l : Bytes} {p : List Nat} {y : Nat} (h : IsWay l p y) : 1 ≤ p.length := by
  obtain ⟨q, rfl⟩ := h.last; simp
theorem WOk.isWay {l : Bytes} {W : Ways} {D : List Nat} (h : WOk l W D) : ∀ (n : Nat) (y : Nat) (p : List Nat), p.length ≤ n → W y = some p → IsWay l p y
  | 0, y, p, hn, hp => by
    obtain ⟨q, e, -⟩ := h.ways y p hp
    subst e; simp at hn
  | n + 1, y, p, hn, hp => by
    obtain ⟨q, e, h1⟩ := h.ways y p hp
    subst e
    rcases h1 with ⟨rfl, hr⟩ | ⟨x, h2, h3⟩
    · exact .root hr
    · exact .step (WOk.isWay h n x q (by simp at hn; omega) h2) h3
/-- the level k: the ways so far are no longer than k + 1, the row are those of k + 1, in the order of their ways, and none is behind another way -/
structure MinOk (l : Bytes) (k : Nat) (s : Ways × List Nat) : Prop where
  len : ∀ y p, s.1 y = some p → p.length ≤ k + 1
  row : ∀ x ∈ s.2, (wayOf s.1 x).length = k + 1 ∧ (s.1 x).isSome = true
  ord : s.2.Pairwise fun x y => lessW (wayOf s.1 x) (wayOf s.1 y) = true
  all : ∀ y p, s.1 y = some p → p.length = k + 1 → y ∈ s.2
  least : ∀ p y, IsWay l p y → p.length ≤ k + 1 → ∃ p', s.1 y = some p' ∧ leW p' p
theorem MinOk.start {l : Bytes} : MinOk l 0 (lvlN l 0) where
  len y p h := by
    unfold lvlN startW at h; dsimp only at h
    split at h
    · cases h; simp
    · cases h
  row x hx := by
    have hx' : x ∈ rootsH l := sortNat_mem.1 ((dedup_mem _ _).1 hx)
    unfold lvlN startW wayOf; dsimp only
    rw [if_pos hx']; exact ⟨rfl, rfl⟩
  ord := by
    refine List.Pairwise.imp_of_mem ?_ (dedup_up _ (sortNat_up (rootsH l)))
    intro a b ha hb hab
    have ha' : a ∈ rootsH l := sortNat_mem.1 ((dedup_mem _ _).1 ha)
    have hb' : b ∈ rootsH l := sortNat_mem.1 ((dedup_mem _ _).1 hb)
    unfold lvlN startW wayOf; dsimp only
    rw [if_pos ha', if_pos hb']
    exact lessW_last [] hab
  all y p h hl := by
    unfold lvlN startW at h; dsimp only at h
    split at h
    · rename_i hr; exact (dedup_mem _ _).2 (sortNat_mem.2 hr)
    · cases h
  least p y h hl := by
    cases h with
    | root hr => exact ⟨[y], by unfold lvlN startW; dsimp only; rw [if_pos hr], leW_refl _⟩
    | step h hy => have := h.pos; rw [List.length_append] at hl; simp only [List.length_cons, List.length_nil] at hl; omega
/-- in the midst of a level: new ones have ways by those of the row that have been asked, and none is behind another -/
structure MidOk (k : Nat) (W0 : Ways) (s : Ways × List Nat) : Prop where
  keep : ∀ y p, W0 y = some p → s.1 y = some p
  new : ∀ y, W0 y = none → (s.1 y).isSome = true → y ∈ s.2
  row : ∀ y ∈ s.2, W0 y = none ∧ ∃ p, s.1 y = some p ∧ p.length = k + 2
  ord : s.2.Pairwise fun x y => lessW (wayOf s.1 x) (wayOf s.1 y) = true
theorem wayOf_some {W : Ways} {x : Nat} {p : List Nat} (h : W x = some p) : wayOf W x = p := by unfold wayOf; rw [h]; rfl
theorem MidOk.stepY {k : Nat} {W0 : Ways} {s : Ways × List Nat} (h : MidOk k W0 s) {x y : Nat} {q : List Nat} (hx : W0 x = some q) (hq : q.length = k + 1)
    (hb : ∀ z ∈ s.2, z ≠ y → lessW (wayOf s.1 z) (q ++ [y]) = true) :
    MidOk k W0 (stepY x s y) ∧ (∀ z p, s.1 z = some p → (stepY x s y).1 z = some p) ∧ (∃ p, (stepY x s y).1 y = some p) ∧ (s.1 y = none → (stepY x s y).1 y = some (q ++ [y])) ∧ (∀ z ∈ (stepY x s y).2, z ∈ s.2 ∨ (z = y ∧ (stepY x s y).1 y = some (q ++ [y]))) := by
  unfold Go.Proofs.YtoieifphklodoaaGreatDoor.stepY
  by_cases hy : (s.1 y).isSome
  · rw [if_pos hy]
    obtain ⟨p, hp⟩ := Option.isSome_iff_exists.1 hy
    exact ⟨h, fun _ _ hz => hz, ⟨p, hp⟩, (fun e => by rw [e] at hy; cases hy), fun z hz => .inl hz⟩
  · rw [if_neg hy]
    have hyn : s.1 y = none := by simpa using hy
    have hW0 : W0 y = none := by
      cases e : W0 y with
      | none => rfl
      | some p => rw [h.keep y p e] at hyn; cases hyn
    have hxq : wayOf s.1 x = q := wayOf_some (h.keep x q hx)
    rw [hxq]
    have hny : y ∉ s.2 := fun hm => by obtain ⟨_, p, hp, _⟩ := h.row y hm; rw [hp] at hyn; cases hyn
    have hold : ∀ z, z ≠ y → wset s.1 y (q ++ [y]) z = s.1 z := fun z hz => by unfold wset; rw [if_neg hz]
    have hnew : wset s.1 y (q ++ [y]) y = some (q ++ [y]) := by unfold wset; rw [if_pos rfl]
    have hkp : ∀ z p, s.1 z = some p → wset s.1 y (q ++ [y]) z = some p := fun z p hz => by
      rw [hold z (fun e => by rw [e, hyn] at hz; cases hz)]; exact hz
    refine ⟨⟨fun z p hz => hkp z p (h.keep z p hz), fun z hz hs => ?_, fun z hz => ?_, ?_⟩, hkp, ⟨_, hnew⟩, fun _ => hnew, fun z hz => ?_⟩
    · dsimp only at hs ⊢
      by_cases e : z = y
      · subst e; simp
      · rw [hold z e] at hs; exact List.mem_append_left _ (h.new z hz hs)
    · rcases List.mem_append.1 hz with hz | hz
      · obtain ⟨h1, p, h2, h3⟩ := h.row z hz
        exact ⟨h1, p, hkp z p h2, h3⟩
      · simp only [List.mem_singleton] at hz; subst hz
        exact ⟨hW0, _, hnew, by simp; omega⟩
    · refine List.pairwise_append.2 ⟨?_, List.pairwise_singleton .., fun a ha b hb' => ?_⟩
      · refine List.Pairwise.imp_of_mem ?_ h.ord
        intro a b ha hb' hab
        have e1 : wayOf (wset s.1 y (q ++ [y])) a = wayOf s.1 a := by unfold wayOf; rw [hold a (fun e => hny (e ▸ ha))]
        have e2 : wayOf (wset s.1 y (q ++ [y])) b = wayOf s.1 b := by unfold wayOf; rw [hold b (fun e => hny (e ▸ hb'))]
        rw [e1, e2]; exact hab
      · simp only [List.mem_singleton] at hb'; subst hb'
        have hne : a ≠ b := fun e => hny (e ▸ ha)
        have e1 : wayOf (wset s.1 b (q ++ [b])) a = wayOf s.1 a := by unfold wayOf; rw [hold a hne]
        rw [e1, wayOf_some hnew]
        exact hb a ha hne
    · rcases List.mem_append.1 hz with hz | hz
      · exact .inl hz
      · simp only [List.mem_singleton] at hz; exact .inr ⟨hz, hnew⟩
/-- the refs of one of the row -/
theorem MidOk.foldY {k : Nat} {W0 : Ways} {x : Nat} {q : List Nat} (hx : W0 x = some q) (hq : q.length = k + 1) : ∀ (L : List Nat) (s : Ways × List Nat), MidOk k W0 s → L.Pairwise (· ≤ ·) →
    (∀ z ∈ s.2, (∃ a b, wayOf s.1 z = a ++ [b] ∧ lessW a q = true) ∨ (wayOf s.1 z = q ++ [z] ∧ ∀ y ∈ L, z ≤ y)) →
    MidOk k W0 (L.foldl (Go.Proofs.YtoieifphklodoaaGreatDoor.stepY x) s) ∧ (∀ z p, s.1 z = some p → (L.foldl (Go.Proofs.YtoieifphklodoaaGreatDoor.stepY x) s).1 z = some p) ∧ (∀ y ∈ L, ∃ p, (L.foldl (Go.Proofs.YtoieifphklodoaaGreatDoor.stepY x) s).1 y = some p) ∧
      (∀ z, s.1 z = none → ∀ p, (L.foldl (Go.Proofs.YtoieifphklodoaaGreatDoor.stepY x) s).1 z = some p → p = q ++ [z]) ∧
      (∀ z ∈ (L.foldl (Go.Proofs.YtoieifphklodoaaGreatDoor.stepY x) s).2, z ∈ s.2 ∨ wayOf (L.foldl (Go.Proofs.YtoieifphklodoaaGreatDoor.stepY x) s).1 z = q ++ [z])
  | [], s, h, _, _ => ⟨h, fun _ _ hz => hz, (fun y hy => by cases hy), (fun z hz p hp => by rw [List.foldl_nil] at hp; rw [hz] at hp; cases hp), fun z hz => .inl hz⟩
  | y :: L, s, h, hL, hs => by
    have hL' := List.pairwise_cons.1 hL
    obtain ⟨h1, h2, h3, h4, h5⟩ := h.stepY hx hq (y := y) (fun z hz hne => by
      rcases hs z hz with ⟨a, b, e1, e2⟩ | ⟨e1, e2⟩
      · rw [e1]; exact lessW_snoc _ _ e2
      · rw [e1]
        have := e2 y (List.mem_cons_self ..)
        exact lessW_last q (by omega))
    obtain ⟨i1, i2, i3, i4, i5⟩ := MidOk.foldY hx hq L (Go.Proofs.YtoieifphklodoaaGreatDoor.stepY x s y) h1 hL'.2 (fun z hz => by
      rcases h5 z hz with hz' | ⟨rfl, hz'⟩
      · obtain ⟨_, p, hp, _⟩ := h.row z hz'
        have e : wayOf (Go.Proofs.YtoieifphklodoaaGreatDoor.stepY x s y).1 z = wayOf s.1 z := by rw [wayOf_some (h2 z p hp), wayOf_some hp]
        rw [e]
        exact (hs z hz').imp id fun ⟨e1, e2⟩ => ⟨e1, fun y' hy' => e2 y' (List.mem_cons_of_mem _ hy')⟩
      · exact .inr ⟨wayOf_some hz', fun y' hy' => hL'.1 y' hy'⟩)
    rw [List.foldl_cons]
    refine ⟨i1, fun z p hz => i2 z p (h2 z p hz), fun z hz => ?_, fun z hz p hp => ?_, fun z hz => ?_⟩
    · rcases List.mem_cons.1 hz with rfl | hz
      · obtain ⟨p, hp⟩ := h3; exact ⟨p, i2 _ p hp⟩
      · exact i3 z hz
    · cases e : (Go.Proofs.YtoieifphklodoaaGreatDoor.stepY x s y).1 z with
      | none => exact i4 z e p hp
      | some p' =>
        have := i2 z p' e
        rw [this] at hp
        cases hp
        -- it came by this step
        by_cases hzy : z = y
        · subst hzy
          have := h4 hz
          rw [this] at e; cases e; rfl
        · exfalso
          unfold Go.Proofs.YtoieifphklodoaaGreatDoor.stepY at e
          split at e
          · rw [hz] at e; cases e
          · dsimp only at e; unfold wset at e; rw [if_neg hzy, hz] at e; cases e
    · rcases i5 z hz with hz' | hz'
      · rcases h5 z hz' with hz'' | ⟨rfl, hz''⟩
        · exact .inl hz''
        · right; rw [wayOf_some (i2 _ _ hz'')]
      · exact .inr hz'
theorem MidOk.foldX {l : Bytes} {k : Nat} {W0 : Ways} : ∀ (R : List Nat) (s : Ways × List Nat), MidOk k W0 s → (∀ x ∈ R, ∃ q, W0 x = some q ∧ q.length = k + 1) → R.Pairwise (fun x y => lessW (wayOf W0 x) (wayOf W0 y) = true) →
    (∀ z ∈ s.2, ∀ x ∈ R, ∃ a b, wayOf s.1 z = a ++ [b] ∧ lessW a (wayOf W0 x) = true) →
    MidOk k W0 (R.foldl (stepX l) s) ∧ (∀ z p, s.1 z = some p → (R.foldl (stepX l) s).1 z = some p) ∧ (∀ x ∈ R, ∀ y ∈ refsL l (x : Int), ∃ p, (R.foldl (stepX l) s).1 y = some p ∧ (s.1 y = none → leW p (wayOf W0 x ++ [y])))
  | [], s, h, _, _, _ => ⟨h, fun _ _ hz => hz, fun x hx => by cases hx⟩
  | x :: R, s, h, hR, ho, hs => by
    obtain ⟨q, hq, hql⟩ := hR x (List.mem_cons_self ..)
    have ho' := List.pairwise_cons.1 ho
    obtain ⟨i1, i2, i3, i4, i5⟩ := MidOk.foldY hq hql (sortNat (refsL l (x : Int))) s h (sortNat_up _) (fun z hz => .inl (by
      obtain ⟨a, b, e1, e2⟩ := hs z hz x (List.mem_cons_self ..)
      rw [wayOf_some hq] at e2
      exact ⟨a, b, e1, e2⟩))
    have hst : stepX l s x = (sortNat (refsL l (x : Int))).foldl (Go.Proofs.YtoieifphklodoaaGreatDoor.stepY x) s := rfl
    rw [← hst] at i1 i2 i3 i4 i5
    obtain ⟨j1, j2, j3⟩ := MidOk.foldX R (stepX l s x) i1 (fun z hz => hR z (List.mem_cons_of_mem _ hz)) ho'.2 (fun z hz x' hx' => by
      rcases i5 z hz with hz' | hz'
      · obtain ⟨a, b, e1, e2⟩ := hs z hz' x' (List.mem_cons_of_mem _ hx')
        obtain ⟨_, p, hp, _⟩ := h.row z hz'
        exact ⟨a, b, by rw [wayOf_some (i2 z p hp), ← wayOf_some hp]; exact e1, e2⟩
      · refine ⟨q, z, hz', ?_⟩
        have := ho'.1 x' hx'
        rwa [wayOf_some hq] at this)
    rw [List.foldl_cons]
    refine ⟨j1, fun z p hz => j2 z p (i2 z p hz), fun x' hx' y hy => ?_⟩
    rcases List.mem_cons.1 hx' with rfl | hx'
    · obtain ⟨p, hp⟩ := i3 y (sortNat_mem.2 hy)
      refine ⟨p, j2 y p hp, fun hn => ?_⟩
      rw [i4 y hn p hp, wayOf_some hq]; exact leW_refl _
    · obtain ⟨p, hp, hle⟩ := j3 x' hx' y hy
      refine ⟨p, hp, fun hn => ?_⟩
      cases e : (stepX l s x).1 y with
      | none => exact hle e
      | some p' =>
        have := j2 y p' e
        rw [this] at hp; cases hp
        rw [i4 y hn p e]
        have := ho'.1 x' hx'
        rw [wayOf_some hq] at this
        exact leW_of_less (lessW_snoc _ _ this)
theorem MinOk.next {l : Bytes} {k : Nat} {s : Ways × List Nat} {D : List Nat} (h : MinOk l k s) (hl : LvOk l s D) : MinOk l (k + 1) (lvl l s) := by
  obtain ⟨i1, i2, i3⟩ := MidOk.foldX (l := l) (k := k) (W0 := s.1) s.2 (s.1, []) ⟨fun _ _ hz => hz, (fun y hy hs => by dsimp only at hs; rw [hy] at hs; cases hs), (fun y hy => by cases hy), List.Pairwise.nil⟩ (fun x hx => by
      obtain ⟨h1, h2⟩ := h.row x hx
      obtain ⟨q, hq⟩ := Option.isSome_iff_exists.1 h2
      exact ⟨q, hq, by rw [wayOf_some hq] at h1; exact h1⟩) h.ord (fun z hz => by cases hz)
  have hlv : lvl l s = s.2.foldl (stepX l) (s.1, []) := rfl
  rw [← hlv] at i1 i2 i3
  dsimp only at i2 i3
  refine ⟨fun y p hp => ?_, fun x hx => ?_, i1.ord, fun y p hp hpl => ?_, fun p y hw hpl => ?_⟩
  · cases e : s.1 y with
    | some p' => rw [i2 y p' e] at hp; cases hp; have := h.len y _ e; omega
    | none =>
      obtain ⟨_, p', hp', hl'⟩ := i1.row y (i1.new y e (by rw [hp]; rfl))
      rw [hp'] at hp; cases hp; omega
  · obtain ⟨_, p, hp, hpl⟩ := i1.row x hx
    rw [wayOf_some hp, hp]; exact ⟨by omega, rfl⟩
  · cases e : s.1 y with
    | some p' => rw [i2 y p' e] at hp; cases hp; have := h.len y _ e; omega
    | none => exact i1.new y e (by rw [hp]; rfl)
  · by_cases hs : p.length ≤ k + 1
    · obtain ⟨p', h1, h2⟩ := h.least p y hw hs
      exact ⟨p', i2 y p' h1, h2⟩
    · cases hw with
      | root hr => simp at hs
      | @step q x _ hq hy =>
        simp only [List.length_append, List.length_cons, List.length_nil] at hpl hs
        obtain ⟨q', h1, h2⟩ := h.least q x hq (by omega)
        have hq1 := h.len x q' h1
        cases e : s.1 y with
        | some p' =>
          have := h.len y p' e
          exact ⟨p', i2 y p' e, leW_short (by simp; omega)⟩
        | none =>
          by_cases hx : x ∈ s.2
          · obtain ⟨p', h3, h4⟩ := i3 x hx y hy
            refine ⟨p', h3, leW_trans (h4 e) ?_⟩
            rw [wayOf_some h1]; exact leW_snoc y h2
          · exfalso
            have hxD : x ∈ D := (hl.ok.dk x).1 (by rw [h1]; rfl)
            have := (hl.ok.dk y).2 (hl.closed x hxD hx y hy)
            rw [e] at this; cases this
theorem MinOk.at_ {l : Bytes} (hg : Good l) : ∀ k, MinOk l k (lvlN l k)
  | 0 => MinOk.start
  | k + 1 => by
    obtain ⟨D, hD, -⟩ := LvOk.at_ hg k
    exact (MinOk.at_ hg k).next hD
/-- of all ways to an object the program's is the least -/
theorem fromW_least {l : Bytes} (hg : Good l) {p : List Nat} {y : Nat} (h : IsWay l p y) : ∃ p', fromW l y = some p' ∧ leW p' p ∧ IsWay l p' y := by
  obtain ⟨D, hD, hc⟩ := fromW_ok hg
  have hm := MinOk.at_ hg 41
  have hin : ∀ p y, IsWay l p y → y ∈ D := fun p y hw => by
    induction hw with
    | root hr => exact (hD.dk _).1 (by rw [hD.roots _ hr]; rfl)
    | step _ hy ih => exact hc _ ih _ hy
  obtain ⟨p', hp'⟩ := Option.isSome_iff_exists.1 ((hD.dk y).2 (hin p y h))
  refine ⟨p', hp', ?_, hD.isWay _ y p' (Nat.le_refl _) hp'⟩
  by_cases hl : p.length ≤ 42
  · obtain ⟨p2, h1, h2⟩ := hm.least p y h hl
    have : fromW l y = some p2 := h1
    rw [this] at hp'; cases hp'; exact h2
  · have := hm.len y p' hp'
    exact leW_short (by omega)
end Go.Proofs.YtoieifphklodoaaGreatDoor
/- The reference on ways, plain: what is found by asking again and again is the least. -/
namespace Go.Proofs.YtoieifphklodoaaGreatDoor
open Go.RowKit

abbrev WV := Nat → List Nat
def vset (V : WV) (y : Nat) (p : List Nat) : WV := fun q => if q = y then p else V q
def stepV (h : Nat) (s : WV × Bool) (y : Nat) : WV × Bool := if s.1 y = [] ∨ lessW (s.1 h ++ [y]) (s.1 y) = true then (vset s.1 y (s.1 h ++ [y]), true) else s
def stepH (l : Bytes) (s : WV × Bool) (h : Nat) : WV × Bool := if s.1 h = [] then s else (refsL l (h : Int)).foldl (stepV h) s
def passV (l : Bytes) (V : WV) : WV × Bool := ((List.range 40).map (· + 1)).foldl (stepH l) (V, false)
def startV (l : Bytes) : WV := fun q => if q ∈ rootsH l then [q] else []
/-- a way as a number -/
def code : List Nat → Nat
  | [] => 0
  | x :: a => x * 41 ^ a.length + code a
theorem code_lt : ∀ {a : List Nat}, (∀ x ∈ a, x ≤ 40) → code a < 41 ^ a.length
  | [], _ => by simp [code]
  | x :: a, h => by
    have h1 := code_lt (a := a) fun y hy => h y (List.mem_cons_of_mem _ hy)
    have h2 := h x (List.mem_cons_self ..)
    unfold code
    rw [List.length_cons, Nat.pow_succ]
    generalize 41 ^ a.length = P at *
    have : x * P ≤ 40 * P := Nat.mul_le_mul_right P h2
    omega
theorem code_ge {x : Nat} {a : List Nat} (h : 1 ≤ x) : 41 ^ a.length ≤ code (x :: a) := by
  unfold code
  generalize 41 ^ a.length = P at *
  have : 1 * P ≤ x * P := Nat.mul_le_mul_right P h
  omega
theorem code_lex : ∀ {a b : List Nat}, a.length = b.length → (∀ x ∈ a, x ≤ 40) → lexLt a b = true → code a < code b
  | [], [], _, _, h => by simp [lexLt] at h
  | [], _ :: _, h, _, _ => by simp at h
  | _ :: _, [], h, _, _ => by simp at h
  | x :: a, y :: b, h, ha, hl => by
    have h' : a.length = b.length := by simpa using h
    unfold lexLt at hl
    by_cases e : x = y
    · subst e
      rw [if_pos rfl] at hl
      have := code_lex h' (fun z hz => ha z (List.mem_cons_of_mem _ hz)) hl
      unfold code; rw [h']; omega
    · rw [if_neg e] at hl
      have hxy := of_decide_eq_true hl
      have h1 := code_lt (a := a) fun z hz => ha z (List.mem_cons_of_mem _ hz)
      unfold code
      rw [h'] at h1 ⊢
      generalize 41 ^ b.length = P at *
      have : (x + 1) * P ≤ y * P := Nat.mul_le_mul_right P hxy
      rw [Nat.succ_mul] at this
      omega
theorem code_less {a b : List Nat} (ha : ∀ x ∈ a, x ≤ 40) (hb : ∀ x ∈ b, 1 ≤ x) (h : lessW a b = true) : code a < code b := by
  unfold lessW at h
  by_cases e : a.length = b.length
  · rw [if_pos e] at h; exact code_lex e ha h
  · rw [if_neg e] at h
    have hl := of_decide_eq_true h
    cases b with
    | nil => simp at hl
    | cons y b =>
      have h1 := code_lt ha
      have h2 := code_ge (a := b) (hb y (List.mem_cons_self ..))
      have h3 : 41 ^ a.length ≤ 41 ^ b.length := Nat.pow_le_pow_right (by omega) (by simp at hl; omega)
      omega
def phi (p : List Nat) : Nat := if p = [] then 41 ^ 42 else code p
def sumV (V : WV) : Nat → Nat
  | 0 => 0
  | k + 1 => sumV V k + phi (V k)
theorem sumV_upd (V : WV) (y : Nat) (p : List Nat) : ∀ n, sumV (vset V y p) n + (if y < n then phi (V y) else 0) = sumV V n + (if y < n then phi p else 0)
  | 0 => by simp [sumV]
  | n + 1 => by
    have ih := sumV_upd V y p n
    unfold sumV
    by_cases h : y = n
    · subst h
      rw [if_neg (by omega), if_neg (by omega)] at ih
      rw [if_pos (by omega), if_pos (by omega)]
      have : vset V y p y = p := by unfold vset; rw [if_pos rfl]
      rw [this]; omega
    · have : vset V y p n = V n := by unfold vset; rw [if_neg (by omega)]
      rw [this]
      by_cases h2 : y < n
      · rw [if_pos h2, if_pos h2] at ih; rw [if_pos (by omega), if_pos (by omega)]; omega
      · rw [if_neg h2, if_neg h2] at ih; rw [if_neg (by omega), if_neg (by omega)]; omega
def cntV (V : WV) : Nat → Nat
  | 0 => 0
  | k + 1 => cntV V k + (if V k = [] then 0 else 1)
theorem cntV_le (V : WV) : ∀ n, cntV V n ≤ n
  | 0 => Nat.le_refl _
  | n + 1 => by unfold cntV; have := cntV_le V n; split <;> omega
theorem cntV_upd (V : WV) (y : Nat) (p : List Nat) (hp : p ≠ []) : ∀ n, cntV (vset V y p) n = cntV V n + (if y < n ∧ V y = [] then 1 else 0)
  | 0 => by simp [cntV]
  | n + 1 => by
    have ih := cntV_upd V y p hp n
    unfold cntV
    rw [ih]
    by_cases h : y = n
    · subst h
      have : vset V y p y = p := by unfold vset; rw [if_pos rfl]
      rw [this, if_neg hp]
      by_cases hv : V y = [] <;> simp [hv]
    · have : vset V y p n = V n := by unfold vset; rw [if_neg (by omega)]
      rw [this]
      have e : (y < n + 1 ∧ V y = []) ↔ (y < n ∧ V y = []) := ⟨fun h3 => ⟨by omega, h3.2⟩, fun h3 => ⟨by omega, h3.2⟩⟩
      simp only [e]; omega
theorem IsWay.digits {l : Bytes} (hg : Good l) {p : List Nat} {y : Nat} (h : IsWay l p y) : ∀ x ∈ p, 1 ≤ x ∧ x ≤ 40 := by
  induction h with
  | root hr => intro x hx; simp only [List.mem_singleton] at hx; subst hx; exact hE_nat (rootsH_mem hg hr)
  | step _ hy ih =>
    intro x hx
    rcases List.mem_append.1 hx with hx | hx
    · exact ih x hx
    · simp only [List.mem_singleton] at hx; subst hx; exact hE_nat (refsL_mem (_y := 0) hy)
structure VOk (l : Bytes) (V : WV) : Prop where
  way : ∀ y, V y ≠ [] → IsWay l (V y) y
  root : ∀ r ∈ rootsH l, V r = [r]
  bd : ∀ y, (V y).length ≤ cntV V 41
theorem VOk.start {l : Bytes} (hg : Good l) : VOk l (startV l) where
  way y h := by
    unfold startV at h ⊢
    split
    · rename_i hr; exact .root hr
    · rename_i hr; rw [if_neg hr] at h; exact absurd rfl h
  root r hr := by unfold startV; rw [if_pos hr]
  bd y := by
    by_cases hr : y ∈ rootsH l
    · have hy := hE_nat (rootsH_mem hg hr)
      have hv : startV l y = [y] := by unfold startV; rw [if_pos hr]
      rw [hv]
      have h0 : vset (startV l) y [y] = startV l := funext fun q => by
        unfold vset; split
        · rename_i e; rw [e, hv]
        · rfl
      have key : ∀ n, y < n → 1 ≤ cntV (startV l) n := by
        intro n hn
        induction n with
        | zero => omega
        | succ n ih =>
          unfold cntV
          by_cases e : y = n
          · subst e; rw [hv]; simp
          · have := ih (by omega); omega
      have := key 41 (by omega)
      simpa using this
    · have hv : startV l y = [] := by unfold startV; rw [if_neg hr]
      rw [hv]; simp
theorem VOk.step {l : Bytes} (hg : Good l) {s : WV × Bool} (h : VOk l s.1) {x y : Nat} (hx : s.1 x ≠ []) (hy : y ∈ refsL l (x : Int)) :
    VOk l (stepV x s y).1 ∧ ((stepV x s y = s ∧ s.1 y ≠ [] ∧ lessW (s.1 x ++ [y]) (s.1 y) = false) ∨ ((stepV x s y).2 = true ∧ sumV (stepV x s y).1 41 < sumV s.1 41)) ∧ (stepV x s y).1 x = s.1 x := by
  have hw := h.way x hx
  have hnw : IsWay l (s.1 x ++ [y]) y := .step hw hy
  have hd := hnw.digits hg
  have hyd := hd y (by simp)
  unfold stepV
  by_cases hc : s.1 y = [] ∨ lessW (s.1 x ++ [y]) (s.1 y) = true
  · rw [if_pos hc]
    have hxy : x ≠ y := fun e => by
      subst e
      rcases hc with hc | hc
      · exact hx hc
      · have := leW_len (leW_of_less hc); simp at this; omega
    have hxk : vset s.1 y (s.1 x ++ [y]) x = s.1 x := by unfold vset; rw [if_neg hxy]
    have hne : s.1 x ++ [y] ≠ [] := by simp
    have hcn := cntV_upd s.1 y (s.1 x ++ [y]) hne 41
    have hsm := sumV_upd s.1 y (s.1 x ++ [y]) 41
    rw [if_pos (by omega), if_pos (by omega)] at hsm
    refine ⟨⟨fun z hz => ?_, fun r hr => ?_, fun z => ?_⟩, .inr ⟨rfl, ?_⟩, hxk⟩
    · show IsWay l (vset s.1 y (s.1 x ++ [y]) z) z
      by_cases e : z = y
      · subst e; unfold vset; rw [if_pos rfl]; exact hnw
      · have e1 : vset s.1 y (s.1 x ++ [y]) z = s.1 z := by unfold vset; rw [if_neg e]
        rw [e1]
        exact h.way z (by rw [← e1]; exact hz)
    · have hr' := h.root r hr
      show vset s.1 y (s.1 x ++ [y]) r = [r]
      by_cases e : r = y
      · exfalso
        subst e
        rw [hr'] at hc
        rcases hc with hc | hc
        · cases hc
        · have h1 := leW_len (leW_of_less hc)
          have h2 := hw.pos
          rw [List.length_append] at h1
          simp only [List.length_cons, List.length_nil] at h1
          omega
      · unfold vset; rw [if_neg e]; exact hr'
    · show (vset s.1 y (s.1 x ++ [y]) z).length ≤ cntV (vset s.1 y (s.1 x ++ [y])) 41
      rw [hcn]
      by_cases e : z = y
      · subst e
        have e1 : vset s.1 z (s.1 x ++ [z]) z = s.1 x ++ [z] := by unfold vset; rw [if_pos rfl]
        rw [e1]
        by_cases hv : s.1 z = []
        · rw [if_pos ⟨by omega, hv⟩]
          have := h.bd x
          simp; omega
        · rcases hc with hc | hc
          · exact absurd hc hv
          · have := leW_len (leW_of_less hc)
            have := h.bd z
            omega
      · have e1 : vset s.1 y (s.1 x ++ [y]) z = s.1 z := by unfold vset; rw [if_neg e]
        rw [e1]
        have := h.bd z
        omega
    · show sumV (vset s.1 y (s.1 x ++ [y])) 41 < sumV s.1 41
      have hph : phi (s.1 x ++ [y]) < phi (s.1 y) := by
        unfold phi
        rw [if_neg hne]
        by_cases hv : s.1 y = []
        · rw [if_pos hv]
          have h1 := code_lt (a := s.1 x ++ [y]) fun z hz => (hd z hz).2
          have h2 : 41 ^ (s.1 x ++ [y]).length ≤ 41 ^ 42 := Nat.pow_le_pow_right (by omega) (by
            have := h.bd x; have := cntV_le s.1 41; simp; omega)
          exact Nat.lt_of_lt_of_le h1 h2
        · rw [if_neg hv]
          rcases hc with hc | hc
          · exact absurd hc hv
          · exact code_less (fun z hz => (hd z hz).2) (fun z hz => ((h.way y hv).digits hg z hz).1) hc
      omega
  · rw [if_neg hc]
    have h1 : s.1 y ≠ [] := fun e => hc (.inl e)
    have h2 : lessW (s.1 x ++ [y]) (s.1 y) = false := by
      cases e : lessW (s.1 x ++ [y]) (s.1 y) with
      | false => rfl
      | true => exact absurd (.inr e) hc
    exact ⟨h, .inl ⟨rfl, h1, h2⟩, rfl⟩
/-- a pass: either nothing has changed and all is closed, or it has, and less is left -/
structure PassR (l : Bytes) (V : WV) (s : WV × Bool) (Q : Prop) : Prop where
  ok : VOk l s.1
  or_ : (s = (V, false) ∧ Q) ∨ (s.2 = true ∧ sumV s.1 41 < sumV V 41)
theorem pass_foldV {l : Bytes} (hg : Good l) {V : WV} {x : Nat} : ∀ (L : List Nat) (s : WV × Bool) (Q : Prop), PassR l V s Q → s.1 x ≠ [] → (∀ y ∈ L, y ∈ refsL l (x : Int)) →
    PassR l V (L.foldl (stepV x) s) (Q ∧ ∀ y ∈ L, V y ≠ [] ∧ lessW (V x ++ [y]) (V y) = false)
  | [], s, Q, h, _, _ => ⟨h.ok, h.or_.imp (fun h => ⟨h.1, h.2, fun y hy => by cases hy⟩) id⟩
  | y :: L, s, Q, h, hx, hL => by
    obtain ⟨h1, h2, h3⟩ := h.ok.step hg hx (hL y (List.mem_cons_self ..))
    have h4 : PassR l V (stepV x s y) (Q ∧ V y ≠ [] ∧ lessW (V x ++ [y]) (V y) = false) := by
      refine ⟨h1, ?_⟩
      rcases h.or_ with ⟨e, hq⟩ | ⟨e, hq⟩
      · rcases h2 with ⟨h2, h5, h6⟩ | ⟨h2, h5⟩
        · left; rw [h2]; subst e; exact ⟨rfl, hq, h5, h6⟩
        · right; subst e; exact ⟨h2, h5⟩
      · rcases h2 with ⟨h2, -, -⟩ | ⟨h2, h5⟩
        · right; rw [h2]; exact ⟨e, hq⟩
        · right; exact ⟨h2, by omega⟩
    have := pass_foldV hg L (stepV x s y) _ h4 (by rw [h3]; exact hx) (fun z hz => hL z (List.mem_cons_of_mem _ hz))
    refine ⟨this.ok, this.or_.imp (fun h => ⟨h.1, h.2.1.1, fun z hz => ?_⟩) id⟩
    rcases List.mem_cons.1 hz with rfl | hz
    · exact h.2.1.2
    · exact h.2.2 z hz
theorem pass_foldH {l : Bytes} (hg : Good l) {V : WV} : ∀ (H : List Nat) (s : WV × Bool) (Q : Prop), PassR l V s Q →
    PassR l V (H.foldl (stepH l) s) (Q ∧ ∀ x ∈ H, V x ≠ [] → ∀ y ∈ refsL l (x : Int), V y ≠ [] ∧ lessW (V x ++ [y]) (V y) = false)
  | [], s, Q, h => ⟨h.ok, h.or_.imp (fun h => ⟨h.1, h.2, fun y hy => by cases hy⟩) id⟩
  | x :: H, s, Q, h => by
    have h4 : PassR l V (stepH l s x) (Q ∧ (V x ≠ [] → ∀ y ∈ refsL l (x : Int), V y ≠ [] ∧ lessW (V x ++ [y]) (V y) = false)) := by
      unfold stepH
      by_cases hx : s.1 x = []
      · rw [if_pos hx]
        refine ⟨h.ok, h.or_.imp (fun h => ⟨h.1, h.2, fun hv => ?_⟩) id⟩
        rw [h.1] at hx; exact absurd hx hv
      · rw [if_neg hx]
        have := pass_foldV hg (refsL l (x : Int)) s Q h hx (fun _ hy => hy)
        exact ⟨this.ok, this.or_.imp (fun h => ⟨h.1, h.2.1, fun _ => h.2.2⟩) id⟩
    have := pass_foldH hg H (stepH l s x) _ h4
    refine ⟨this.ok, this.or_.imp (fun h => ⟨h.1, h.2.1.1, fun z hz => ?_⟩) id⟩
    rcases List.mem_cons.1 hz with rfl | hz
    · exact h.2.1.2
    · exact h.2.2 z hz
theorem pass_is {l : Bytes} (hg : Good l) {V : WV} (h : VOk l V) : VOk l (passV l V).1 ∧ ((passV l V).2 = true → sumV (passV l V).1 41 < sumV V 41) ∧ ((passV l V).2 = false → (passV l V).1 = V ∧ ∀ y, V y = wayOf (fromW l) y) := by
  have hp := pass_foldH hg ((List.range 40).map (· + 1)) (V, false) True ⟨h, .inl ⟨rfl, trivial⟩⟩
  have hpe : passV l V = ((List.range 40).map (· + 1)).foldl (stepH l) (V, false) := rfl
  rw [← hpe] at hp
  refine ⟨hp.ok, fun ht => ?_, fun hf => ?_⟩
  · rcases hp.or_ with ⟨e, -⟩ | ⟨-, e⟩
    · rw [e] at ht; cases ht
    · exact e
  · rcases hp.or_ with ⟨e, -, hc⟩ | ⟨e, -⟩
    · refine ⟨by rw [e], fun y => ?_⟩
      have least : ∀ p y, IsWay l p y → V y ≠ [] ∧ leW (V y) p := fun p y hw => by
        induction hw with
        | root hr => rw [h.root _ hr]; exact ⟨by simp, leW_refl _⟩
        | @step q x y hw' hy ih =>
          have hxd := hw'.digits hg x (by obtain ⟨q', rfl⟩ := hw'.last; simp)
          obtain ⟨h1, h2⟩ := hc x (List.mem_map.2 ⟨x - 1, List.mem_range.2 (by omega), by omega⟩) ih.1 y hy
          exact ⟨h1, leW_trans (show leW (V y) (V x ++ [y]) from h2) (leW_snoc y ih.2)⟩
      by_cases hv : V y = []
      · rw [hv]
        unfold wayOf
        cases e2 : fromW l y with
        | none => rfl
        | some p =>
          exfalso
          obtain ⟨D, hD, -⟩ := fromW_ok hg
          exact (least p y (hD.isWay _ y p (Nat.le_refl _) e2)).1 hv
      · obtain ⟨p', h1, h2, h3⟩ := fromW_least hg (h.way y hv)
        rw [wayOf_some h1]
        exact leW_antisymm (least p' y h3).2 h2
    · rw [e] at hf; cases hf
/-- who is alive, in order -/
def liveL (l : Bytes) : List Nat := ((List.range 40).filter fun k => (fromW l (k + 1)).isSome).map (· + 1)
theorem liveL_up (l : Bytes) : (liveL l).Pairwise (· < ·) := by
  unfold liveL
  refine List.pairwise_map.2 ?_
  exact ((List.pairwise_lt_range (n := 40)).filter _).imp fun h => by omega
theorem way_hE {l : Bytes} (hg : Good l) {k : Nat} (h : (fromW l k).isSome = true) : hE l (k : Int) = 0 := by
  obtain ⟨D, hD, -⟩ := fromW_ok hg
  exact hD.dh k ((hD.dk k).1 h)
theorem liveL_mem {l : Bytes} (hg : Good l) {x : Nat} : x ∈ liveL l ↔ (fromW l x).isSome = true := by
  unfold liveL
  simp only [List.mem_map, List.mem_filter, List.mem_range]
  constructor
  · rintro ⟨k, ⟨-, h⟩, rfl⟩; exact h
  · intro h
    have := hE_nat (way_hE hg h)
    exact ⟨x - 1, ⟨by omega, by rw [show x - 1 + 1 = x by omega]; exact h⟩, by omega⟩
theorem deadL_up (l : Bytes) : (deadL l).Pairwise (· < ·) := by
  unfold deadL deadE
  refine List.pairwise_map.2 ?_
  have hp : (entriesL l).Pairwise (fun a b => a.1 < b.1) := by
    unfold entriesL entsL
    refine List.pairwise_map.2 ?_
    exact ((List.pairwise_lt_range (n := 40)).filter _).imp fun h => by dsimp only; omega
  refine List.Pairwise.imp_of_mem ?_ (hp.filter _)
  intro a b ha hb hab
  obtain ⟨k, h1, h2, rfl⟩ := entL_mem.1 (List.mem_filter.1 ha).1
  obtain ⟨m, h3, h4, rfl⟩ := entL_mem.1 (List.mem_filter.1 hb).1
  dsimp only at hab ⊢
  omega
end Go.Proofs.YtoieifphklodoaaGreatDoor
/- Laid: maps.Keys at maps from numbers to numbers. -/
namespace Go.Proofs.YtoieifphklodoaaGreatDoor
open Go.Shelf
end Go.Proofs.YtoieifphklodoaaGreatDoor
/- slices.Sorted(maps.Keys(m)) of maps from numbers to numbers. -/
namespace Go.Proofs.YtoieifphklodoaaGreatDoor
open Go.RowKit Go.Maps Go.ChangeMaps Go.Sort Go.Shelf

end Go.Proofs.YtoieifphklodoaaGreatDoor
/- Package reach: Live, Dead, Sweep. -/
namespace Go.Proofs.YtoieifphklodoaaGreatDoor
open Go.RowKit Go.Maps Go.ChangeMaps

section
variable {w0 w : World} {F : Nat → Prop} {h : Nat} {l : Bytes}
set_option maxRecDepth 100000 in
theorem dead_any (hp : Hp w0 w F h l) (hg : Good l) :
    Calls Tryz.prog 112 #[.pointer (some ⟨h, 0, none⟩)] w fun e w' => ∃ v, e = .returned v ∧ w'.ownsRow w.heap.size 3 1 v (deadL l).length ((deadL l).flatMap ncell) ∧ Below w.heap.size w w' := by
  obtain ⟨i0', hi0, hz0, hz1, hz2⟩ := info_parts int_infoC
  have HI := Hidden.mk (And.intro hi0 (And.intro hz0 (And.intro hz1 hz2)))
  have HC := Hidden.mk (from_any hp hg)
  have HEN : Hidden (∀ e ∈ entriesL l, ∃ k : Nat, k < 40 ∧ e = ((k : Int) + 1, rawE l k)) := ⟨fun e he => by
    obtain ⟨k, h1, -, h2⟩ := entL_mem.1 he
    exact ⟨k, h1, h2⟩⟩
  have hle : (entriesL l).length ≤ 40 := entsL_len _ _ 40
  have HD : Hidden (deadL l = deadE l (entriesL l)) := ⟨rfl⟩
  generalize deadL l = DL at *
  clear hp hg hi0 hz0 hz1 hz2
  go_enter Tryz.func112, Tryz.ntmps112
  go_wp2_with fail
  refine HC.out.mono ?_
  rintro e w1 ⟨mb, rfl, hf⟩
  have HF1 := Hidden.mk hf
  have HEC := Hidden.mk (hentries_any hf.hp)
  generalize entriesL l = E at *
  clear hf HC
  go_wp2_with fail
  refine HEC.out.mono ?_
  rintro e w2 ⟨v, rfl, hown, hb2⟩
  obtain ⟨A1, c1, rfl, hc1, -⟩ := own_split hown
  have HR := Hidden.mk (own_rdX3 (f := ecells) (fun _ => rfl) rfl hown)
  have HF2 := Hidden.mk (HF1.out.below hb2)
  generalize hm : E.length = m at *
  have HM := Hidden.mk hm
  clear hown hb2 HEC HF1 hm
  go_wp2_with fail
  go_loopg [2, 13] m (fun q v i wr => ∃ k : Nat, k ≤ m ∧ q = m - k ∧ i = .int .i64 (k : Int) ∧ Hidden (Below w2.heap.size w2 wr ∧ wr.ownsRow w2.heap.size 3 1 v (deadE l (E.take k)).length ((deadE l (E.take k)).flatMap ncell)))
  case atStart => exact ⟨0, by omega, rfl, rfl, ⟨Below.refl _ _, World.ownsRow_nil _ _ _ _⟩⟩
  case round =>
    obtain ⟨k, hk, rfl, rfl, hst⟩ := hrel
    by_cases hlt : k < m
    · have hkE : k < E.length := by rw [HM.out]; exact hlt
      obtain ⟨p, off, rfl, hcx⟩ := (HR.out.below hst.out.1) k hkE
      have x0 := hcx 0 _ rfl
      have x1 := hcx 1 _ rfl
      have x2 := hcx 2 _ rfl
      have x3 := hcx 3 _ rfl
      rw [Nat.add_zero] at x0
      have HS := Hidden.mk (deadE_succ l E k hkE)
      obtain ⟨j, hj, hej⟩ := HEN.out E[k] (List.getElem_mem hkE)
      have hdl : (deadE l (E.take k)).length ≤ 40 := Nat.le_trans (deadE_len _ _) (by rw [List.length_take]; omega)
      rw [hej] at x0 x1 x2 x3 HS
      dsimp only at x0 x1 x2 x3 HS
      rw [show ((j : Int) + 1).toNat = j + 1 by omega] at HS
      generalize rAt (rawE l j) = e1 at *
      generalize rLen (rawE l j) = e2 at *
      generalize rTag (rawE l j) = e3 at *
      have i0 : (0 : Int) ≤ k := by omega
      have i1 : (k : Int) < m := by omega
      have s3 : IntKind.i64.wrap ((k : Int) + 1) = (k : Int) + 1 := IntWalk.i64_in _ (by omega)
      have hal : Below wr.heap.size wr (wr.alloc (.cells #[.int .i64 ((j : Int) + 1), .int .i64 e1, .int .i64 e2, .int .i64 e3] 89)) := (Below.refl _ _).alloc (Nat.le_refl _) _
      have hFW := (HF2.out.below hst.out.1).below hal
      obtain ⟨lk0, lk1⟩ := hFW.look (y := j + 1) (by omega)
      rw [show ((j + 1 : Nat) : Int) = (j : Int) + 1 from by omega] at lk0 lk1
      have HN := Hidden.mk (And.intro (hst.out.1.trans (hal.mono hst.out.1.size)) (own_below hst.out.2 hal))
      generalize hDe : deadE l (E.take k) = DE at *
      clear hcx hst hej hFW hDe
      cases hw : fromW l (j + 1) with
      | some pp =>
        have lk := (lk1 pp hw).1
        rw [hw] at HS
        have HSS : Hidden (deadE l (E.take (k + 1)) = DE) := ⟨by rw [HS.out]; simp⟩
        generalize (par pp : Int) = pz at *
        clear lk0 lk1 hw HS hal
        go_wp2_with fail
        go_roundg (m - (k + 1))
        case measure => omega
        case rel => exact ⟨k + 1, by omega, rfl, by go_num, ⟨by rw [HSS.out]; exact HN.out⟩⟩
      | none =>
        have lk := lk0 hw
        rw [hw] at HS
        have HSS : Hidden (deadE l (E.take (k + 1)) = DE ++ [j + 1]) := ⟨by rw [HS.out]; simp⟩
        obtain ⟨hi0, hz0, hz1, hz2⟩ := HI.out
        clear lk0 lk1 hw HS hal
        go_wp2_with (at_builtin; refine wpList_append_lies _ rfl (.tmp 26) (.tmp 29) _ rfl w2.heap.size 3 i0' _ 1 8 Tryz.underlying78 hi0 hz0 hz1 hz2 rfl (by decide) u2 DE.length (DE.flatMap ncell) rfl (own_below HN.out.2 ((Below.refl _ _).alloc (Nat.le_refl _) _)) ⟨wr.heap.size + 1, 0, none⟩ 1 1 [.int .i64 ((j : Int) + 1)] rfl rfl (World.news_of_block (cs := #[.int .i64 ((j : Int) + 1)]) (t := 3) (fr := (0, 0)) (by have hq_ := heap_alloc_new ((wr.alloc (.cells #[.int .i64 ((j : Int) + 1), .int .i64 e1, .int .i64 e2, .int .i64 e3] 89))) (.cells #[.int .i64 ((j : Int) + 1)] 3); rwa [World.size_alloc] at hq_)) (by simp [Value.oneCell']) (by omega) (by simp only [maxLen]; omega) (by omega) (by have hz_ := HN.out.1.size; rw [World.size_alloc]; omega) (wr.heap.size + 1 + 1) (by simp) ?_; intro g8 cap8 w8 hown8 hg8 hat8 hlt8)
        have hgW := grown_trans' ((Below.refl (wr.alloc (.cells #[.int .i64 ((j : Int) + 1), .int .i64 e1, .int .i64 e2, .int .i64 e3] 89)).heap.size (wr.alloc (.cells #[.int .i64 ((j : Int) + 1), .int .i64 e1, .int .i64 e2, .int .i64 e3] 89))).alloc (Nat.le_refl _) _) hg8
        have hB8 : Below w2.heap.size w2 w8 := HN.out.1.grown hgW HN.out.1.size (fun q hq => (HN.out.2.lt q hq).1)
        have HF : Hidden (Below w2.heap.size w2 w8 ∧ w8.ownsRow w2.heap.size 3 1 (.slice (some ⟨g8, 0, none⟩) (DE.length + 1) cap8) (DE ++ [j + 1]).length ((DE ++ [j + 1]).flatMap ncell)) := ⟨hB8, by
          rw [List.length_append, List.flatMap_append]
          simpa [ncell] using hown8⟩
        clear hgW hB8 hown8 hg8 hat8 hlt8 hi0 hz0 hz1 hz2
        go_roundg (m - (k + 1))
        case measure => omega
        case rel => exact ⟨k + 1, by omega, rfl, by go_num, ⟨by rw [HSS.out]; exact HF.out⟩⟩
    · obtain rfl : m = k := by omega
      have hT := hst.out.2
      rw [List.take_of_length_le (by rw [HM.out]; exact Nat.le_refl _), ← HD.out] at hT
      have HF : Hidden (wr.ownsRow w.heap.size 3 1 u2 DL.length (DL.flatMap ncell) ∧ Below w.heap.size w wr) := ⟨own_base hT HF2.out.bel.size, HF2.out.bel.trans (hst.out.1.mono HF2.out.bel.size)⟩
      clear hT hst HD
      go_wp2_with fail
      go_ret
      exact ⟨_, rfl, HF.out.1, HF.out.2⟩
set_option maxRecDepth 100000 in
theorem sweep_any (hp : Hp w0 w F h l) (hg : Good l) :
    Calls Tryz.prog 39 #[.pointer (some ⟨h, 0, none⟩)] w fun e w' => e = .returned (.tuple #[.int .i64 ((deadL l).length : Int), .nilIface]) ∧ ∃ F', HpM w0 w w' F F' h (sweepL l) := by
  have HC := Hidden.mk (dead_any hp hg)
  have HP := Hidden.mk hp
  have HG := Hidden.mk hg
  have hle : (deadL l).length ≤ 40 := Nat.le_trans (deadE_len _ _) (entsL_len _ _ 40)
  have HSF : Hidden (∀ i (hi : i < (deadL l).length), freeE (sweepT l ((deadL l).take i)) ((deadL l)[i] : Int) = 0) := ⟨fun i hi => sweep_free HG.out hi⟩
  have HSS : Hidden (∀ i (hi : i < (deadL l).length), sweepT l ((deadL l).take (i + 1)) = freeL (sweepT l ((deadL l).take i)) ((deadL l)[i] : Int)) := ⟨fun i hi => sweepT_succ l _ i hi⟩
  have HSW : Hidden (sweepL l = sweepT l (deadL l)) := ⟨rfl⟩
  generalize deadL l = D at *
  clear hp hg
  go_enter Tryz.func39, Tryz.ntmps39
  go_wp2_with fail
  refine HC.out.mono ?_
  rintro e w1 ⟨v, rfl, hown, hb1⟩
  obtain ⟨A1, c1, rfl, hc1, -⟩ := own_split hown
  have HO := Hidden.mk hown
  have HP1 := Hidden.mk (HP.out.same hb1)
  have HNF : Hidden (∀ q, (Value.slice A1 D.length c1).ownBlock = some q → ¬ F q) := ⟨fun q hq hf => by
    have := (hown.lt q hq).1; have := HP.out.flt q hf; omega⟩
  clear hown hb1 HC HP
  go_wp2_with fail
  go_loopg [12] D.length (fun q i wr => ∃ (k : Nat) (F' : Nat → Prop), k ≤ D.length ∧ q = D.length - k ∧ i = .int .i64 (k : Int) ∧ Hidden (HpM w0 w1 wr F F' h (sweepT l (D.take k))))
  case atStart => exact ⟨0, F, by omega, rfl, rfl, ⟨HP1.out.hp.same (Below.refl _ _)⟩⟩
  case round =>
    obtain ⟨k, F', hk, rfl, rfl, hst⟩ := hrel
    by_cases hlt : k < D.length
    · have hkD : k < D.length := hlt
      have hown := ownsRow_block HO.out (w' := wr) fun q hq => hst.out.kp.block q (HO.out.lt q hq).2 (HNF.out q hq)
      obtain ⟨pb, ob, rfl, hcx⟩ := (own_rdX3 (f := ncell) (fun _ => rfl) rfl hown) k hkD
      have x0 : wr.cell? ⟨pb, ob + k, none⟩ = some (.int .i64 (D[k] : Int)) := by simpa using hcx 0 _ rfl
      have HFR := Hidden.mk (hfree_any (D[k] : Int) hst.out.hp)
      rw [HSF.out k hkD, ← HSS.out k hkD, show errV 0 = Value.nilIface from rfl] at HFR
      have HST := Hidden.mk hst.out
      generalize D[k] = q0 at *
      have i0 : (0 : Int) ≤ k := by omega
      have i1 : (k : Int) < D.length := by omega
      have s3 : IntKind.i64.wrap ((k : Int) + 1) = (k : Int) + 1 := IntWalk.i64_in _ (by omega)
      clear hcx hst hown
      go_wp2_with fail
      refine HFR.out.mono ?_
      rintro e w5 ⟨rfl, F5, hm5⟩
      have HM5 := Hidden.mk (HST.out.trans hm5)
      clear hm5 HFR
      go_wp2_with fail
      go_roundg (D.length - (k + 1))
      case measure => omega
      case rel => exact ⟨k + 1, F5, by omega, rfl, by go_num, HM5⟩
    · obtain rfl : k = D.length := by omega
      have hT := hst.out
      rw [List.take_length, ← HSW.out] at hT
      have HF := Hidden.mk (HP1.out.trans hT)
      clear hT hst
      go_wp2_with fail
      go_ret2
      exact ⟨rfl, _, HF.out⟩
end
end Go.Proofs.YtoieifphklodoaaGreatDoor
/- The contract of play.Do. -/
namespace Go.Proofs.YtoieifphklodoaaGreatDoor
open Go.RowKit Go.Maps Go.ChangeMaps

def opV (x : OpX) : Value := .agg #[.int .i64 x.what, .int .i64 x.handle, .int .i64 x.at_, .int .i64 x.len, sv x.name, .slice x.A x.body.length x.cap]
section
variable {w0 w w1 w' : World} {F F' GH GH' G : Nat → Prop} {s p d h gk ck st n : Nat} {D : Dv} {l l' K : Bytes}
theorem StM.heap (a : StH w0 w1 F GH s p d h gk ck st n l K) (hd : DevB w0 w1 F d D) (hb : Below w.heap.size w w1) (hm : HpM w0 w1 w' GH GH' h l') : StM w0 w w' F F GH GH' s p d h gk ck st n D l' K where
  dev := hd.keep hm.kp (fun q hq hg => a.gf q hg hq) a.hp.new
  st := a.heap hm hd.flt
  kp := (Keep.of_below (F := fun q => (F q ∨ GH q) ∨ (q = s ∨ q = p)) hb).trans (hm.kp.wide (G := fun q => (F q ∨ GH q) ∨ (q = s ∨ q = p)) (fun q hq => .inl (.inr hq))) (fun q hq => .inl hq)
  sub := fun q hq => .inl hq
  nw := fun q hq => by
    rcases hm.nw q hq with h' | h'
    · exact .inl h'
    · have := hb.size
      exact .inr (by omega)
theorem StM.from_ {D' : Dv} {gk' ck' st' : Nat} (hb : Below w.heap.size w w1) (hm : StM w0 w1 w' F F' GH GH' s p d h gk' ck' st' n D' l' K) : StM w0 w w' F F' GH GH' s p d h gk' ck' st' n D' l' K where
  dev := hm.dev
  st := hm.st
  kp := (Keep.of_below (F := fun q => (F q ∨ GH q) ∨ (q = s ∨ q = p)) hb).trans hm.kp (fun q hq => .inl hq)
  sub := fun q hq => by
    rcases hm.sub q hq with h' | h'
    · exact .inl h'
    · have := hb.size
      exact .inr (by omega)
  nw := fun q hq => by
    rcases hm.nw q hq with h' | h'
    · exact .inl h'
    · have := hb.size
      exact .inr (by omega)
/-- what is said of an op -/
def DoAns (w0 w : World) (F GH : Nat → Prop) (s p d h n : Nat) (r : Sto × Nat) (e : Ending) (w' : World) : Prop :=
  e = .returned (errV r.2) ∧ ∃ F' GH' gk' ck', StM w0 w w' F F' GH GH' s p d h gk' ck' r.1.st n r.1.D r.1.l r.1.K
theorem doAns_mk {r : Sto × Nat} {e : Ending} {gk' ck' st' k : Nat} {D' : Dv} {l' K' : Bytes} (hr : r = (⟨D', st', l', K'⟩, k)) (he : e = .returned (errV k)) (hm : StM w0 w w' F F' GH GH' s p d h gk' ck' st' n D' l' K') : DoAns w0 w F GH s p d h n r e w' := by
  subst hr
  exact ⟨he, F', GH', gk', ck', hm⟩
theorem doS_hop {n : Nat} {D : Dv} {st : Nat} {l K : Bytes} {o : OpX} (h6 : o.what ≠ 6) (h7 : o.what ≠ 7) : doS n ⟨D, st, l, K⟩ o = (⟨D, st, hopL l o, K⟩, hopE l o) := by
  unfold doS
  rw [if_neg h6, if_neg h7]
def Six6 (w : World) (a : Nat) (v0 v1 v2 v3 v4 v5 : Value) : Prop := w.cell? ⟨a, 0, none⟩ = some v0 ∧ w.cell? ⟨a, 1, none⟩ = some v1 ∧ w.cell? ⟨a, 2, none⟩ = some v2 ∧ w.cell? ⟨a, 3, none⟩ = some v3 ∧ w.cell? ⟨a, 4, none⟩ = some v4 ∧ w.cell? ⟨a, 5, none⟩ = some v5
theorem six6_cells (w : World) (v0 v1 v2 v3 v4 v5 : Value) (T : TypeId) : Six6 (w.alloc (.cells #[v0, v1, v2, v3, v4, v5] T)) w.heap.size v0 v1 v2 v3 v4 v5 := by
  unfold Six6
  simp only [World.cell?]
  rw [heap_alloc_new w _]
  exact ⟨rfl, rfl, rfl, rfl, rfl, rfl⟩
set_option maxRecDepth 100000 in
set_option maxHeartbeats 1000000 in
theorem sdo_any (o : OpX) (a : StH w0 w F GH s p d h gk ck st n l K) (hd : DevB w0 w F d D) (hgl : Good l) (hgk : Good K) (hl : l.length = 32 * n) (hK : K.length = 32 * n) (hn : n ≤ 200) (hst : st ≤ 4294967295) (ho : OpOk w o) :
    Calls Tryz.prog 11 #[.pointer (some ⟨s, 0, none⟩), opV o] w (DoAns w0 w F GH s p d h n (doS n ⟨D, st, l, K⟩ o)) := by
  obtain ⟨what, handle, at_, len, name, OA, oc, body⟩ := o
  have hal := (Below.refl w.heap.size w).alloc (Nat.le_refl _) (.cells #[.int .i64 what, .int .i64 handle, .int .i64 at_, .int .i64 len, sv name, .slice OA body.length oc] 36)
  have h6 := six6_cells w (.int .i64 what) (.int .i64 handle) (.int .i64 at_) (.int .i64 len) (sv name) (.slice OA body.length oc) 36
  have HAL := Hidden.mk hal
  have HA := Hidden.mk (And.intro (a.below hal) (And.intro (hd.below hal) (ho.below hal)))
  have HL := Hidden.mk (And.intro hgl (And.intro hgk (And.intro hl (And.intro hK hst))))
  have HO : Hidden (∀ x : OpX, x = ⟨what, handle, at_, len, name, OA, oc, body⟩ → x.what = what ∧ x.handle = handle ∧ x.at_ = at_ ∧ x.len = len ∧ x.name = name ∧ x.body = body) := ⟨fun x e => by subst e; exact ⟨rfl, rfl, rfl, rfl, rfl, rfl⟩⟩
  have HE : Hidden (hopE l ⟨what, handle, at_, len, name, OA, oc, body⟩ = if what = 1 then allocE l len at_ else if what = 2 then freeE l handle else if what = 3 then someE l handle at_ body.length else if what = 4 then setE l name handle else if what = 5 then unE l name else if what = 8 ∨ what = 9 then 0 else 1) := ⟨rfl⟩
  have HH : Hidden (hopL l ⟨what, handle, at_, len, name, OA, oc, body⟩ = if what = 1 then allocL l len at_ else if what = 2 then freeL l handle else if what = 3 then writeL l handle at_ body else if what = 4 then setL l name handle else if what = 5 then unL l name else if what = 8 then stepL l else if what = 9 then sweepL l else l) := ⟨rfl⟩
  have HDO : Hidden (what ≠ 6 → what ≠ 7 → doS n ⟨D, st, l, K⟩ ⟨what, handle, at_, len, name, OA, oc, body⟩ = (⟨D, st, hopL l ⟨what, handle, at_, len, name, OA, oc, body⟩, K⟩, hopE l ⟨what, handle, at_, len, name, OA, oc, body⟩)) := ⟨fun x y => doS_hop x y⟩
  have HD6 : Hidden (what = 6 → doS n ⟨D, st, l, K⟩ ⟨what, handle, at_, len, name, OA, oc, body⟩ = if (cmS n st D l K).2 = 0 then (⟨(cmS n st D l K).1, if (dL l K n).length ≠ 0 then st + 1 else st, l, l⟩, 0) else (⟨(cmS n st D l K).1, st, l, K⟩, (cmS n st D l K).2)) := ⟨fun e => by unfold doS; rw [if_pos e]⟩
  have HD7 : Hidden (what = 7 → doS n ⟨D, st, l, K⟩ ⟨what, handle, at_, len, name, OA, oc, body⟩ = (⟨D, st, K, K⟩, 0)) := ⟨fun e => by unfold doS; rw [if_neg (by show ¬ what = 6; omega), if_pos e]⟩
  generalize doS n ⟨D, st, l, K⟩ ⟨what, handle, at_, len, name, OA, oc, body⟩ = r at *
  generalize hopE l ⟨what, handle, at_, len, name, OA, oc, body⟩ = he at *
  generalize hopL l ⟨what, handle, at_, len, name, OA, oc, body⟩ = hh at *
  obtain ⟨c0, c1, c2, c3, c4, c5⟩ := h6
  have HOK := Hidden.mk ho
  unfold opV
  dsimp only
  clear a hd hgl hgk hl hK hst ho hal
  go_enter Tryz.func11, Tryz.ntmps11
  go_upto_region 1 with (fail)
  generalize w.alloc (.cells #[.int .i64 what, .int .i64 handle, .int .i64 at_, .int .i64 len, sv name, .slice OA body.length oc] 36) = W1 at *
  generalize w.heap.size = bx at c0 c1 c2 c3 c4 c5 ⊢
  go_wp2_with fail
  refine (stheap_any HA.out.1).mono ?_
  rintro e W2 ⟨rfl, rfl⟩
  by_cases h1 : what = 1
  · have hee : he = allocE l len at_ := HE.out.trans (by rw [if_pos h1])
    have hhe : hh = allocL l len at_ := HH.out.trans (by rw [if_pos h1])
    have HR : Hidden (r = (⟨D, st, allocL l len at_, K⟩, allocE l len at_)) := ⟨by rw [HDO.out (by omega) (by omega), hee, hhe]⟩
    clear hee hhe
    subst h1
    have HC := Hidden.mk (halloc_any len at_ HA.out.1.hp)
    clear HDO HE HH HD6 HD7 HO
    go_wp2_with fail
    refine HC.out.mono ?_
    rintro e w3 ⟨rfl, GH3, hm⟩
    have HM := Hidden.mk (StM.heap HA.out.1 HA.out.2.1 HAL.out hm)
    clear hm HC
    go_wp2_with fail
    go_ret
    exact doAns_mk HR.out rfl HM.out
  by_cases h2 : what = 2
  · have hee : he = freeE l handle := HE.out.trans (by rw [if_neg (by omega), if_pos h2])
    have hhe : hh = freeL l handle := HH.out.trans (by rw [if_neg (by omega), if_pos h2])
    have HR : Hidden (r = (⟨D, st, freeL l handle, K⟩, freeE l handle)) := ⟨by rw [HDO.out (by omega) (by omega), hee, hhe]⟩
    clear hee hhe
    subst h2
    have HC := Hidden.mk (hfree_any handle HA.out.1.hp)
    clear HDO HE HH HD6 HD7 HO
    go_wp2_with fail
    refine HC.out.mono ?_
    rintro e w3 ⟨rfl, GH3, hm⟩
    have HM := Hidden.mk (StM.heap HA.out.1 HA.out.2.1 HAL.out hm)
    clear hm HC
    go_wp2_with fail
    go_ret
    exact doAns_mk HR.out rfl HM.out
  by_cases h3 : what = 3
  · have hee : he = someE l handle at_ body.length := HE.out.trans (by rw [if_neg (by omega), if_neg (by omega), if_pos h3])
    have hhe : hh = writeL l handle at_ body := HH.out.trans (by rw [if_neg (by omega), if_neg (by omega), if_pos h3])
    have HR : Hidden (r = (⟨D, st, writeL l handle at_ body, K⟩, someE l handle at_ body.length)) := ⟨by rw [HDO.out (by omega) (by omega), hee, hhe]⟩
    clear hee hhe
    subst h3
    have HC := Hidden.mk (hwrite_any handle at_ OA body.length oc body HA.out.1.hp HL.out.1 rfl (Nat.le_trans HOK.out.cap HOK.out.le) HA.out.2.2.rd)
    clear HDO HE HH HD6 HD7 HO
    go_wp2_with fail
    refine HC.out.mono ?_
    rintro e w3 ⟨rfl, hm⟩
    have HM := Hidden.mk (StM.heap HA.out.1 HA.out.2.1 HAL.out hm)
    clear hm HC
    go_wp2_with fail
    go_ret
    exact doAns_mk HR.out rfl HM.out
  by_cases h4 : what = 4
  · have hee : he = setE l name handle := HE.out.trans (by rw [if_neg (by omega), if_neg (by omega), if_neg (by omega), if_pos h4])
    have hhe : hh = setL l name handle := HH.out.trans (by rw [if_neg (by omega), if_neg (by omega), if_neg (by omega), if_pos h4])
    have HR : Hidden (r = (⟨D, st, setL l name handle, K⟩, setE l name handle)) := ⟨by rw [HDO.out (by omega) (by omega), hee, hhe]⟩
    clear hee hhe
    subst h4
    have HC := Hidden.mk (rset_any name handle HA.out.1.hp HL.out.1 HOK.out.name)
    clear HDO HE HH HD6 HD7 HO
    go_wp2_with fail
    refine HC.out.mono ?_
    rintro e w3 ⟨rfl, GH3, hm⟩
    have HM := Hidden.mk (StM.heap HA.out.1 HA.out.2.1 HAL.out hm)
    clear hm HC
    go_wp2_with fail
    go_ret
    exact doAns_mk HR.out rfl HM.out
  by_cases h5 : what = 5
  · have hee : he = unE l name := HE.out.trans (by rw [if_neg (by omega), if_neg (by omega), if_neg (by omega), if_neg (by omega), if_pos h5])
    have hhe : hh = unL l name := HH.out.trans (by rw [if_neg (by omega), if_neg (by omega), if_neg (by omega), if_neg (by omega), if_pos h5])
    have HR : Hidden (r = (⟨D, st, unL l name, K⟩, unE l name)) := ⟨by rw [HDO.out (by omega) (by omega), hee, hhe]⟩
    clear hee hhe
    subst h5
    have HC := Hidden.mk (runset_any name HA.out.1.hp HL.out.1 HOK.out.name)
    clear HDO HE HH HD6 HD7 HO
    go_wp2_with fail
    refine HC.out.mono ?_
    rintro e w3 ⟨rfl, GH3, hm⟩
    have HM := Hidden.mk (StM.heap HA.out.1 HA.out.2.1 HAL.out hm)
    clear hm HC
    go_wp2_with fail
    go_ret
    exact doAns_mk HR.out rfl HM.out
  by_cases h8 : what = 8
  · have hee : he = 0 := HE.out.trans (by rw [if_neg (by omega), if_neg (by omega), if_neg (by omega), if_neg (by omega), if_neg (by omega), if_pos (by omega)])
    have hhe : hh = stepL l := HH.out.trans (by rw [if_neg (by omega), if_neg (by omega), if_neg (by omega), if_neg (by omega), if_neg (by omega), if_pos h8])
    have HR : Hidden (r = (⟨D, st, stepL l, K⟩, 0)) := ⟨by rw [HDO.out (by omega) (by omega), hee, hhe]⟩
    clear hee hhe
    subst h8
    have HC := Hidden.mk (mstep_any HA.out.1.hp HL.out.1)
    clear HDO HE HH HD6 HD7 HO
    go_wp2_with fail
    refine HC.out.mono ?_
    rintro e w3 ⟨rfl, GH3, hm⟩
    have HM := Hidden.mk (StM.heap HA.out.1 HA.out.2.1 HAL.out hm)
    clear hm HC
    go_wp2_with fail
    go_ret
    exact doAns_mk HR.out rfl HM.out
  by_cases h9 : what = 9
  · have hee : he = 0 := HE.out.trans (by rw [if_neg (by omega), if_neg (by omega), if_neg (by omega), if_neg (by omega), if_neg (by omega), if_pos (by omega)])
    have hhe : hh = sweepL l := HH.out.trans (by rw [if_neg (by omega), if_neg (by omega), if_neg (by omega), if_neg (by omega), if_neg (by omega), if_neg (by omega), if_pos h9])
    have HR : Hidden (r = (⟨D, st, sweepL l, K⟩, 0)) := ⟨by rw [HDO.out (by omega) (by omega), hee, hhe]⟩
    clear hee hhe
    subst h9
    have HC := Hidden.mk (sweep_any HA.out.1.hp HL.out.1)
    clear HDO HE HH HD6 HD7 HO
    go_wp2_with fail
    refine HC.out.mono ?_
    rintro e w3 ⟨rfl, GH3, hm⟩
    have HM := Hidden.mk (StM.heap HA.out.1 HA.out.2.1 HAL.out hm)
    clear hm HC
    go_wp2_with fail
    go_ret
    exact doAns_mk HR.out rfl HM.out
  by_cases h6 : what = 6
  · have HR := Hidden.mk (HD6.out h6)
    subst h6
    have HC := Hidden.mk (scommit_any HA.out.1 HA.out.2.1 HL.out.2.2.1 HL.out.2.2.2.1 hn HL.out.2.2.2.2)
    obtain ⟨R, hRR⟩ : ∃ R, cmS n st D l K = R := ⟨_, rfl⟩
    unfold ScAns at HC
    rw [hRR] at HR HC
    clear HDO HE HH HD6 HD7 HO hRR
    go_wp2_with fail
    refine HC.out.mono ?_
    rintro e w3 ⟨rfl, F3, gk3, ck3, hm1, hm0⟩
    have HM := Hidden.mk (And.intro hm1 hm0)
    clear hm1 hm0 HC
    go_wp2_with fail
    go_ret
    by_cases hz : R.2 = 0
    · exact doAns_mk (HR.out.trans (if_pos hz)) (by rw [hz]; rfl) ((HM.out.2 hz).from_ HAL.out)
    · exact doAns_mk (HR.out.trans (if_neg hz)) rfl ((HM.out.1 hz).from_ HAL.out)
  by_cases h7 : what = 7
  · have HR := Hidden.mk (HD7.out h7)
    subst h7
    have HC := Hidden.mk (sabort_any HA.out.1 HL.out.2.1.len HA.out.2.1.flt)
    clear HDO HE HH HD6 HD7 HO
    go_wp2_with fail
    refine HC.out.mono ?_
    rintro e w3 ⟨rfl, GH3, hm, -⟩
    have HM := Hidden.mk (StM.heap HA.out.1 HA.out.2.1 HAL.out hm)
    clear hm HC
    go_wp2_with fail
    go_ret
    exact doAns_mk HR.out rfl HM.out
  have hee : he = 1 := HE.out.trans (by rw [if_neg h1, if_neg h2, if_neg h3, if_neg h4, if_neg h5, if_neg (by omega)])
  have hhe : hh = l := HH.out.trans (by rw [if_neg h1, if_neg h2, if_neg h3, if_neg h4, if_neg h5, if_neg h8, if_neg h9])
  have HR : Hidden (r = (⟨D, st, l, K⟩, 1)) := ⟨by rw [HDO.out h6 h7, hee, hhe]⟩
  clear hee hhe
  have HM := Hidden.mk (StM.heap HA.out.1 HA.out.2.1 HAL.out (HA.out.1.hp.same (Below.refl _ _)))
  have q1 : (what == 1) = false := by simpa using h1
  have q2 : (what == 2) = false := by simpa using h2
  have q3 : (what == 3) = false := by simpa using h3
  have q4 : (what == 4) = false := by simpa using h4
  have q5 : (what == 5) = false := by simpa using h5
  have q6 : (what == 6) = false := by simpa using h6
  have q7 : (what == 7) = false := by simpa using h7
  have q8 : (what == 8) = false := by simpa using h8
  have q9 : (what == 9) = false := by simpa using h9
  clear h1 h2 h3 h4 h5 h6 h7 h8 h9 HDO HE HH HD6 HD7 HO
  go_wp2_with fail
  go_ret
  exact doAns_mk HR.out rfl HM.out
end
end Go.Proofs.YtoieifphklodoaaGreatDoor
/- Package store: of, Open, Create. -/
namespace Go.Proofs.YtoieifphklodoaaGreatDoor
open Go.RowKit Go.Maps Go.ChangeMaps

/-- a store that a call has made -/
structure SnM (w0 w w' : World) (F F' GH : Nat → Prop) (s p d h gk ck st n : Nat) (D : Dv) (N : Bytes) : Prop where
  dev : DevB w0 w' F' d D
  st : StH w0 w' F' GH s p d h gk ck st n N N
  kp : Keep F w w'
  sub : ∀ q, F' q → F q ∨ w.heap.size ≤ q
  ns : w.heap.size ≤ s ∧ w.heap.size ≤ p ∧ w.heap.size ≤ gk
  ng : ∀ q, GH q → w.heap.size ≤ q
section
variable {w0 w w' : World} {F F' GH GH' G : Nat → Prop} {s p d h gk ck st n : Nat} {D : Dv} {l l' K : Bytes}
set_option maxRecDepth 100000 in
theorem sof_ok (hd : DevB w0 w F d D) (hp : PgH w F p d st n) (hn : n = nP D) (hdn : D.down = false) (hl : ∀ i, i < n → (readD D (48 + i)).length = 32) (N : Bytes) (hN : allB D n = N) (hg : Good N) (h0 : w0.heap.size ≤ p) :
    Calls Tryz.prog 62 #[.pointer (some ⟨p, 0, none⟩)] w fun e w' => ∃ s h gk ck GH, e = .returned (.tuple #[.pointer (some ⟨s, 0, none⟩), .nilIface]) ∧ StH w0 w' F GH s p d h gk ck st n N N ∧ Below w.heap.size w w' ∧ w.heap.size ≤ s ∧ w.heap.size ≤ gk ∧ ∀ q, GH q → w.heap.size ≤ q := by
  have hlen : (allB D n).length = 32 * n := allB_len n hl
  rw [hN] at hlen
  have hb := hg.bd
  have HV := Hidden.mk (vall_ok hd (by rw [← hn]; exact hp) hdn (by rw [← hn]; exact hl) n hn)
  rw [hN] at HV
  have HP := Hidden.mk (And.intro hp (And.intro hd (And.intro hlen (And.intro hg h0))))
  have hn9 : 0 < 32 * n := by omega
  clear hd hp hn hdn hl hN hg h0 hlen hb
  go_enter Tryz.func62, Tryz.ntmps62
  go_wp2_with fail
  refine HV.out.mono ?_
  rintro e w1 ⟨v, rfl, hown, hb1⟩
  obtain ⟨g, cap, rfl, hbg, hrow⟩ := row_of_owns hown HP.out.2.2.1 hn9
  have HR := Hidden.mk (And.intro hbg (And.intro hrow hb1))
  have HLD := Hidden.mk (hload_ok (some ⟨g, 0, none⟩) (32 * n) cap N w0 w1 HP.out.2.2.1 HP.out.2.2.2.1 (by rw [← HP.out.2.2.1]; exact hrow.le.1) hrow.rd (HP.out.2.1.below hb1).bel)
  clear hown hbg hrow hb1 HV
  go_wp2_with fail
  refine HLD.out.mono ?_
  rintro e w2 ⟨h, GH, rfl, hp2, hb2, hg2⟩
  have hal := (Below.refl w2.heap.size w2).alloc (Nat.le_refl _) (.cells #[.pointer (some ⟨p, 0, none⟩), .pointer (some ⟨h, 0, none⟩), .slice (some ⟨g, 0, none⟩) (32 * n) cap] 118)
  have HF : Hidden (StH w0 (w2.alloc (.cells #[.pointer (some ⟨p, 0, none⟩), .pointer (some ⟨h, 0, none⟩), .slice (some ⟨g, 0, none⟩) (32 * n) cap] 118)) F GH w2.heap.size p d h g cap st n N N ∧ Below w.heap.size w (w2.alloc (.cells #[.pointer (some ⟨p, 0, none⟩), .pointer (some ⟨h, 0, none⟩), .slice (some ⟨g, 0, none⟩) (32 * n) cap] 118)) ∧ w.heap.size ≤ w2.heap.size ∧ w.heap.size ≤ g ∧ ∀ q, GH q → w.heap.size ≤ q) := ⟨by
    obtain ⟨a1, a2, a3⟩ := HR.out
    obtain ⟨b1, b2, b3, b4, b5⟩ := HP.out
    have hB2 : Below w.heap.size w w2 := a3.trans (hb2.mono a3.size)
    have hB3 := hB2.trans (hal.mono hB2.size)
    have s1 := a3.size
    have s2 := hb2.size
    have s0 := b2.bel.size
    have hnF : ∀ q, w.heap.size ≤ q → ¬ F q := fun q hq hf => by have := b2.flt q hf; omega
    have hr2 : Row w2 5 g cap N := a2.below hb2 a2.lt
    have hglt := a2.lt
    have hplt := b1.lt
    refine ⟨⟨by rw [b3]; exact heap_alloc_new w2 _, b1.below hB3, hp2.below hal, hr2.below hal hr2.lt, hnF _ (by omega), hnF _ a1, fun q hq => hnF q (Nat.le_trans s1 (hg2 q hq)), fun hq => by have := hp2.flt _ hq; omega, fun hq => by have := hg2 _ hq; omega, fun hq => by have := hg2 _ hq; omega, by omega, b5, Nat.le_trans s0 a1⟩, hB3, by omega, a1, fun q hq => Nat.le_trans s1 (hg2 q hq)⟩⟩
  clear hp2 hb2 hg2 hal HLD
  go_wp2_with fail
  go_ret2
  exact ⟨_, h, g, cap, GH, rfl, HF.out.1, HF.out.2.1, HF.out.2.2.1, HF.out.2.2.2.1, HF.out.2.2.2.2⟩
theorem sopen_ok (hd : DevB w0 w F d D) (h0 : (openP D).2 = 0) (hst : (openMk D).1 = st) (hn : n = nP D) (hn2 : n = nP (openP D).1) (hdn : (openP D).1.down = false) (hl : ∀ i, i < n → (readD (openP D).1 (48 + i)).length = 32) (N : Bytes) (hN : allB (openP D).1 n = N) (hg : Good N) :
    Calls Tryz.prog 19 #[.pointer (some ⟨d, 0, none⟩)] w fun e w' => ∃ s p h gk ck F' GH, e = .returned (.tuple #[.pointer (some ⟨s, 0, none⟩), .nilIface]) ∧ SnM w0 w w' F F' GH s p d h gk ck st n (openP D).1 N := by
  have HO := Hidden.mk (popen_any hd)
  have HZ := Hidden.mk (And.intro hd.bel hst)
  have HNP := Hidden.mk hn
  have HQ := Hidden.mk (And.intro h0 (And.intro hn (And.intro hn2 (And.intro hdn (And.intro hl (And.intro hN hg))))))
  rw [hst] at HO
  generalize openP D = r at *
  clear hd h0 hn hn2 hdn hl hN hg hst
  go_enter Tryz.func19, Tryz.ntmps19
  go_wp2_with fail
  refine HO.out.mono ?_
  rintro e w1 hop
  obtain ⟨v, F', rfl, hm, hpp⟩ := hop.uni
  obtain ⟨q1, q2, q3, q4, q5, q6, q7⟩ := HQ.out
  obtain ⟨p, rfl, hp, hpn⟩ := hpp q1
  have hw := HZ.out.1.size
  have HOF := Hidden.mk (sof_ok hm.dev (by rw [← HNP.out] at hp; exact hp) q3 q4 q5 N q6 q7 (by omega))
  have HM := Hidden.mk (And.intro hm hpn)
  rw [q1, errV0]
  clear hm hop hpp hp hpn q1 q2 q3 q4 q5 q6 q7 HO
  go_wp2_with fail
  refine HOF.out.mono ?_
  rintro e w2 ⟨s, h, gk, ck, GH, rfl, hs, hb, h1, h2, h3⟩
  have HF : Hidden (SnM w0 w w2 F F' GH s p d h gk ck st n r.1 N) := ⟨by
    obtain ⟨a1, a2⟩ := HM.out
    have a3 := a1.below hb
    have hz := a1.kp.size
    exact ⟨a3.dev, hs, a3.kp, a3.sub, ⟨by omega, a2, by omega⟩, fun q hq => Nat.le_trans hz (h3 q hq)⟩⟩
  clear hs hb h1 h2 h3 HOF
  go_wp2_with fail
  go_ret2
  exact ⟨s, p, h, gk, ck, F', GH, rfl, HF.out⟩
end
end Go.Proofs.YtoieifphklodoaaGreatDoor
/- Package store: Create. -/
namespace Go.Proofs.YtoieifphklodoaaGreatDoor
open Go.RowKit Go.Maps Go.ChangeMaps

section
variable {w0 w w' : World} {F F' : Nat → Prop} {d : Nat}
theorem newD_len (nn : Nat) : (newD nn).S.length = nn := by simp [newD]
set_option maxRecDepth 100000 in
set_option maxHeartbeats 1000000 in
theorem screate_ok (nn n : Nat) (hd : DevB w0 w F d (newD nn)) (h57 : 57 ≤ nn) (h3 : nn ≤ 300) (hn : n = nP (newD nn)) :
    Calls Tryz.prog 10 #[.pointer (some ⟨d, 0, none⟩)] w fun e w' => ∃ s p h gk ck F' GH, e = .returned (.tuple #[.pointer (some ⟨s, 0, none⟩), .nilIface]) ∧ SnM w0 w w' F F' GH s p d h gk ck 2 n (madeD nn) (List.replicate (32 * n) 0) := by
  have HL := Hidden.mk hd.len
  rw [newD_len] at HL
  obtain ⟨mk0, mkn, mkp, mkd, mko⟩ := made_ok nn h57 h3 n hn
  have HMD := Hidden.mk (And.intro mk0 (And.intro mkp (And.intro mkd mko)))
  have HME : Hidden (madeD nn = (flD (zsD nn n)).1) := ⟨by unfold madeD; rw [hn]⟩
  have HZS : Hidden (∀ k, k ≤ n → MdS nn n (zsD nn k)) := ⟨fun k hk => by have := zs_ok nn (by omega) h3 k (by rw [← hn]; exact hk); rwa [← hn] at this⟩
  have HPF := Hidden.mk (pformat_ok hd (⟨rfl, rfl⟩ : Up (newD nn)) (by rw [newD_len]; omega))
  rw [← hn] at HPF
  have s1 : IntKind.i64.wrap ((nn : Int) - 48) = (nn : Int) - 48 := IntWalk.i64_in _ (by omega)
  have HB0 := Hidden.mk hd.bel
  have HZ0 : Hidden (zsD nn 0 = formatD (newD nn)) := ⟨rfl⟩
  have HZK : Hidden (∀ k, zsD nn (k + 1) = (wrD (zsD nn k) (48 + (k : Int)) (List.replicate 32 0)).1) := ⟨fun _ => rfl⟩
  have hn9 : 9 ≤ n ∧ n ≤ 200 := by omega
  have hnz : min ((nn : Int) - 48) 200 = (n : Int) := by omega
  generalize madeD nn = Dm at *
  generalize formatD (newD nn) = Df at *
  clear hd mk0 mkp mkd mko mkn hn
  go_enter Tryz.func10, Tryz.ntmps10
  go_upto_region 1 with (fail)
  go_cut [4] (fun v wx => v = .int .i64 (n : Int) ∧ w = wx)
  case first =>
    go_wp2_with fail
    refine HL.out.mono ?_
    rintro e w1 ⟨rfl, rfl⟩
    go_wp2_with fail
    all_goals
      go_meet
      refine ⟨?_, rfl⟩
      first
        | (congr 1; omega)
  case rest =>
  obtain ⟨rfl, rfl⟩ := hcut
  clear s1 hnz HL
  have s2 : IntKind.i64.wrap ((n : Int) * 32) = (n : Int) * 32 := IntWalk.i64_in _ (by omega)
  have d1 : decide ((n : Int) < 1) = false := by simp; omega
  have HR := Hidden.mk (right_any ((n : Int) * 32) w)
  rw [rightB_true.2 (by omega)] at HR
  go_wp2_with fail
  refine HR.out.mono ?_
  rintro e w1 ⟨rfl, rfl⟩
  clear d1 s2 HR
  go_wp2_with fail
  refine HPF.out.mono ?_
  rintro e w1 ⟨p, F1, rfl, hm1, hp1, hpn⟩
  have HP1 := Hidden.mk hp1
  have HPN := Hidden.mk hpn
  have HST : Hidden (PdM w0 w w1 F F1 d (zsD nn 0) ∧ PgH w1 F1 p d 2 n) := ⟨by rw [HZ0.out]; exact ⟨hm1, hp1⟩⟩
  clear hm1 hp1 hpn HPF HZ0
  go_wp2_with fail
  refine (plen_any HP1.out).mono ?_
  rintro e w2 ⟨rfl, rfl⟩
  go_wp2_with fail
  clear HP1
  go_loopg [33] n (fun r i wr => ∃ (k : Nat) (Fk : Nat → Prop), k ≤ n ∧ r = n - k ∧ i = .int .i64 (k : Int) ∧ Hidden (PdM w0 w wr F Fk d (zsD nn k) ∧ PgH wr Fk p d 2 n))
  case atStart => exact ⟨0, F1, by omega, rfl, rfl, HST⟩
  case round =>
    obtain ⟨k, Fk, hk, rfl, rfl, hst⟩ := hrel
    by_cases hlt : k < n
    · have i0 : (0 : Int) ≤ k := by omega
      have i1 : (k : Int) < n := by omega
      have s1 : IntKind.i64.wrap ((k : Int) + 1) = (k : Int) + 1 := IntWalk.i64_in _ (by omega)
      have s2 : IntKind.i64.wrap (48 + (k : Int)) = 48 + (k : Int) := IntWalk.i64_in _ (by omega)
      have hmz := fun W => mk_bytes 32 32 rfl (by omega) W
      have hal := (Below.refl wr.heap.size wr).alloc (Nat.le_refl _) (.cells (zeroRow 32) 5)
      have HM4 := Hidden.mk (hst.out.1.below hal)
      have HP4 := Hidden.mk (hst.out.2.below hal)
      have hgF : ¬ Fk wr.heap.size := fun hf => by have := hst.out.1.dev.flt _ hf; omega
      have HW2 := Hidden.mk (HM4.out.dev.write_all (48 + (k : Int)) (some ⟨wr.heap.size, 0, none⟩) 32 32 (List.replicate 32 0) (by simp) (row_zeros wr 32 (by simp [maxLen])).rd (fun _ ad e hf => hgF (by obtain rfl := Option.some.inj e; exact hf)))
      have hz := ((HZS.out k hk).zero k hlt).1
      rw [hz, errV0, ← HZK.out k] at HW2
      clear hst hal hgF hz HST
      go_wp2_with fail
      refine HW2.out.mono ?_
      rintro e w5 ⟨rfl, hh⟩
      obtain ⟨F5, hm5⟩ := pdm_write _ hh
      have HN : Hidden (PdM w0 w w5 F F5 d (zsD nn (k + 1)) ∧ PgH w5 F5 p d 2 n) := ⟨HM4.out.next hm5, HP4.out.mod hm5⟩
      clear hh hm5 HW2 HM4 HP4 hmz
      go_wp2_with fail
      go_roundg (n - (k + 1))
      case measure => omega
      case rel => exact ⟨k + 1, F5, by omega, rfl, by go_num, HN⟩
    · obtain rfl : k = n := by omega
      have t4 : decide ((k : Int) < k) = false := by simp
      have HFL := Hidden.mk hst.out.1.dev.flush_all
      rw [HMD.out.1, errV0, ← HME.out] at HFL
      clear HST
      go_wp2_with fail
      refine HFL.out.mono ?_
      rintro e w6 ⟨rfl, hd6, hk6⟩
      have hm6 : PdM w0 wr w6 Fk Fk d Dm := ⟨hd6, hk6, fun _ hq => .inl hq⟩
      have HM7 := Hidden.mk (And.intro (hst.out.1.next hm6) (hst.out.2.mod hm6))
      obtain ⟨a1, a2, a3⟩ := HMD.out.2
      have hsz := HB0.out.size
      have hpg := a3.sf
      obtain ⟨pg, hsf⟩ := hpg
      have HOF := Hidden.mk (sof_ok HM7.out.1.dev HM7.out.2 a1 a2 (fun i hi => by rw [(hsf.page i hi).1]; exact (hsf.page i hi).2) _ a3.kb.symm a3.gl (by have := HPN.out; omega))
      dsimp only at HOF
      clear hd6 hk6 hm6 HFL a1 a2 a3 hsf hst
      go_wp2_with fail
      refine HOF.out.mono ?_
      rintro e w8 ⟨s, h, gk, ck, GH, rfl, hs, hb, h1, h2, h3⟩
      have HF : Hidden (SnM w0 w w8 F Fk GH s p d h gk ck 2 k Dm (List.replicate (32 * k) 0)) := ⟨by
        have a3 := HM7.out.1.below hb
        have hz := HM7.out.1.kp.size
        exact ⟨a3.dev, hs, a3.kp, a3.sub, ⟨by omega, HPN.out, by omega⟩, fun q hq => Nat.le_trans hz (h3 q hq)⟩⟩
      clear hs hb h1 h2 h3 HOF
      go_wp2_with fail
      go_ret2
      exact ⟨s, p, h, gk, ck, Fk, GH, rfl, HF.out⟩
end
end Go.Proofs.YtoieifphklodoaaGreatDoor
/- A store that is played with, the power there: what is kept; a second store beside it; a region's condition made stronger on the way. -/
namespace Go.Proofs.YtoieifphklodoaaGreatDoor
open Go.RowKit Go.Maps Go.ChangeMaps

section
variable {P : Program} {ops : Array Oper} {Q : Exit → Act → World → Prop} {md : Region.Mode} {S S' : World → Prop}
/-- a stronger condition does -/
theorem wpAnyH_strong (h : ∀ w, S' w → S w) : ∀ (fuel : Nat) (listed : Array Bool) (a : Act) (w : World), wpAnyH P md ops Q S' fuel listed a w → wpAnyH P md ops Q S fuel listed a w
  | 0, _, _, _, k => k
  | fuel + 1, _, _, _, k => ⟨k.1, fun i hi => wpOp_mono (fun a' w' k' => ⟨h w' k'.1, wpAnyH_strong h fuel _ a' w' k'.2⟩) (k.2 i hi)⟩
end
/-- a store, its device, the power there -/
structure PlSt (w0 w : World) (F GH : Nat → Prop) (s p d h nn n : Nat) (S : Sto) : Prop where
  dev : DevB w0 w F d S.D
  st : ∃ gk ck, StH w0 w F GH s p d h gk ck S.st n S.l S.K
  ok : StOk nn n S
/-- what an op leaves -/
structure PlM (w0 w w' : World) (F F' GH GH' : Nat → Prop) (s p d h nn n : Nat) (S : Sto) : Prop where
  pl : PlSt w0 w' F' GH' s p d h nn n S
  kp : Keep (fun q => (F q ∨ GH q) ∨ (q = s ∨ q = p)) w w'
  sub : ∀ q, F' q → F q ∨ w.heap.size ≤ q
  nw : ∀ q, GH' q → GH q ∨ w.heap.size ≤ q
section
variable {w0 w w' w1 : World} {F F' GH GH' GA : Nat → Prop} {s p d h nn n sa pa ha gka cka sta : Nat} {S : Sto} {la Ka : Bytes}
theorem PlSt.below (a : PlSt w0 w F GH s p d h nn n S) (hb : Below w.heap.size w w') : PlSt w0 w' F GH s p d h nn n S := by
  obtain ⟨gk, ck, hs⟩ := a.st
  exact ⟨a.dev.below hb, ⟨gk, ck, hs.below hb⟩, a.ok⟩
theorem PlSt.do_ (a : PlSt w0 w F GH s p d h nn n S) (hst : S.st < 4294967295) (o : OpX) (ho : OpOk w0 o) :
    Calls Tryz.prog 11 #[.pointer (some ⟨s, 0, none⟩), opV o] w fun e w' => e = .returned (errV (doS n S o).2) ∧ ∃ F' GH', PlM w0 w w' F F' GH GH' s p d h nn n (doS n S o).1 := by
  obtain ⟨gk, ck, hs⟩ := a.st
  obtain ⟨D, st, l, K⟩ := S
  refine (sdo_any o hs a.dev a.ok.gl a.ok.gk a.ok.ll a.ok.lk a.ok.n2 (Nat.le_of_lt hst) (ho.below a.dev.bel)).mono ?_
  rintro e w1 ⟨he, F', GH', gk', ck', hm⟩
  exact ⟨he, F', GH', ⟨hm.dev, ⟨gk', ck', hm.st⟩, (a.ok.do hst o).1⟩, hm.kp, hm.sub, hm.nw⟩
/-- Commit by itself -/
theorem PlSt.commit (a : PlSt w0 w F GH s p d h nn n S) (hst : S.st < 4294967295) :
    Calls Tryz.prog 46 #[.pointer (some ⟨s, 0, none⟩)] w fun e w' => e = .returned (errV (cmS n S.st S.D S.l S.K).2) ∧ Below w0.heap.size w0 w' ∧ ((cmS n S.st S.D S.l S.K).2 = 0 → ∃ F', PlM w0 w w' F F' GH GH s p d h nn n ⟨(cmS n S.st S.D S.l S.K).1, if (dL S.l S.K n).length ≠ 0 then S.st + 1 else S.st, S.l, S.l⟩) := by
  obtain ⟨gk, ck, hs⟩ := a.st
  obtain ⟨D, st, l, K⟩ := S
  refine (scommit_any hs a.dev a.ok.ll a.ok.lk a.ok.n2 (Nat.le_of_lt hst)).mono ?_
  rintro e w1 ⟨he, F', gk', ck', hn, hm⟩
  refine ⟨he, ?_, fun h0 => ⟨F', ⟨(hm h0).dev, ⟨gk', ck', (hm h0).st⟩, ?_⟩, (hm h0).kp, (hm h0).sub, (hm h0).nw⟩⟩
  · by_cases h0 : (cmS n st D l K).2 = 0
    · exact (hm h0).dev.bel
    · exact (hn h0).dev.bel
  have hd := (a.ok.do hst ⟨6, 0, 0, 0, [], none, 0, []⟩).1
  unfold doS at hd
  rw [if_pos rfl, if_pos h0] at hd
  exact hd
/-- another store, of which no block is one of these -/
structure Beside (w0 w : World) (F GH GA : Nat → Prop) (s p sa pa d ha gka cka sta n : Nat) (la Ka : Bytes) : Prop where
  st : StH w0 w F GA sa pa d ha gka cka sta n la Ka
  ap : ∀ q, (GA q ∨ q = sa ∨ q = pa ∨ q = gka) → ¬ GH q ∧ q ≠ s ∧ q ≠ p
theorem StH.lt4 (a : StH w0 w F GA sa pa d ha gka cka sta n la Ka) : ∀ q, (GA q ∨ q = sa ∨ q = pa ∨ q = gka) → q < w.heap.size ∧ ¬ F q := fun q hq => by
  obtain ⟨l1, l2, l3⟩ := a.lt
  rcases hq with hq | rfl | rfl | rfl
  · exact ⟨a.hp.flt q hq, a.gf q hq⟩
  · exact ⟨l1, a.sf⟩
  · exact ⟨l2, a.pg.2⟩
  · exact ⟨l3, a.kf⟩
theorem Beside.below (a : Beside w0 w F GH GA s p sa pa d ha gka cka sta n la Ka) (hb : Below w.heap.size w w') : Beside w0 w' F GH GA s p sa pa d ha gka cka sta n la Ka := ⟨a.st.below hb, a.ap⟩
theorem Beside.turn (a : Beside w0 w F GH GA s p sa pa d ha gka cka sta n la Ka) (hF : ∀ q, F q → w0.heap.size ≤ q) (hG : ∀ q, GH q → w0.heap.size ≤ q) (hs : w0.heap.size ≤ s) (hp : w0.heap.size ≤ p) (hk : Keep (fun q => (F q ∨ GH q) ∨ (q = s ∨ q = p)) w w') (hsub : ∀ q, F' q → F q ∨ w.heap.size ≤ q) (hnw : ∀ q, GH' q → GH q ∨ w.heap.size ≤ q) : Beside w0 w' F' GH' GA s p sa pa d ha gka cka sta n la Ka :=
  ⟨a.st.keep hk (fun q hq hf => by
    obtain ⟨h1, h2, h3⟩ := a.ap q hq
    rcases hf with (hf | hf) | hf | hf
    · exact (a.st.lt4 q hq).2 hf
    · exact h1 hf
    · exact h2 hf
    · exact h3 hf) (fun q hf => by
    rcases hf with (hf | hf) | hf | hf
    · exact hF q hf
    · exact hG q hf
    · exact hf ▸ hs
    · exact hf ▸ hp) hsub, fun q hq => ⟨fun hg => by
    rcases hnw q hg with h' | h'
    · exact (a.ap q hq).1 h'
    · have := (a.st.lt4 q hq).1; omega, (a.ap q hq).2⟩⟩
theorem Beside.dev (a : Beside w0 w F GH GA s p sa pa d ha gka cka sta n la Ka) (hk : Keep F w w') (hn : ∀ q, F q → w0.heap.size ≤ q) (hF : ∀ q, F' q → F q ∨ w.heap.size ≤ q) : Beside w0 w' F' GH GA s p sa pa d ha gka cka sta n la Ka := ⟨a.st.dev hk hn hF, a.ap⟩
/-- the store is played with, a device of its own is opened -/
theorem PlSt.opened (a : PlSt w0 w F GH s p d h nn n S) {D' : Dv} (hd : DevB w0 w' F' d D') (hk : Keep F w w') (hF : ∀ q, F' q → F q ∨ w.heap.size ≤ q) (ho : StOk nn n ⟨D', S.st, S.l, S.K⟩) : PlSt w0 w' F' GH s p d h nn n ⟨D', S.st, S.l, S.K⟩ := by
  obtain ⟨gk, ck, hs⟩ := a.st
  exact ⟨hd, ⟨gk, ck, hs.dev hk a.dev.new hF⟩, ho⟩
theorem PlSt.open_ (a : PlSt w0 w F GH s p d h nn n S) :
    Calls Tryz.prog 19 #[.pointer (some ⟨d, 0, none⟩)] w fun e w' => ∃ sa pa ha gka cka F' GA, e = .returned (.tuple #[.pointer (some ⟨sa, 0, none⟩), .nilIface]) ∧ SnM w0 w w' F F' GA sa pa d ha gka cka S.st n (openP S.D).1 S.K ∧ PlSt w0 w' F' GH s p d h nn n ⟨(openP S.D).1, S.st, S.l, S.K⟩ ∧ Beside w0 w' F' GH GA s p sa pa d ha gka cka S.st n S.K S.K := by
  obtain ⟨o1, o2, o3, o4, o5, o6, o7, o8⟩ := a.ok.opened
  refine (sopen_ok a.dev o1 o4 o7 o8 o5 o6 S.K o2.kb.symm a.ok.gk).mono ?_
  rintro e w1 ⟨sa, pa, ha, gka, cka, F', GA, he, hm⟩
  obtain ⟨gk, ck, hs⟩ := id a.st
  refine ⟨sa, pa, ha, gka, cka, F', GA, he, hm, a.opened hm.dev hm.kp hm.sub o3, hm.st, fun q hq => ?_⟩
  have hq : w.heap.size ≤ q := by
    rcases hq with hq | rfl | rfl | rfl
    · exact hm.ng q hq
    · exact hm.ns.1
    · exact hm.ns.2.1
    · exact hm.ns.2.2
  obtain ⟨l1, l2, l3⟩ := hs.lt
  exact ⟨fun hg => by have := hs.hp.flt q hg; omega, by omega, by omega⟩
end
/-- the store's dirty pages -/
theorem PlSt.dirty {w0 w : World} {F GH : Nat → Prop} {s p d h nn n : Nat} {S : Sto} (a : PlSt w0 w F GH s p d h nn n S) :
    Calls Tryz.prog 48 #[.pointer (some ⟨s, 0, none⟩)] w fun e w' => ∃ A c, e = .returned (.slice A (dL S.l S.K n).length c) ∧ RdX ncell 1 w' A (dL S.l S.K n) ∧ Below w.heap.size w w' := by
  obtain ⟨gk, ck, hs⟩ := a.st
  refine (sdirty_any hs a.ok.ll a.ok.lk a.ok.n2).mono ?_
  rintro e w1 ⟨v, he, ho, hb⟩
  obtain ⟨A, c, rfl, -, -⟩ := own_split ho
  exact ⟨A, c, he, own_rdX3 (f := ncell) (fun _ => rfl) rfl ho, hb⟩
theorem PlSt.heap_ {w0 w : World} {F GH : Nat → Prop} {s p d h nn n : Nat} {S : Sto} (a : PlSt w0 w F GH s p d h nn n S) :
    Calls Tryz.prog 16 #[.pointer (some ⟨s, 0, none⟩)] w fun e w' => e = .returned (.pointer (some ⟨h, 0, none⟩)) ∧ w = w' := by
  obtain ⟨gk, ck, hs⟩ := a.st
  exact stheap_any hs
theorem PlSt.bytes_ {w0 w : World} {F GH : Nat → Prop} {s p d h nn n : Nat} {S : Sto} (a : PlSt w0 w F GH s p d h nn n S) :
    Calls Tryz.prog 17 #[.pointer (some ⟨h, 0, none⟩)] w fun e w' => ∃ g cap, e = .returned (.slice (some ⟨g, 0, none⟩) S.l.length cap) ∧ w.heap.size ≤ g ∧ Row w' 5 g cap S.l ∧ Below w.heap.size w w' := by
  obtain ⟨gk, ck, hs⟩ := a.st
  exact hbytes_ok _ _ _ _ _ hs.hp
end Go.Proofs.YtoieifphklodoaaGreatDoor
/- StoreSafe: the plain law: what is kept of a store, wherever the power goes. No program in sight. -/
namespace Go.Proofs.YtoieifphklodoaaGreatDoor
open Go.RowKit Go.Maps Go.ChangeMaps

/-- only the pages that are there count -/
theorem Hold.ext {n st : Nat} {D : Dv} {l : Bytes} {pg pg' : Nat → Bytes} (h : Hold n D st l pg) (e : ∀ i, i < n → pg' i = pg i) : Hold n D st l pg' :=
  { n0 := h.n0, ln := h.ln, mrk := h.mrk, pos := h.pos, l23 := h.l23, inl := h.inl, ar := fun k hk => by rw [e _ (h.inl _ (List.getElem_mem hk))]; exact h.ar k hk, rest := fun i hi hn => by rw [e i hi]; exact h.rest i hi hn, oth := h.oth }
theorem Full.ext {n st : Nat} {D : Dv} {l : Bytes} {pg pg' : Nat → Bytes} (h : Full n D st l pg) (e : ∀ i, i < n → pg' i = pg i) : Full n D st l pg' :=
  ⟨h.hold.ext e, fun i hi => by rw [e i hi]; exact h.all i hi⟩
/-- who says that the power is gone is without it -/
def Lost (r : Dv × Nat) : Prop := r.2 = 9 → r.1.down = true
theorem wrD_lost (D : Dv) (i : Int) (b : Bytes) : Lost (wrD D i b) := by
  unfold Lost wrD
  split
  · intro h; cases h
  split
  · intro h; cases h
  split
  · rename_i h; intro _; exact h
  · intro h
    have h0 : D.left = 0 := by
      by_cases hl : D.left = 0
      · exact hl
      · rw [if_neg hl] at h; cases h
    show ((putD D i.toNat b).left == 0) = true
    have : (putD D i.toNat b).left = 0 := h0
    rw [this]; rfl
theorem flD_lost (D : Dv) : Lost (flD D) := by
  unfold Lost flD
  split
  · rename_i h; intro _; exact h
  split
  · rename_i hl
    intro _
    show (D.left == 0) = true
    rw [hl]; rfl
  · intro h; cases h
theorem runE_lost {X : Type} {f : Nat → X → Dv → Dv × Nat} (hf : ∀ k x D, Lost (f k x D)) : ∀ (l : List X) (k : Nat) (D : Dv), Lost (runE f k l D)
  | [], _, _ => fun h => by cases h
  | x :: l, k, D => by
    rw [runE_cons]
    split
    · exact runE_lost hf l (k + 1) _
    · exact hf k x D
theorem andThen_lost {a : Dv × Nat} {g : Dv → Dv × Nat} (ha : Lost a) (hg : ∀ D, Lost (g D)) : Lost (andThen a g) := by
  unfold andThen
  split
  · exact hg _
  · exact ha
theorem commit_lost (st n : Nat) (m : List (Int × Bytes)) (D : Dv) : (commitP st n m D).2 = 9 → (commitP st n m D).1.down = true := by
  have h9 : chkP n m ≠ 9 := by
    unfold chkP
    split
    · decide
    · have : ∀ (l : List (Int × Bytes)) (s : List Int), chkL n s l ≠ 9 := by
        intro l
        induction l with
        | nil => intro s; show (0 : Nat) ≠ 9; decide
        | cons x r ih =>
          intro s
          unfold chkL
          split
          · decide
          split
          · decide
          split
          · decide
          · exact ih _
      exact this _ _
  show Lost _
  unfold commitP
  split
  · exact fun h => absurd h h9
  split
  · rename_i h; exact fun _ => h
  split
  · intro h; cases h
  split
  · intro h; cases h
  · exact andThen_lost (andThen_lost (andThen_lost (andThen_lost (andThen_lost (runE_lost (fun _ _ _ => wrD_lost _ _ _) _ _ _) flD_lost) (fun _ => wrD_lost _ _ _)) flD_lost) (fun _ => runE_lost (fun _ _ _ => wrD_lost _ _ _) _ _ _)) flD_lost
theorem commit_dn {st n : Nat} {m : List (Int × Bytes)} {D : Dv} (hd : D.down = true) : (commitP st n m D).1 = D ∧ (commitP st n m D).2 ≠ 0 := by
  unfold commitP
  split
  · rename_i h; exact ⟨rfl, h⟩
  · first
    | exact ⟨rfl, show (9 : Nat) ≠ 0 by decide⟩
    | (rw [if_pos hd]; exact ⟨rfl, show (9 : Nat) ≠ 0 by decide⟩)
theorem crashS_left (D : Dv) (x : Int) (keep : List Bool) (torn : Int) (c : Nat) : ∀ k, crashS { D with left := x } keep torn c k = crashS D keep torn c k
  | 0 => rfl
  | k + 1 => by
    have ih := crashS_left D x keep torn c k
    unfold crashS
    rw [ih]
    rfl
theorem crashD_left (D : Dv) (x : Int) (keep : List Bool) (torn : Int) (c : Nat) : crashD { D with left := x } keep torn c = crashD D keep torn c := by
  unfold crashD
  rw [crashS_left]
/-- a store, and what may be there behind a crash: what it kept, or what was being committed -/
structure LvS (nn n : Nat) (s : Sto) (nx : Bytes) : Prop where
  wf : WfD s.D
  len : s.D.S.length = nn
  gl : Good s.l
  gk : Good s.K
  gx : Good nx
  ll : s.l.length = 32 * n
  lk : s.K.length = 32 * n
  lx : nx.length = 32 * n
  n1 : 1 ≤ n
  n2 : n ≤ 200
  on : s.D.down = false → nx = s.K ∧ ∃ l, Full n s.D s.st l (pgB s.K)
  off : s.D.down = true → ∀ keep torn c, c ≤ 32 → ∃ st l N, Hold n (crashD s.D keep torn c) st l (pgB N) ∧ st ≤ s.st + 1 ∧ (N = s.K ∨ N = nx)
theorem upd_dL {l K : Bytes} {n : Nat} (i : Nat) (hi : i < n) : updPg (pgB K) (cutL l (dL l K n)) i = pgB l i := by
  rw [updPg_cut]
  by_cases h : i ∈ dL l K n
  · rw [if_pos h]
  · rw [if_neg h]
    rw [dL_mem] at h
    have : difB l K i = false := by
      cases hd : difB l K i with
      | false => rfl
      | true => exact absurd ⟨hi, hd⟩ h
    unfold difB at this
    exact (bne_eq_false_iff_eq.1 this).symm
section
variable {nn n : Nat} {s : Sto} {nx : Bytes}
theorem LvS.hop (h : LvS nn n s nx) (o : OpX) : LvS nn n ⟨s.D, s.st, hopL s.l o, s.K⟩ nx :=
  { h with gl := (hop_step h.gl o).good, ll := (hop_step h.gl o).len.trans h.ll }
theorem LvS.abort (h : LvS nn n s nx) : LvS nn n ⟨s.D, s.st, s.K, s.K⟩ nx := { h with gl := h.gk, ll := h.lk }
/-- other steps till the power goes -/
theorem LvS.left (h : LvS nn n s nx) (x : Int) : LvS nn n ⟨{ s.D with left := x }, s.st, s.l, s.K⟩ nx :=
  { h with
    wf := ⟨h.wf.nd, h.wf.lt, h.wf.sl, h.wf.ml⟩
    on := fun hd => ⟨(h.on hd).1, by
      obtain ⟨l, hl⟩ := (h.on hd).2
      exact ⟨l, hl.left x s.D.down⟩⟩
    off := fun hd keep torn c hc => by
      show ∃ st l N, Hold n (crashD { s.D with left := x } keep torn c) st l (pgB N) ∧ st ≤ s.st + 1 ∧ (N = s.K ∨ N = nx)
      rw [crashD_left]
      exact h.off hd keep torn c hc }
/-- a commit -/
theorem LvS.commit (h : LvS nn n s nx) : 
    ((cmS n s.st s.D s.l s.K).2 = 0 → LvS nn n ⟨(cmS n s.st s.D s.l s.K).1, if (dL s.l s.K n).length ≠ 0 then s.st + 1 else s.st, s.l, s.l⟩ s.l) ∧
    ((cmS n s.st s.D s.l s.K).2 ≠ 0 → LvS nn n ⟨(cmS n s.st s.D s.l s.K).1, s.st, s.l, s.K⟩ (if s.D.down = false ∧ (cmS n s.st s.D s.l s.K).1.down = true then s.l else nx)) := by
  cases hd : s.D.down with
  | true =>
    obtain ⟨a, b⟩ := commit_dn (st := s.st) (n := n) (m := cutL s.l (dL s.l s.K n)) hd
    refine ⟨fun h0 => absurd h0 b, fun _ => ?_⟩
    rw [if_neg (fun x => by cases x.1)]
    unfold cmS
    rw [a]
    exact h
  | false =>
    obtain ⟨hx, l, hl⟩ := h.on hd
    have H := commit_safe (cutL s.l (dL s.l s.K n)) hl h.wf
    have H9 := commit_lost s.st n (cutL s.l (dL s.l s.K n)) s.D
    have hlen := H.len.trans h.len
    unfold cmS
    generalize hm : cutL s.l (dL s.l s.K n) = m at *
    have hml : m.length = (dL s.l s.K n).length := by rw [← hm, cutL_len]
    have hup : ∀ i, i < n → pgB s.l i = updPg (pgB s.K) m i := fun i hi => by rw [← hm]; exact (upd_dL i hi).symm
    generalize commitP s.st n m s.D = r at *
    refine ⟨fun h0 => ?_, fun h0 => ?_⟩
    · by_cases hm0 : m.length = 0
      · have hD := H.none_ h0 hm0
        have hnil : dL s.l s.K n = [] := List.eq_nil_of_length_eq_zero (by omega)
        have hlK : s.l = s.K := dL_none h.ll h.lk hnil
        rw [hnil, if_neg (by simp), hD]
        refine { h with gk := h.gl, gx := h.gl, lk := h.ll, lx := h.ll, on := fun _ => ⟨rfl, l, ?_⟩, off := fun hd' => ?_ }
        · show Full n s.D s.st l (pgB s.l)
          rw [hlK]; exact hl
        · rw [hd] at hd'; cases hd'
      · obtain ⟨a, b, c, d⟩ := H.done h0 hm0
        rw [if_pos (by omega)]
        refine { h with wf := H.wf, len := hlen, gk := h.gl, gx := h.gl, lk := h.ll, lx := h.ll, on := fun _ => ⟨rfl, _, a.ext hup⟩, off := fun hd' => ?_ }
        have hd2 : r.1.down = true := hd'
        rw [c] at hd2; cases hd2
    · by_cases h9 : r.2 = 9
      · have hdn := H9 h9
        rw [if_pos ⟨rfl, hdn⟩]
        refine { h with wf := H.wf, len := hlen, gx := h.gl, lx := h.ll, on := fun hd' => ?_, off := fun _ keep torn c hc => ?_ }
        · have hd2 : r.1.down = false := hd'
          rw [hdn] at hd2; cases hd2
        · rcases H.lost h9 keep torn c hc with h' | h'
          · exact ⟨_, _, _, h', by dsimp only; omega, .inl rfl⟩
          · exact ⟨_, _, _, h'.ext hup, Nat.le_refl _, .inr rfl⟩
      · have hD := H.bad h0 h9
        rw [hD, hd, if_neg (fun x => by cases x.2)]
        exact h
/-- behind a crash -/
theorem LvS.crash (h : LvS nn n s nx) (keep : List Bool) (torn : Int) (c : Nat) (hc : c ≤ 32) : ∃ st l N, Hold n (crashD s.D keep torn c) st l (pgB N) ∧ st ≤ s.st + 1 ∧ (N = s.K ∨ N = nx) := by
  cases hd : s.D.down with
  | true => exact h.off hd keep torn c hc
  | false =>
    obtain ⟨hx, l, hl⟩ := h.on hd
    exact ⟨s.st, l, s.K, hl.hold.crash h.wf keep torn c hc, by omega, .inl rfl⟩
end
/-- what is there behind a crash: the device, its stamp, and what its pages are -/
structure HdS (nn n : Nat) (D : Dv) (st : Nat) (N : Bytes) : Prop where
  hold : ∃ l, Hold n D st l (pgB N)
  wf : WfD D
  len : D.S.length = nn
  gn : Good N
  ln : N.length = 32 * n
section
variable {nn n st : Nat} {D : Dv} {N : Bytes}
theorem HdS.crash (h : HdS nn n D st N) (keep : List Bool) (torn : Int) (c : Nat) (hc : c ≤ 32) : HdS nn n (crashD D keep torn c) st N := by
  obtain ⟨l, hl⟩ := h.hold
  exact ⟨⟨l, hl.crash h.wf keep torn c hc⟩, crash_wf h.wf keep torn c hc, (crash_len _ _ _ _).trans h.len, h.gn, h.ln⟩
theorem HdS.left (h : HdS nn n D st N) (x : Int) : HdS nn n { D with left := x } st N := by
  obtain ⟨l, hl⟩ := h.hold
  exact ⟨⟨l, hl.left x D.down⟩, ⟨h.wf.nd, h.wf.lt, h.wf.sl, h.wf.ml⟩, h.len, h.gn, h.ln⟩
/-- opened, with so many steps left -/
theorem HdS.open_ (h : HdS nn n D st N) : HdS nn n (openP D).1 st N ∧ ((openP D).2 = 0 ∨ (openP D).2 = 9) ∧ ((openP D).2 = 0 → (openMk D).1 = st ∧ (openP D).1.down = false ∧ n = nP D ∧ n ≤ 200 ∧ 1 ≤ n ∧ (∃ l, Full n (openP D).1 st l (pgB N)) ∧ allB (openP D).1 n = N ∧ ∀ i, i < n → (readD (openP D).1 (48 + i)).length = 32) := by
  obtain ⟨l, hl⟩ := h.hold
  obtain ⟨a, b⟩ := open_safe hl h.wf
  have hle := hl.lens
  rcases a with ⟨a1, a2, a3, a4, a5⟩ | ⟨a1, a2, a3⟩
  · refine ⟨⟨⟨l, a2.hold⟩, a5, b.trans h.len, h.gn, h.ln⟩, .inl a1, fun _ => ?_⟩
    have hp : ∀ i, i < n → (readD (openP D).1 (48 + i)).length = 32 := fun i hi => by
      rw [(a2.all i hi).2]
      exact pgB_len h.ln hi
    refine ⟨by rw [hl.opened], a4, hl.n0, hle.1, hle.2.2, ⟨l, a2⟩, ?_, hp⟩
    exact eq_of_pages (allB_len n hp) h.ln fun k hk => by rw [allB_page n k hp hk, (a2.all k hk).2]
  · exact ⟨⟨⟨l, a2⟩, a3, b.trans h.len, h.gn, h.ln⟩, .inr a1, fun h0 => by rw [a1] at h0; cases h0⟩
/-- a store that is opened so -/
theorem HdS.lv (h : HdS nn n D st N) (h0 : (openP D).2 = 0) : LvS nn n ⟨(openP D).1, st, N, N⟩ N := by
  obtain ⟨a, b, c⟩ := h.open_
  obtain ⟨c1, c2, c3, c4, c5, c6, c7, c8⟩ := c h0
  exact ⟨a.wf, a.len, h.gn, h.gn, h.gn, h.ln, h.ln, h.ln, c5, c4, fun _ => ⟨rfl, c6⟩, fun hd => by rw [c2] at hd; cases hd⟩
end
end Go.Proofs.YtoieifphklodoaaGreatDoor
/- StoreSafe: what the law keeps. -/
namespace Go.Proofs.YtoieifphklodoaaGreatDoor
open Go.RowKit Go.Maps Go.ChangeMaps

/-- a row of the law's own, beside the device and a heap -/
structure RowO (w0 w : World) (F GH : Nat → Prop) (g c : Nat) (x : Bytes) : Prop where
  row : Row w 5 g c x
  nf : ¬ F g
  ng : ¬ GH g
  base : w0.heap.size ≤ g
section
variable {w0 w w' : World} {F F' GH GH' : Nat → Prop} {s p d h nn n g c g1 c1 g2 c2 gw cw : Nat} {S : Sto} {nx x : Bytes}
theorem RowO.below (a : RowO w0 w F GH g c x) (hb : Below w.heap.size w w') : RowO w0 w' F GH g c x := ⟨a.row.below hb a.row.lt, a.nf, a.ng, a.base⟩
theorem RowO.dev (a : RowO w0 w F GH g c x) (hk : Keep F w w') (hF : ∀ q, F' q → F q ∨ w.heap.size ≤ q) : RowO w0 w' F' GH g c x :=
  ⟨hk.row a.row a.nf, fun hf => by
    rcases hF _ hf with h' | h'
    · exact a.nf h'
    · have := a.row.lt; omega, a.ng, a.base⟩
theorem RowO.turn {gk ck st : Nat} {l K : Bytes} (a : RowO w0 w F GH g c x) (hs : StH w0 w F GH s p d h gk ck st n l K) (hk : Keep (fun q => (F q ∨ GH q) ∨ (q = s ∨ q = p)) w w') (hF : ∀ q, F' q → F q ∨ w.heap.size ≤ q) (hG : ∀ q, GH' q → GH q ∨ w.heap.size ≤ q) : RowO w0 w' F' GH' g c x := by
  have hne := hs.types a.row
  have hl := a.row.lt
  refine ⟨hk.row a.row (fun hf => ?_), fun hf => ?_, fun hf => ?_, a.base⟩
  · rcases hf with (hf | hf) | hf | hf
    · exact a.nf hf
    · exact a.ng hf
    · exact hne.1 hf
    · exact hne.2 hf
  · rcases hF _ hf with h' | h'
    · exact a.nf h'
    · omega
  · rcases hG _ hf with h' | h'
    · exact a.ng h'
    · omega
/-- another heap's blocks -/
theorem RowO.other (a : RowO w0 w F GH g c x) (hG : ¬ GH' g) : RowO w0 w F GH' g c x := ⟨a.row, a.nf, hG, a.base⟩
theorem RowO.cong (a : RowO w0 w F GH g c x) {y : Bytes} (e : x = y) : RowO w0 w F GH g c y := e ▸ a
end
section
variable {w0 w w' : World} {F F' GH GH' : Nat → Prop} {s p d h nn n st b g c g1 c1 g2 c2 gw cw : Nat} {S : Sto} {D D' : Dv} {K nx N x : Bytes}
end
theorem PlSt.fresh {w0 w w' : World} {F GH : Nat → Prop} {s p d h nn n g c : Nat} {S : Sto} {x : Bytes} (a : PlSt w0 w F GH s p d h nn n S) (hg : w.heap.size ≤ g) (hr : Row w' 5 g c x) : RowO w0 w' F GH g c x := by
  obtain ⟨gk, ck, hs⟩ := a.st
  exact ⟨hr, fun hf => by have := a.dev.flt g hf; omega, fun hf => by have := hs.hp.flt g hf; omega, Nat.le_trans a.dev.bel.size hg⟩
end Go.Proofs.YtoieifphklodoaaGreatDoor
/- A device whose power goes in so many steps, beside the same one whose power stays: how many steps a commit takes. No program in sight. -/
namespace Go.Proofs.YtoieifphklodoaaGreatDoor
open Go.RowKit

section
variable {x : Int} {D D' : Dv}
end
end Go.Proofs.YtoieifphklodoaaGreatDoor
/- A script, plainly: what it comes to, how many steps it takes, and that it comes to the same while so many steps are left. No program in sight. -/
namespace Go.Proofs.YtoieifphklodoaaGreatDoor
open Go.RowKit Go.Maps Go.ChangeMaps

/-- the steps of an op -/
def stepsO (n : Nat) (s : Sto) (o : OpX) : Nat := if (doS n s o).2 = 0 ∧ o.what = 6 ∧ 0 < (dL s.l s.K n).length then 2 * (dL s.l s.K n).length + 4 else 0
/-- the first k ops: the store, and the steps -/
def runK (n : Nat) (s : Sto) (L : List OpX) : Nat → Sto × Nat
  | 0 => (s, 0)
  | k + 1 => match L[k]? with
    | some o => ((doS n (runK n s L k).1 o).1, (runK n s L k).2 + stepsO n (runK n s L k).1 o)
    | none => runK n s L k
theorem runK_succ (n : Nat) (s : Sto) (L : List OpX) (k : Nat) (hk : k < L.length) : runK n s L (k + 1) = ((doS n (runK n s L k).1 L[k]).1, (runK n s L k).2 + stepsO n (runK n s L k).1 L[k]) := by
  rw [runK, List.getElem?_eq_getElem hk]
/-- the store, the power there, behind k ops -/
theorem StOk.run {nn n : Nat} {s : Sto} (h : StOk nn n s) (L : List OpX) (b : Nat) (hb : s.st ≤ b) : ∀ k, k ≤ L.length → b + k < 4294967295 → StOk nn n (runK n s L k).1 ∧ (runK n s L k).1.st ≤ b + k
  | 0, _, _ => ⟨h, hb⟩
  | k + 1, hk, hx => by
    obtain ⟨h1, h2⟩ := h.run L b hb k (by omega) (by omega)
    rw [runK_succ n s L k (by omega)]
    obtain ⟨h3, h4⟩ := h1.do (by omega) L[k]
    exact ⟨h3, by dsimp only; omega⟩
end Go.Proofs.YtoieifphklodoaaGreatDoor
/- A played script, plainly: the power there, with as many steps as the script has, with none; what the steps of scripts add up to. No program in sight. -/
namespace Go.Proofs.YtoieifphklodoaaGreatDoor
open Go.RowKit Go.Maps Go.ChangeMaps

/-- a new store, the power there; with so many steps left -/
def beg0 (nn n : Nat) : Sto := ⟨madeD nn, 2, List.replicate (32 * n) 0, List.replicate (32 * n) 0⟩
section
variable {nn n : Nat} {s : Sto} {nx : Bytes}
theorem StOk.full (h : StOk nn n s) : ∃ l, Full n s.D s.st l (pgB s.K) := by
  obtain ⟨pg, hsf⟩ := h.sf
  obtain ⟨l, hl⟩ := hsf.full
  have hle := hl.hold.lens
  have hp : ∀ i, i < n → (readD s.D (48 + i)).length = 32 := fun i hi => hsf.wf.rd (by omega)
  refine ⟨l, hl.ext fun i hi => ?_⟩
  rw [h.kb, allB_page n i hp hi]
  exact (hl.all i hi).2
theorem StOk.lv (h : StOk nn n s) : LvS nn n s s.K := by
  obtain ⟨l, hl⟩ := h.full
  obtain ⟨pg, hsf⟩ := h.sf
  exact ⟨hsf.wf, hsf.len, h.gl, h.gk, h.gk, h.ll, h.lk, h.lk, h.n1, h.n2, fun _ => ⟨rfl, l, hl⟩, fun hd => by rw [hsf.up.2] at hd; cases hd⟩
theorem StOk.hd (h : StOk nn n s) : HdS nn n s.D s.st s.K := by
  obtain ⟨l, hl⟩ := h.full
  obtain ⟨pg, hsf⟩ := h.sf
  exact ⟨⟨l, hl.hold⟩, hsf.wf, hsf.len, h.gk, h.lk⟩
theorem LvS.do_ (h : LvS nn n s nx) (o : OpX) : ∃ nx', LvS nn n (doS n s o).1 nx' := by
  obtain ⟨c1, c2⟩ := h.commit
  unfold doS
  by_cases h6 : o.what = 6
  · rw [if_pos h6]
    by_cases h0 : (cmS n s.st s.D s.l s.K).2 = 0
    · rw [if_pos h0]; exact ⟨_, c1 h0⟩
    · rw [if_neg h0]; exact ⟨_, c2 h0⟩
  · rw [if_neg h6]
    by_cases h7 : o.what = 7
    · rw [if_pos h7]; exact ⟨_, h.abort⟩
    · rw [if_neg h7]; exact ⟨_, h.hop o⟩
theorem doS_st (n : Nat) (s : Sto) (o : OpX) : (doS n s o).1.st ≤ s.st + 1 := by
  unfold doS
  split
  · split
    · dsimp only; split <;> omega
    · dsimp only; omega
  · split
    · dsimp only; omega
    · dsimp only; omega
theorem LvS.run (h : LvS nn n s nx) (L : List OpX) : ∀ k, ∃ nx', LvS nn n (runK n s L k).1 nx'
  | 0 => ⟨nx, h⟩
  | k + 1 => by
    obtain ⟨nx', h'⟩ := h.run L k
    unfold runK
    split
    · exact h'.do_ _
    · exact ⟨nx', h'⟩
end
section
variable {nn n st st' : Nat} {D D' : Dv} {N N' : Bytes}
/-- the same sectors, nothing pending -/
theorem HdS.as (h : HdS nn n D st N) (hs : D'.S = D.S) (ho : D'.O = []) : HdS nn n D' st N := by
  obtain ⟨l, hl⟩ := h.hold
  refine ⟨⟨l, hl.same (by rw [hs]) fun j v _ _ hv => ?_⟩, ⟨by rw [ho]; simp, fun i hi => by rw [ho] at hi; simp at hi, fun i hi => by rw [hs] at hi ⊢; exact h.wf.sl i hi, fun i hi => by rw [ho] at hi; simp at hi⟩, by rw [hs]; exact h.len, h.gn, h.ln⟩
  refine ⟨by rw [hs]; exact hv.1, ?_⟩
  unfold readD
  rw [ho, if_neg (by simp), hs]
  exact hv.1
end
/-- the new store -/
theorem beg0_ok (nn : Nat) (h1 : 57 ≤ nn) (h3 : nn ≤ 300) (n : Nat) (hn : n = nP (newD nn)) : StOk nn n (beg0 nn n) := (made_ok nn h1 h3 n hn).2.2.2.2
section
variable {S : List Bytes}
end
end Go.Proofs.YtoieifphklodoaaGreatDoor
/- A store that is played with, whether the power stays or goes. -/
namespace Go.Proofs.YtoieifphklodoaaGreatDoor
open Go.RowKit Go.Maps Go.ChangeMaps

/-- a store and its device, the power there or not -/
structure PlAny (w0 w : World) (F GH : Nat → Prop) (s p d h nn n : Nat) (S : Sto) : Prop where
  dev : DevB w0 w F d S.D
  st : ∃ gk ck, StH w0 w F GH s p d h gk ck S.st n S.l S.K
  lv : ∃ nx, LvS nn n S nx
section
variable {w0 w w' w1 : World} {F F' GH GH' : Nat → Prop} {s p d h nn n : Nat} {S : Sto}
theorem PlSt.any (a : PlSt w0 w F GH s p d h nn n S) : PlAny w0 w F GH s p d h nn n S := ⟨a.dev, a.st, _, a.ok.lv⟩
theorem PlAny.below (a : PlAny w0 w F GH s p d h nn n S) (hb : Below w.heap.size w w') : PlAny w0 w' F GH s p d h nn n S := by
  obtain ⟨gk, ck, hs⟩ := a.st
  exact ⟨a.dev.below hb, ⟨gk, ck, hs.below hb⟩, a.lv⟩
theorem PlAny.do_ (a : PlAny w0 w F GH s p d h nn n S) (hst : S.st < 4294967295) (o : OpX) (ho : OpOk w0 o) :
    Calls Tryz.prog 11 #[.pointer (some ⟨s, 0, none⟩), opV o] w fun e w' => e = .returned (errV (doS n S o).2) ∧ ∃ F' GH', PlAny w0 w' F' GH' s p d h nn n (doS n S o).1 := by
  obtain ⟨gk, ck, hs⟩ := a.st
  obtain ⟨nx, hlv⟩ := a.lv
  have hnx := hlv.do_ o
  obtain ⟨D, st, l, K⟩ := S
  refine (sdo_any o hs a.dev hlv.gl hlv.gk hlv.ll hlv.lk hlv.n2 (Nat.le_of_lt hst) (ho.below a.dev.bel)).mono ?_
  rintro e w1 ⟨he, F', GH', gk', ck', hm⟩
  exact ⟨he, F', GH', hm.dev, ⟨gk', ck', hm.st⟩, hnx⟩
/-- so many steps from now on -/
theorem PlSt.fail (a : PlSt w0 w F GH s p d h nn n S) (x : Int) (hd : DevB w0 w' F d { S.D with left := max (-1) x }) (hk : Keep F w w') : PlAny w0 w' F GH s p d h nn n ⟨{ S.D with left := max (-1) x }, S.st, S.l, S.K⟩ := by
  obtain ⟨gk, ck, hs⟩ := a.st
  exact ⟨hd, ⟨gk, ck, hs.dev hk a.dev.new (fun _ hq => .inl hq)⟩, _, a.ok.lv.left (max (-1) x)⟩
end
end Go.Proofs.YtoieifphklodoaaGreatDoor
/- Package play: begin, Steps. -/
namespace Go.Proofs.YtoieifphklodoaaGreatDoor
open Go.RowKit Go.Maps Go.ChangeMaps

/-- where a script's k-th op lies -/
theorem ops_at {w : World} {OA : Option Addr} {L : List OpX} (h : RdX ocells 6 w OA L) (k : Nat) (hk : k < L.length) : ∃ pb off, OA = some ⟨pb, off, none⟩ ∧ (w.cell? ⟨pb, off + k * 6, none⟩ = some (.int .i64 L[k].what) ∧ w.cell? ⟨pb, off + k * 6 + 1, none⟩ = some (.int .i64 L[k].handle) ∧ w.cell? ⟨pb, off + k * 6 + 2, none⟩ = some (.int .i64 L[k].at_) ∧ w.cell? ⟨pb, off + k * 6 + 3, none⟩ = some (.int .i64 L[k].len) ∧ w.cell? ⟨pb, off + k * 6 + 4, none⟩ = some (sv L[k].name) ∧ w.cell? ⟨pb, off + k * 6 + 5, none⟩ = some (.slice L[k].A L[k].body.length L[k].cap)) := by
  obtain ⟨pb, off, e, hc⟩ := h k hk
  have x0 := hc 0 _ rfl
  rw [Nat.add_zero] at x0
  exact ⟨pb, off, e, x0, hc 1 _ rfl, hc 2 _ rfl, hc 3 _ rfl, hc 4 _ rfl, hc 5 _ rfl⟩
/-- a new block is none of the store's -/
theorem PlSt.fresh_ {w0 w : World} {F GH : Nat → Prop} {s p d h nn n : Nat} {S : Sto} (a : PlSt w0 w F GH s p d h nn n S) : ¬ ((F w.heap.size ∨ GH w.heap.size) ∨ (w.heap.size = s ∨ w.heap.size = p)) := by
  obtain ⟨gk, ck, hs⟩ := a.st
  obtain ⟨l1, l2, l3⟩ := hs.lt
  rintro ((hf | hf) | hf | hf)
  · have := a.dev.flt _ hf; omega
  · have := hs.hp.flt _ hf; omega
  · omega
  · omega
theorem Six6.below {w w' : World} {b : Nat} {v0 v1 v2 v3 v4 v5 : Value} (h : Six6 w b v0 v1 v2 v3 v4 v5) (hb : Below w.heap.size w w') (hl : b < w.heap.size) : Six6 w' b v0 v1 v2 v3 v4 v5 := by
  unfold Six6 at *
  simp only [World.cell?] at *
  rw [hb.block b hl]
  exact h
end Go.Proofs.YtoieifphklodoaaGreatDoor
/- The reference's step of moving, plainly. No walk here. -/
namespace Go.Proofs.YtoieifphklodoaaGreatDoor
open Go.RowKit

/-- the first from a place on, so far -/
def upB (a : Nat) (b : Option Ent) (e : Ent) : Option Ent :=
  match b with
  | none => if a ≤ rAt e.2 then some e else none
  | some x => if a ≤ rAt e.2 ∧ rAt e.2 < rAt x.2 then some e else some x
def bestM (a : Nat) (E : List Ent) : Option Ent := E.foldl (upB a) none
theorem bestM_succ (a : Nat) (E : List Ent) (k : Nat) (hk : k < E.length) : bestM a (E.take (k + 1)) = upB a (bestM a (E.take k)) E[k] := by
  unfold bestM; rw [List.take_succ_eq_append_getElem hk, List.foldl_append]; rfl
theorem bestM_spec (a : Nat) (E : List Ent) : ∀ k, k ≤ E.length → (bestM a (E.take k) = none ∧ ∀ e ∈ E.take k, rAt e.2 < a) ∨ ∃ x, x ∈ E.take k ∧ bestM a (E.take k) = some x ∧ a ≤ rAt x.2 ∧ ∀ e ∈ E.take k, a ≤ rAt e.2 → rAt x.2 ≤ rAt e.2
  | 0, _ => Or.inl ⟨by simp [bestM], fun e he => by simp at he⟩
  | k + 1, hk => by
    have hk' : k < E.length := hk
    rw [bestM_succ a E k hk', List.take_succ_eq_append_getElem hk']
    rcases bestM_spec a E k (by omega) with ⟨h1, h2⟩ | ⟨x, h0, h1, h2, h3⟩
    · rw [h1]
      unfold upB
      by_cases hc : a ≤ rAt E[k].2
      · right
        refine ⟨E[k], List.mem_append_right _ (List.mem_singleton.2 rfl), by simp [hc], hc, fun e he hae => ?_⟩
        rcases List.mem_append.1 he with he | he
        · have := h2 e he; omega
        · simp only [List.mem_singleton] at he; subst he; exact Nat.le_refl _
      · left
        refine ⟨by simp [hc], fun e he => ?_⟩
        rcases List.mem_append.1 he with he | he
        · exact h2 e he
        · simp only [List.mem_singleton] at he; subst he; omega
    · rw [h1]
      unfold upB
      right
      by_cases hc : a ≤ rAt E[k].2 ∧ rAt E[k].2 < rAt x.2
      · refine ⟨E[k], List.mem_append_right _ (List.mem_singleton.2 rfl), by simp [hc], hc.1, fun e he hae => ?_⟩
        rcases List.mem_append.1 he with he | he
        · have := h3 e he hae; omega
        · simp only [List.mem_singleton] at he; subst he; exact Nat.le_refl _
      · refine ⟨x, List.mem_append_left _ h0, by simp [hc], h2, fun e he hae => ?_⟩
        rcases List.mem_append.1 he with he | he
        · exact h3 e he hae
        · simp only [List.mem_singleton] at he; subst he; omega
/-- where the scan stands: k of the sorted ones lie ahead of a -/
structure Stands (l : Bytes) (k a : Nat) : Prop where
  le : k ≤ (sortM l).length
  tidy : TidyM a ((sortM l).drop k) l.length
  ahead : ∀ e ∈ (sortM l).take k, rAt e.2 < a
  gap : gapM 288 (sortM l) = gapM a ((sortM l).drop k)
theorem stands_start {l : Bytes} (hg : Good l) : Stands l 0 288 := ⟨Nat.zero_le _, tidy_sortM hg, fun e he => by simp at he, rfl⟩
theorem Stands.none {l : Bytes} {a : Nat} (h : Stands l (sortM l).length a) : bestM a (entriesL l) = none ∧ gapM 288 (sortM l) = Option.none := by
  refine ⟨?_, by rw [h.gap, List.drop_length]; rfl⟩
  have := bestM_spec a (entriesL l) (entriesL l).length (Nat.le_refl _)
  rw [List.take_length] at this
  rcases this with ⟨h1, _⟩ | ⟨x, h0, h1, h2, h3⟩
  · exact h1
  · have := h.ahead x (by rw [List.take_length]; exact (sortM_perm l).mem_iff.2 h0); omega
theorem Stands.some {l : Bytes} {k a : Nat} (h : Stands l k a) (hk : k < (sortM l).length) : bestM a (entriesL l) = some (sortM l)[k] ∧ (sortM l)[k] ∈ entriesL l ∧ a ≤ rAt (sortM l)[k].2 ∧ (a < rAt (sortM l)[k].2 → gapM 288 (sortM l) = Option.some ((sortM l)[k], a)) ∧ (¬ a < rAt (sortM l)[k].2 → Stands l (k + 1) (a + rLen (sortM l)[k].2)) := by
  have hd := List.drop_eq_getElem_cons hk
  have htd := h.tidy
  rw [hd] at htd
  obtain ⟨t1, t2, t3⟩ := htd
  have hmem : (sortM l)[k] ∈ entriesL l := (sortM_perm l).mem_iff.1 (List.getElem_mem hk)
  refine ⟨?_, hmem, t1, fun hlt => ?_, fun hge => ?_⟩
  · have := bestM_spec a (entriesL l) (entriesL l).length (Nat.le_refl _)
    rw [List.take_length] at this
    rcases this with ⟨_, h2⟩ | ⟨x, h0, h1, h2, h3⟩
    · have := h2 _ hmem; omega
    · rw [h1]
      have hx := (sortM_perm l).mem_iff.2 h0
      rw [← List.take_append_drop k (sortM l)] at hx
      rcases List.mem_append.1 hx with hx | hx
      · have := h.ahead x hx; omega
      · rw [hd] at hx
        rcases List.mem_cons.1 hx with hx | hx
        · rw [hx]
        · have := tidyM_mem t3 x hx
          have := h3 _ hmem t1
          omega
  · rw [h.gap, hd]; unfold gapM; rw [if_pos hlt]
  · have he : rAt (sortM l)[k].2 = a := by omega
    rw [he] at t3
    refine ⟨hk, t3, fun e hx => ?_, ?_⟩
    · rw [List.take_succ_eq_append_getElem hk] at hx
      rcases List.mem_append.1 hx with hx | hx
      · have := h.ahead e hx; omega
      · simp only [List.mem_singleton] at hx; subst hx; omega
    · rw [h.gap, hd]; show gapM a (_ :: _) = _; rw [gapM, if_neg hge, he]
/-- the object's bytes laid one after the other -/
theorem splice_more (l x : Bytes) (a j : Nat) (hj : j < x.length) (h : a + x.length ≤ l.length) : (splice l a (x.take j)).set (a + j) x[j] = splice l a (x.take (j + 1)) := by
  have h1 : (x.take j).length = j := by simp; omega
  have h2 : (x.take (j + 1)).length = j + 1 := by simp; omega
  apply List.ext_getElem?
  intro p
  rw [List.getElem?_set, splice_len _ _ _ (by omega), splice_rd _ _ _ _ (by omega), splice_rd _ _ _ _ (by omega), h1, h2]
  by_cases b : a + j = p
  · subst b
    rw [if_pos rfl, if_pos (by omega), if_pos (by omega), Nat.add_sub_cancel_left, List.getElem?_take, if_pos (by omega), List.getElem?_eq_getElem hj]
  · rw [if_neg b]
    by_cases c : a ≤ p ∧ p < a + j
    · rw [if_pos c, if_pos (show a ≤ p ∧ p < a + (j + 1) from by omega), List.getElem?_take, List.getElem?_take, if_pos (by omega), if_pos (by omega)]
    · rw [if_neg c, if_neg (show ¬ (a ≤ p ∧ p < a + (j + 1)) from by omega)]
end Go.Proofs.YtoieifphklodoaaGreatDoor
/- The reference's Put and PutEntry: the row that they give is a new one. -/
namespace Go.Proofs.YtoieifphklodoaaGreatDoor
open Go.RowKit

/-- an answer: bytes in a new row, and a number -/
def RowAnsO (w w' : World) (e : Ending) (l : Bytes) (x : Value) : Prop := ∃ A' c', e = .returned (.tuple #[.slice A' l.length c', x]) ∧ (l ≠ [] → ∃ g, A' = some ⟨g, 0, none⟩ ∧ w.heap.size ≤ g ∧ Row w' 5 g c' l) ∧ Below w.heap.size w w'
set_option maxRecDepth 100000 in
set_option maxHeartbeats 1000000 in
theorem refPut_own (A : Option Addr) (n c : Nat) (l : Bytes) (at_ x size : Int) (w : World) (hn : l.length = n) (hl : n ≤ 140737488351232) (hr : Rd w A l) :
    Calls Tryz.prog 138 #[.slice A n c, .int .i64 at_, .int .i64 x, .int .i64 size] w fun e w' => RowAnsO w w' e (putF l at_ x size) (.int .i64 (putE n at_ x size)) := by
  obtain ⟨i0, hi0, hz0, hz1, hz2⟩ := info_parts byte_info
  generalize hF : putF l at_ x size = F
  generalize hE : putE n at_ x size = E
  unfold putF at hF
  rw [hn, hE] at hF
  unfold putE at hE
  by_cases hs : 1 ≤ size ∧ size ≤ 4
  · obtain ⟨h1, h4⟩ := hs
    obtain ⟨s, rfl⟩ := Int.eq_ofNat_of_zero_le (show 0 ≤ size by omega)
    have HM : Hidden (mostN (s : Int) = (2 ^ (8 * s) : Nat) - 1) := ⟨by simp [mostN]⟩
    have HE := Hidden.mk hE
    have HF := Hidden.mk hF
    clear hE hF
    go_enter Tryz.func138, Tryz.ntmps138
    go_wp2_with fail
    go_loop [10, 11] (fun mv iv => ∃ k : Nat, k ≤ s ∧ iv = .int .i64 k ∧ mv = .int .i64 ((2 ^ (8 * k) : Nat) : Int)) (fun _ iv => s - (intOf iv).toNat)
    case atStart => exact ⟨0, Nat.zero_le _, rfl, rfl⟩
    case round =>
      obtain ⟨k, hk, rfl, rfl⟩ := hrel
      by_cases hlt : k < s
      · have hp : 2 ^ (8 * k) ≤ 16777216 := by
          calc 2 ^ (8 * k) ≤ 2 ^ 24 := Nat.pow_le_pow_right (by omega) (by omega)
            _ = 16777216 := by decide
        have HD : Hidden (2 ^ (8 * k) * 256 = 2 ^ (8 * (k + 1))) := ⟨by rw [show 8 * (k + 1) = 8 * k + 8 from by omega, Nat.pow_add]⟩
        generalize 2 ^ (8 * k) = M at *
        have s1 : IntKind.i64.wrap ((M : Int) * 256) = (M : Int) * 256 := IntWalk.i64_in _ (by omega)
        go_wp2_with fail
        go_round
        case rel => exact ⟨k + 1, by omega, by go_num, int_i64 (by have := HD.out; omega)⟩
        case measure => simp [intOf]; omega
      · obtain rfl : k = s := by omega
        have hp : 2 ^ (8 * k) ≤ 4294967296 := by
          calc 2 ^ (8 * k) ≤ 2 ^ 32 := Nat.pow_le_pow_right (by omega) (by omega)
            _ = 4294967296 := by decide
        by_cases hx : 0 ≤ x ∧ x ≤ mostN (k : Int)
        · obtain ⟨X, rfl⟩ := Int.eq_ofNat_of_zero_le hx.1
          have hxm := hx.2
          rw [HM.out] at hxm
          by_cases ha : at_ < 0 ∨ (n : Int) - k < at_
          · have he : E = 3 := by rw [← HE.out, if_pos ⟨h1, h4, hx.1, hx.2⟩, if_pos ha]
            have hf : F = [] := by rw [← HF.out, if_neg (by omega)]
            subst he hf
            clear HE HF hx HM
            generalize 2 ^ (8 * k) = M at *
            by_cases h0 : at_ < 0
            · clear ha
              go_wp2_with fail
              go_ret2
              exact ⟨none, 0, rfl, fun h => absurd rfl h, Below.refl _ _⟩
            · by_cases hb : (n : Int) < at_
              · clear ha
                go_wp2_with fail
                go_ret2
                exact ⟨none, 0, rfl, fun h => absurd rfl h, Below.refl _ _⟩
              · have hc3 : (n : Int) - at_ < k := by omega
                have s1 : IntKind.i64.wrap ((n : Int) - at_) = (n : Int) - at_ := IntWalk.i64_in _ (by omega)
                clear ha
                go_wp2_with fail
                go_ret2
                exact ⟨none, 0, rfl, fun h => absurd rfl h, Below.refl _ _⟩
          · have he : E = 0 := by rw [← HE.out, if_pos ⟨h1, h4, hx.1, hx.2⟩, if_neg ha]
            have hf : F = putB l at_ X k := by rw [← HF.out, if_pos he]
            obtain ⟨a, rfl⟩ := Int.eq_ofNat_of_zero_le (show 0 ≤ at_ by omega)
            have hfa : F = splice l a (numB X k) := by rw [hf]; simp [putB]
            have HFA := Hidden.mk hfa
            subst he
            clear HE HF hx HM hf hfa
            have hfit : a + k ≤ n := by omega
            have hk1 : 1 ≤ k := by omega
            have s1 : IntKind.i64.wrap ((n : Int) - a) = (n : Int) - a := IntWalk.i64_in _ (by omega)
            have t1 : decide (n < a) = false := by simp; omega
            have t2 : decide ((n : Int) - a < k) = false := by simp; omega
            obtain ⟨p, off, rfl, _⟩ := hr.lt (by omega)
            generalize 2 ^ (8 * k) = M at *
            have t3 : decide (M ≤ X) = false := by simp; omega
            have t0 : decide ((a : Int) < 0) = false := by simp
            have t5 : decide ((X : Int) < 0) = false := by simp
            clear ha
            go_wp2_with (at_builtin; refine wpList_append_own _ rfl (.tmp 50) (.tmp 51) _ rfl w.heap.size 5 i0 _ 1 1 Tryz.underlying34 hi0 hz0 hz1 hz2 rfl (by decide) (.slice none 0 0) 0 [] rfl (World.ownsRow_nil _ _ _ _) ⟨p, off, none⟩ n c (l.map bv) rfl (by simp; omega) hr.cells one_bv (by simp only [maxLen]; omega) (by omega) (Nat.le_refl _) ?_; intro v1 w1 hown1 hg1 hnn1)
            have hb1 : Below w.heap.size w w1 := (Below.refl _ _).grown hg1 (Nat.le_refl _) (fun k hk => by simp [Value.ownBlock] at hk)
            have hO : Own w1 w.heap.size 5 v1 l := by unfold Own; simpa [hn] using hown1
            have hne : v1 ≠ .slice none 0 0 := fun h => by
              subst h
              rcases hO.2 with ⟨_, h0⟩ | ⟨g, cap, cur, h, _⟩
              · omega
              · cases h
            obtain ⟨g, cap, hv, hbg, hrow⟩ := Row.of_own hO hne
            rw [hn] at hv
            subst hv
            clear hO hne hown1 hg1 hnn1
            go_loopw [2, 13] (fun nv iv wr => ∃ j : Nat, j ≤ k ∧ iv = .int .i64 j ∧ nv = .int .i64 ((X / 2 ^ (8 * j) : Nat) : Int) ∧ Below w.heap.size w wr ∧ Row wr 5 g cap (splice l a (numB X j))) (fun _ iv _ => k - (intOf iv).toNat)
            case atStart => exact ⟨0, Nat.zero_le _, rfl, by simp, hb1, by simpa [numB, splice] using hrow⟩
            case round =>
              obtain ⟨j, hj, rfl, rfl, hbel, hrow2⟩ := hrel
              have hsl : (splice l a (numB X j)).length = n := by rw [splice_len _ _ _ (by rw [numB_length]; omega), hn]
              by_cases hlt2 : j < k
              · have hd := div_step X j
                have HD2 := Hidden.mk hd
                have hcell := hrow2.cell (a + j) (by omega)
                have hfr := hrow2.frozen (a + j)
                have hst := hrow2.store (a + j) (by omega) (UInt8.ofNat (X / 2 ^ (8 * j) % 256))
                rw [splice_put l a X j (by omega)] at hst
                have hbn := hbel.setCell (p := ⟨g, a + j, none⟩) hbg (bv (UInt8.ofNat (X / 2 ^ (8 * j) % 256)))
                have hbv : bv (UInt8.ofNat (X / 2 ^ (8 * j) % 256)) = .int .u8 ((X / 2 ^ (8 * j) : Nat) % 256 : Int) := by simp only [bv, ofNat_mod]; rfl
                have hmle : X / 2 ^ (8 * j) ≤ X := Nat.div_le_self _ _
                have hcap := hrow2.le.1
                rw [hbv] at hst hbn
                generalize X / 2 ^ (8 * j) = m at *
                have q1 : IntKind.i64.wrap ((a : Int) + j) = (a : Int) + j := IntWalk.i64_in _ (by omega)
                have k0 : (0 : Int) ≤ (a : Int) + j := by omega
                have k1 : (a : Int) + j < n := by omega
                generalize (splice l a (numB X j))[a + j] = u at hcell
                clear hd hbv hrow2 hsl
                go_wp2_with fail
                go_roundw
                case rel => exact ⟨j + 1, by omega, by go_num, int_i64 (by have := HD2.out; omega), hbn, hst⟩
                case measure => simp [intOf]; omega
              · obtain rfl : j = k := by omega
                go_wp2_with fail
                go_ret2
                refine ⟨some ⟨g, 0, none⟩, cap, ?_, fun _ => ⟨g, rfl, hbg, by rw [HFA.out]; exact hrow2⟩, hbel⟩
                rw [show F.length = n from by rw [HFA.out]; exact hsl]
                rfl
        · have he : E = 1 := by rw [← HE.out, if_neg (fun h => hx ⟨h.2.2.1, h.2.2.2⟩)]
          have hf : F = [] := by rw [← HF.out, if_neg (by omega)]
          rw [HM.out] at hx
          subst he hf
          clear HE HF HM
          generalize 2 ^ (8 * k) = M at *
          by_cases h0 : x < 0
          · clear hx
            go_wp2_with fail
            go_ret2
            exact ⟨none, 0, rfl, fun h => absurd rfl h, Below.refl _ _⟩
          · have t3 : (M : Int) ≤ x := by omega
            clear hx
            go_wp2_with fail
            go_ret2
            exact ⟨none, 0, rfl, fun h => absurd rfl h, Below.refl _ _⟩
  · have he : E = 1 := by rw [← hE, if_neg (fun h => hs ⟨h.1, h.2.1⟩)]
    have hf : F = [] := by rw [← hF, if_neg (by omega)]
    subst he hf
    clear hE hF
    by_cases h1 : size < 1
    · clear hs
      go_enter Tryz.func138, Tryz.ntmps138
      go_wp2_with fail
      go_ret2
      exact ⟨none, 0, rfl, fun h => absurd rfl h, Below.refl _ _⟩
    · have h4 : 4 < size := by omega
      clear hs
      go_enter Tryz.func138, Tryz.ntmps138
      go_wp2_with fail
      go_ret2
      exact ⟨none, 0, rfl, fun h => absurd rfl h, Below.refl _ _⟩
theorem refPut_fitO (A : Option Addr) (n c : Nat) (l : Bytes) (a x s : Nat) (w : World) (hn : l.length = n) (hl : n ≤ 140737488351232) (hr : Rd w A l) (h1 : 1 ≤ s) (h4 : s ≤ 4) (hx : (x : Int) ≤ mostN (s : Int)) (ha : a + s ≤ n) :
    Calls Tryz.prog 138 #[.slice A n c, .int .i64 (a : Int), .int .i64 (x : Int), .int .i64 (s : Int)] w fun e w' => ∃ g c', e = .returned (.tuple #[.slice (some ⟨g, 0, none⟩) n c', .int .i64 0]) ∧ w.heap.size ≤ g ∧ Row w' 5 g c' (splice l a (numB x s)) ∧ Below w.heap.size w w' := by
  have hE : putE n (a : Int) (x : Int) (s : Int) = 0 := by
    unfold putE; rw [if_pos ⟨by omega, by omega, by omega, hx⟩, if_neg (by omega)]
  have hF : putF l (a : Int) (x : Int) (s : Int) = splice l a (numB x s) := by
    unfold putF; rw [hn, if_pos hE]; rfl
  have hL : (splice l a (numB x s)).length = n := by rw [splice_len _ _ _ (by rw [numB_length]; omega)]; exact hn
  refine (refPut_own A n c l a x s w hn hl hr).mono ?_
  rintro e w' ⟨A', c', rfl, hrd, hb⟩
  rw [hF] at hrd
  obtain ⟨g, rfl, hg, hrow⟩ := hrd (fun h => by have h2 : (splice l a (numB x s)).length = 0 := (by rw [h]; rfl); omega)
  rw [hF, hE, hL]
  exact ⟨g, c', rfl, hg, hrow, hb⟩
def PutAtO (n : Nat) (o : Nat) (x s : Int) (l l' : Bytes) : Prop := ∀ (A : Option Addr) (c : Nat) (W : World), Rd W A l → Calls Tryz.prog 138 #[.slice A n c, .int .i64 (o : Int), .int .i64 x, .int .i64 s] W fun e w' => ∃ g c', e = .returned (.tuple #[.slice (some ⟨g, 0, none⟩) n c', .int .i64 0]) ∧ W.heap.size ≤ g ∧ Row w' 5 g c' l' ∧ Below W.heap.size W w'
theorem putAtO (n o x s : Nat) (l : Bytes) (hn : l.length = n) (hl : n ≤ 140737488351232) (h1 : 1 ≤ s) (h4 : s ≤ 4) (hx : (x : Int) ≤ mostN (s : Int)) (ha : o + s ≤ n) : PutAtO n o (x : Int) (s : Int) l (splice l o (numB x s)) :=
  fun A c W hW => refPut_fitO A n c l o x s W hn hl hW h1 h4 hx ha
set_option maxRecDepth 100000 in
theorem refPutEntry_walkO (A : Option Addr) (n c k o o1 o3 t tt b m : Nat) (l l1 l2 l3 : Bytes) (w : World) (hrd : Rd w A l) (hh : handleB ((k : Int) + 1) = true)
    (s0 : IntKind.i64.wrap (k : Int) = (k : Int)) (s1 : IntKind.i64.wrap (5 * (k : Int)) = (o : Int)) (s2 : IntKind.i64.wrap ((t : Int) + 1) = (tt : Int))
    (s3 : IntKind.i64.wrap ((o : Int) + 1) = (o1 : Int)) (s4 : IntKind.i64.wrap ((o : Int) + 3) = (o3 : Int)) (ht : t ≤ 15) (hm1 : 1 ≤ m) (hm : m ≤ 1000) (hb : 288 ≤ b) (hbn : b + m ≤ n) (hn : n ≤ 6400)
    (c1 : PutAtO n o tt 1 l l1) (c2 : PutAtO n o1 b 2 l1 l2) (c3 : PutAtO n o3 m 2 l2 l3) :
    Calls Tryz.prog 83 #[.slice A n c, entV ((k : Int) + 1) b m t] w fun e w' => ∃ g c', e = .returned (.tuple #[.slice (some ⟨g, 0, none⟩) n c', .int .i64 0]) ∧ w.heap.size ≤ g ∧ Row w' 5 g c' l3 ∧ Below w.heap.size w w' := by
  have hB : Below w.heap.size w (w.alloc (.cells #[.int .i64 ((k : Int) + 1), .int .i64 b, .int .i64 m, .int .i64 t] 89)) := (Below.refl _ _).alloc (Nat.le_refl _) _
  have hF0 := fourAt_one w ((k : Int) + 1) b m t 89
  have s5 : IntKind.i64.wrap ((n : Int) - b) = (n : Int) - b := IntWalk.i64_in _ (by omega)
  have t1 : decide ((t : Int) < 0) = false := by simp
  have t2 : decide (15 < (t : Int)) = false := by simp; omega
  have t2' : decide (15 < t) = false := by simp; omega
  have t3 : decide ((m : Int) < 1) = false := by simp; omega
  have t3' : decide (m < 1) = false := by simp; omega
  have t4 : decide (1000 < (m : Int)) = false := by simp; omega
  have t4' : decide (1000 < m) = false := by simp; omega
  have t5 : decide ((b : Int) < 288) = false := by simp; omega
  have t5' : decide (b < 288) = false := by simp; omega
  have t6 : decide ((n : Int) < b) = false := by simp; omega
  have t6' : decide (n < b) = false := by simp; omega
  have t7 : decide ((n : Int) - b < m) = false := by simp; omega
  have hr0 := hrd.below hB
  have C1 := Hidden.mk c1
  have C2 := Hidden.mk c2
  have C3 := Hidden.mk c3
  clear ht hm1 hm hb hbn hn c1 c2 c3 hrd
  unfold entV
  go_enter Tryz.func83, Tryz.ntmps83
  go_wp2_with fail
  refine (ref_handle_any _ _).mono ?_
  rintro e w1 ⟨rfl, rfl⟩
  rw [hh]
  clear hh
  go_wp2_with fail
  generalize w.alloc (.cells #[.int .i64 ((k : Int) + 1), .int .i64 (b : Int), .int .i64 (m : Int), .int .i64 (t : Int)] 89) = w0 at *
  refine (C1.out A c _ hr0).mono ?_
  rintro e w1 ⟨g1, c1, rfl, hg1, hr1, hb1⟩
  have hF1 := hF0.below hb1
  have hB1 := hB.trans (hb1.mono hB.size)
  have HF1 := Hidden.mk hF1
  obtain ⟨x0, x1, x2, x3⟩ := hF1
  clear hb1 hF0
  go_wp2_with fail
  refine (C2.out _ c1 _ hr1.rd).mono ?_
  rintro e w2 ⟨g2, c2, rfl, hg2, hr2, hb2⟩
  have hF2 := HF1.out.below hb2
  have hB2 := hB1.trans (hb2.mono hB1.size)
  obtain ⟨y0, y1, y2, y3⟩ := hF2
  clear hb2 x0 x1 x2 x3
  go_wp2_with fail
  refine (C3.out _ c2 _ hr2.rd).mono ?_
  rintro e w3 ⟨g3, c3, rfl, hg3, hr3, hb3⟩
  have hB3 := hB2.trans (hb3.mono hB2.size)
  have HG3 : Hidden (w.heap.size ≤ g3) := ⟨Nat.le_trans hB2.size hg3⟩
  clear hg1 hg2 hg3 hb3 y0 y1 y2 y3
  go_wp2_with fail
  go_ret2
  exact ⟨g3, c3, rfl, HG3.out, hr3, hB3⟩
theorem refPutEntry_own (A : Option Addr) (n c : Nat) (l : Bytes) (h a len tag : Int) (w : World) (hln : l.length = n) (hr : rightB n = true) (hrd : Rd w A l) (hh : handleB h = true) (ht : tagB tag = true) (hl : lenB len = true) (hw : withinB n a len = true) :
    Calls Tryz.prog 83 #[.slice A n c, entV h a len tag] w fun e w' => ∃ g c', e = .returned (.tuple #[.slice (some ⟨g, 0, none⟩) n c', .int .i64 0]) ∧ w.heap.size ≤ g ∧ Row w' 5 g c' (putEnt l h a len tag) ∧ Below w.heap.size w w' := by
  have htb := tagB_true.1 ht
  have hlb := lenB_true.1 hl
  have hhb := handleB_true.1 hh
  have hwb := withinB_true.1 hw
  have hnb := rightB_true.1 hr
  obtain ⟨k, rfl⟩ : ∃ k : Nat, h = (k : Int) + 1 := ⟨(h - 1).toNat, by omega⟩
  obtain ⟨t, rfl⟩ := Int.eq_ofNat_of_zero_le (show 0 ≤ tag by omega)
  obtain ⟨b, rfl⟩ := Int.eq_ofNat_of_zero_le (show 0 ≤ a by omega)
  obtain ⟨m, rfl⟩ := Int.eq_ofNat_of_zero_le (show 0 ≤ len by omega)
  rw [putEnt_three l k t b m (by omega) (by omega)]
  have hl1 : (splice l (5 * k) (numB (t + 1) 1)).length = n := by rw [splice_len _ _ _ (by rw [numB_length]; omega)]; exact hln
  have hl2 : (splice (splice l (5 * k) (numB (t + 1) 1)) (5 * k + 1) (numB b 2)).length = n := by rw [splice_len _ _ _ (by rw [numB_length, hl1]; omega)]; exact hl1
  have hm1 : mostN ((1 : Nat) : Int) = 255 := rfl
  have hm2 : mostN ((2 : Nat) : Int) = 65535 := rfl
  exact refPutEntry_walkO A n c k (5 * k) (5 * k + 1) (5 * k + 3) t (t + 1) b m l _ _ _ w hrd hh (IntWalk.i64_in _ (by omega)) (by rw [IntWalk.i64_in _ (by omega)]; omega) (by rw [IntWalk.i64_in _ (by omega)]; omega) (by rw [IntWalk.i64_in _ (by omega)]; omega) (by rw [IntWalk.i64_in _ (by omega)]; omega)
    (by omega) (by omega) (by omega) (by omega) (by omega) (by omega)
    (putAtO n (5 * k) (t + 1) 1 l hln (by omega) (by omega) (by omega) (by rw [hm1]; omega) (by omega))
    (putAtO n (5 * k + 1) b 2 _ hl1 (by omega) (by omega) (by omega) (by rw [hm2]; omega) (by omega))
    (putAtO n (5 * k + 3) m 2 _ hl2 (by omega) (by omega) (by omega) (by rw [hm2]; omega) (by omega))
end Go.Proofs.YtoieifphklodoaaGreatDoor
/- The reference on heaps: Taken, Step. -/
namespace Go.Proofs.YtoieifphklodoaaGreatDoor
open Go.RowKit

set_option maxRecDepth 100000 in
theorem rtaken_ok (A : Option Addr) (n c : Nat) (l : Bytes) (w : World) (hn : l.length = n) (hr : rightB n = true) (hnc : n ≤ c) (hrd : Rd w A l) :
    Calls Tryz.prog 82 #[.slice A n c] w fun e w' => ∃ A' c', e = .returned (.slice A' (takenL l).length c') ∧ (takenL l).length ≤ c' ∧ RdX tcells 2 w' A' (takenL l) ∧ Below w.heap.size w w' := by
  obtain ⟨i0, hi0, hz0, hz1, hz2⟩ := info_parts extent_info
  have HI := Hidden.mk (And.intro hi0 (And.intro hz0 (And.intro hz1 hz2)))
  have HC := Hidden.mk (refEntries_ok A n c l w hn hr hnc hrd)
  have HT : Hidden (takenL l = (entriesL l).map takeX) := ⟨rfl⟩
  have hle : (entriesL l).length ≤ 40 := entsL_len _ _ 40
  generalize takenL l = TK at *
  generalize entriesL l = E at *
  clear hi0 hz0 hz1 hz2 hn hr hnc hrd
  go_enter Tryz.func82, Tryz.ntmps82
  go_wp2_with fail
  refine HC.out.mono ?_
  rintro e w1 ⟨v, rfl, hown, hb1⟩
  obtain ⟨A1, c1, rfl, hc1, -⟩ := own_split hown
  have HR := Hidden.mk (own_rdX3 (f := ecells) (fun _ => rfl) rfl hown)
  have HB := Hidden.mk hb1
  generalize hm : E.length = m at *
  have HM := Hidden.mk hm
  clear hown hb1 HC hm
  go_wp2_with fail
  go_loopg [3, 5] m (fun q v i wr => ∃ k : Nat, k ≤ m ∧ q = m - k ∧ i = .int .i64 (k : Int) ∧ Hidden (Below w1.heap.size w1 wr ∧ wr.ownsRow w1.heap.size 87 2 v k (((E.take k).map takeX).flatMap tcells)))
  case atStart => exact ⟨0, by omega, rfl, rfl, ⟨Below.refl _ _, World.ownsRow_nil _ _ _ _⟩⟩
  case round =>
    obtain ⟨k, hk, rfl, rfl, hst⟩ := hrel
    by_cases hlt : k < m
    · have hkE : k < E.length := by have := HM.out; omega
      obtain ⟨p, off, rfl, hcx⟩ := HR.out k hkE
      have x1 := hcx 1 _ rfl
      have x2 := hcx 2 _ rfl
      have HS : Hidden ((E.take (k + 1)).map takeX = (E.take k).map takeX ++ [takeX E[k]]) := ⟨by rw [List.take_succ_eq_append_getElem hkE, List.map_append]; rfl⟩
      have b1 := rAt_le E[k].2
      have b2 := rLen_le E[k].2
      have HX : Hidden (takeX E[k] = ((rAt E[k].2 : Int) - 288, (rLen E[k].2 : Int))) := ⟨rfl⟩
      generalize takeX E[k] = tx at *
      generalize rAt E[k].2 = e1 at *
      generalize rLen E[k].2 = e2 at *
      have s1 : IntKind.i64.wrap ((e1 : Int) - 288) = (e1 : Int) - 288 := IntWalk.i64_in _ (by omega)
      have s3 : IntKind.i64.wrap ((k : Int) + 1) = (k : Int) + 1 := IntWalk.i64_in _ (by omega)
      have k0 : (0 : Int) ≤ k := by omega
      have k1 : (k : Int) < m := by omega
      have HN : Hidden (Below w1.heap.size w1 wr.drew ∧ wr.drew.ownsRow w1.heap.size 87 2 u3 k (((E.take k).map takeX).flatMap tcells)) := ⟨hst.out.1.drew, own_below hst.out.2 (Below.refl _ _).drew⟩
      have KX : Hidden (∀ W, Below w1.heap.size w1 W → W.cell? ⟨p, off + k * 4 + 1, none⟩ = some (.int .i64 e1) ∧ W.cell? ⟨p, off + k * 4 + 2, none⟩ = some (.int .i64 e2)) := ⟨fun W hW => ⟨(hW.cell (p := ⟨p, off + k * 4 + 1, none⟩) (block_lt_of_cell x1)).trans x1, (hW.cell (p := ⟨p, off + k * 4 + 2, none⟩) (block_lt_of_cell x2)).trans x2⟩⟩
      obtain ⟨y1, y2⟩ := KX.out wr hst.out.1
      obtain ⟨hi0, hz0, hz1, hz2⟩ := HI.out
      have HZ : Hidden (w1.heap.size ≤ wr.heap.size) := ⟨hst.out.1.size⟩
      clear hcx hst x1 x2
      go_upto_region 6 with (fail)
      go_region_held3 (fun W => W.cell? ⟨p, off + k * 4 + 1, none⟩ = some (.int .i64 e1) ∧ W.cell? ⟨p, off + k * 4 + 2, none⟩ = some (.int .i64 e2)) (first | exact ⟨y1, y2⟩ | exact KX.out _ HN.out.1 | exact KX.out _ (HN.out.1.alloc HN.out.1.size _) | exact hk8) ((refine step_append_lies _ (by rfl) _ _ _ (by rfl) w1.heap.size 87 i0 _ 2 16 Tryz.underlying138 hi0 hz0 hz1 hz2 rfl (by omega) u3 k _ (by rfl) (own_below HN.out.2 ((Below.refl _ _).alloc (Nat.le_refl _) _)) ⟨wr.heap.size, 0, none⟩ 1 1 [.int .i64 ((e1 : Int) - 288), .int .i64 e2] (by rfl) (by rfl) (World.news_of_block (cs := #[.int .i64 ((e1 : Int) - 288), .int .i64 e2]) (t := 87) (fr := (0, 0)) (heap_alloc_new wr.drew _)) (by simp [Value.oneCell']) (by omega) (by simp only [maxLen]; omega) (by omega) (by have hz_ := HZ.out; simp; omega) (wr.heap.size + 1) (by simp) ?_; intro g8 cap8 w8 hown8 hg8 hat8 hlt8; have hgW := grown_trans' ((Below.refl wr.drew.heap.size wr.drew).alloc (Nat.le_refl _) _) hg8; have hB8 : Below w1.heap.size w1 w8 := HN.out.1.grown hgW HN.out.1.size (fun q hq => (HN.out.2.lt q hq).1); have hk8 := KX.out w8 hB8))
      have HF : Hidden (Below w1.heap.size w1 w8 ∧ w8.ownsRow w1.heap.size 87 2 (.slice (some ⟨g8, 0, none⟩) (k + 1) cap8) (k + 1) (((E.take (k + 1)).map takeX).flatMap tcells)) := ⟨hB8, by rw [HS.out, HX.out]; simpa [tcells] using hown8⟩
      go_wp2_with fail
      clear hk8 hgW hB8 hown8 hg8 hat8 hlt8 hi0 hz0 hz1 hz2
      go_roundg (m - (k + 1))
      case measure => omega
      case rel => exact ⟨k + 1, by omega, rfl, by go_num, HF⟩
    · obtain rfl : m = k := by omega
      have hT := hst.out.2
      rw [List.take_of_length_le (by have := HM.out; omega), ← HT.out] at hT
      have HL : Hidden (TK.length = m) := ⟨by rw [HT.out, List.length_map]; exact HM.out⟩
      obtain ⟨A3, c3, rfl, hc3, -⟩ := own_split hT
      have HF : Hidden (RdX tcells 2 wr A3 TK ∧ Below w.heap.size w wr) := ⟨own_rdX3 tcells_len HL.out hT, HB.out.trans (hst.out.1.mono HB.out.size)⟩
      clear hT hst
      go_wp2_with fail
      go_ret
      exact ⟨A3, c3, by rw [HL.out]; rfl, by rw [HL.out]; exact hc3, HF.out.1, HF.out.2⟩
end Go.Proofs.YtoieifphklodoaaGreatDoor
/- The reference's extents, plainly: its holes are the program's. No walk here. -/
namespace Go.Proofs.YtoieifphklodoaaGreatDoor
open Go.RowKit

/-- a place that is free, behind runs -/
def addR (out : List Ext) (i : Int) : List Ext := match out.getLast? with
  | some h => if h.1 + h.2 = i then out.dropLast ++ [(h.1, h.2 + 1)] else out ++ [(i, 1)]
  | none => out ++ [(i, 1)]
def goR (T : Nat → Bool) (acc : List Ext) (i : Nat) : Nat → List Ext
  | 0 => acc
  | m + 1 => if T (i + m) = true then goR T acc i m else addR (goR T acc i m) ((i + m : Nat) : Int)
theorem goR_add (T : Nat → Bool) (acc : List Ext) (i a : Nat) : ∀ b, goR T acc i (a + b) = goR T (goR T acc i a) (i + a) b
  | 0 => rfl
  | b + 1 => by
    rw [← Nat.add_assoc, goR, goR, goR_add T acc i a b, Nat.add_assoc]
theorem goR_taken (T : Nat → Bool) (acc : List Ext) (i : Nat) : ∀ m, (∀ j, j < m → T (i + j) = true) → goR T acc i m = acc
  | 0, _ => rfl
  | m + 1, h => by rw [goR, if_pos (h m (by omega)), goR_taken T acc i m (fun j hj => h j (by omega))]
/-- the last run ends ahead of a -/
def EndsLt (acc : List Ext) (a : Int) : Prop := ∀ h, acc.getLast? = some h → h.1 + h.2 < a
theorem goR_free (T : Nat → Bool) (acc : List Ext) (i : Nat) (he : EndsLt acc i) : ∀ m, (∀ j, j < m + 1 → T (i + j) = false) → goR T acc i (m + 1) = acc ++ [((i : Int), ((m + 1 : Nat) : Int))]
  | 0, h => by
    rw [goR, goR, if_neg (by rw [h 0 (by omega)]; decide)]
    unfold addR
    cases hl : acc.getLast? with
    | none => simp
    | some x =>
      have := he x hl
      simp only
      rw [if_neg (by omega)]; simp
  | m + 1, h => by
    rw [goR, if_neg (by rw [h (m + 1) (by omega)]; decide), goR_free T acc i he m (fun j hj => h j (by omega))]
    unfold addR
    rw [List.getLast?_append]
    simp only [List.getLast?_singleton, Option.or]
    rw [if_pos (by omega), List.dropLast_concat]
    congr 1
def coverX (e : Ext) (i : Nat) : Bool := decide (e.1 ≤ i) && decide ((i : Int) < e.1 + e.2)
theorem goR_runs (T : Nat → Bool) (n : Nat) : ∀ (S : List Ext) (a : Nat) (acc : List Ext), Tidy a S n → (∀ i, a ≤ i → i < n → T i = S.any (fun e => coverX e i)) → EndsLt acc a → goR T acc a (n - a) = acc ++ runsX a S n
  | [], a, acc, ht, hT, he => by
    have ht : (a : Int) ≤ n := ht
    rw [runsX_nil]
    by_cases h : a < n
    · obtain ⟨m, hm⟩ : ∃ m, n - a = m + 1 := ⟨n - a - 1, by omega⟩
      rw [hm, goR_free T acc a he m (fun j hj => by rw [hT (a + j) (by omega) (by omega)]; rfl), if_pos (by omega)]
      rw [show ((m + 1 : Nat) : Int) = (n : Int) - a by omega]
    · rw [show n - a = 0 by omega, if_neg (by omega)]
      simp [goR]
  | e :: r, a, acc, ht, hT, he => by
    obtain ⟨h1, h2, h3⟩ := ht
    have h4 := tidy_le h3
    obtain ⟨x, y⟩ := e
    dsimp only at h1 h2 h3 h4
    obtain ⟨p, rfl⟩ := Int.eq_ofNat_of_zero_le (show 0 ≤ x by omega)
    obtain ⟨q, rfl⟩ := Int.eq_ofNat_of_zero_le (show 0 ≤ y by omega)
    have hrest : ∀ i, i < p + q → r.any (fun e => coverX e i) = false := fun i hi => by
      rw [List.any_eq_false]
      intro z hz
      have := tidy_mem h3 z hz
      simp [coverX]; omega
    have e1 : n - a = (p - a) + (q + (n - (p + q))) := by omega
    have s1 : goR T acc a (p - a) = acc ++ (if (a : Int) < (p : Int) then [((a : Int), (p : Int) - a)] else []) := by
      by_cases h : a < p
      · obtain ⟨m, hm⟩ : ∃ m, p - a = m + 1 := ⟨p - a - 1, by omega⟩
        rw [hm, goR_free T acc a he m (fun j hj => ?_), if_pos (by omega)]
        · rw [show ((m + 1 : Nat) : Int) = (p : Int) - a by omega]
        · rw [hT (a + j) (by omega) (by omega), List.any_cons, hrest (a + j) (by omega)]
          simp [coverX]; omega
      · rw [show p - a = 0 by omega, if_neg (by omega)]
        simp [goR]
    have hends : EndsLt (acc ++ (if (a : Int) < (p : Int) then [((a : Int), (p : Int) - a)] else [])) ((p + q : Nat) : Int) := by
      intro h hh
      by_cases hc : (a : Int) < (p : Int)
      · rw [if_pos hc, List.getLast?_append] at hh
        simp only [List.getLast?_singleton, Option.or, Option.some.injEq] at hh
        subst hh
        dsimp only; omega
      · rw [if_neg hc, List.append_nil] at hh
        have := he h hh; omega
    rw [e1, goR_add, s1, goR_add, goR_taken T _ (a + (p - a)) q (fun j hj => by
      rw [hT (a + (p - a) + j) (by omega) (by omega), List.any_cons]
      have : coverX ((p : Int), (q : Int)) (a + (p - a) + j) = true := by simp [coverX]; omega
      rw [this]; rfl)]
    rw [show a + (p - a) + q = p + q by omega]
    rw [goR_runs T n r (p + q) _ (by simpa using h3) (fun i h5 h6 => by
      rw [hT i (by omega) h6, List.any_cons]
      have : coverX ((p : Int), (q : Int)) i = false := by simp [coverX]; omega
      rw [this, Bool.false_or]) hends]
    rw [runsX_cons, List.append_assoc]
    simp
/-- the reference's holes are the program's -/
theorem goR_holes {n : Nat} {l : List Ext} (h : chkX n l = 0) (T : Nat → Bool) (hT : ∀ i, i < n → T i = l.any (fun e => coverX e i)) : goR T [] 0 n = holesX n l := by
  have ht := tidy_of h
  have := goR_runs T n (sortE l) 0 [] ht (fun i _ hi => by
    rw [hT i hi, Bool.eq_iff_iff, List.any_eq_true, List.any_eq_true]
    constructor
    · rintro ⟨x, h1, h2⟩; exact ⟨x, (sortE_perm l).mem_iff.2 h1, h2⟩
    · rintro ⟨x, h1, h2⟩; exact ⟨x, (sortE_perm l).mem_iff.1 h1, h2⟩) (fun h hh => by cases hh)
  rw [Nat.sub_zero, List.nil_append] at this
  rw [this, holes_runs]; rfl
/-- the reference's choice: where; how long -/
def refF (size : Int) (H : List Ext) : Int × Int := H.foldl (fun b h => if size ≤ h.2 ∧ (b.1 < 0 ∨ h.2 < b.2) then h else b) (-1, 0)
theorem refF_succ (size : Int) (H : List Ext) (k : Nat) (hk : k < H.length) : refF size (H.take (k + 1)) = if size ≤ H[k].2 ∧ ((refF size (H.take k)).1 < 0 ∨ H[k].2 < (refF size (H.take k)).2) then H[k] else refF size (H.take k) := by
  unfold refF
  rw [List.take_succ_eq_append_getElem hk, List.foldl_append]; rfl
theorem refF_best (size : Int) (H : List Ext) : (∀ h ∈ H, 0 ≤ h.1 ∧ 1 ≤ h.2) → (bestX size H = (0, 0) ∧ refF size H = (-1, 0)) ∨ (1 ≤ (bestX size H).2 ∧ 0 ≤ (bestX size H).1 ∧ refF size H = bestX size H) := by
  induction H using snocE with
  | h0 => exact fun _ => .inl ⟨rfl, rfl⟩
  | h1 L x ih =>
    intro hH
    have hx := hH x (by simp)
    rw [bestX_snoc]
    have hs : refF size (L ++ [x]) = if size ≤ x.2 ∧ ((refF size L).1 < 0 ∨ x.2 < (refF size L).2) then x else refF size L := by
      unfold refF; rw [List.foldl_append]; rfl
    rw [hs]
    rcases ih (fun h hh => hH h (List.mem_append_left _ hh)) with ⟨a, b⟩ | ⟨a, b, c⟩
    · rw [a, b]
      by_cases h : size ≤ x.2
      · rw [if_pos ⟨h, .inl rfl⟩, if_pos ⟨h, .inl (by decide)⟩]
        exact .inr ⟨hx.2, hx.1, rfl⟩
      · rw [if_neg (fun hh => h hh.1), if_neg (fun hh => h hh.1)]
        exact .inl ⟨rfl, rfl⟩
    · rw [c]
      by_cases h : size ≤ x.2 ∧ x.2 < (bestX size L).2
      · rw [if_pos ⟨h.1, .inr h.2⟩, if_pos ⟨h.1, .inr h.2⟩]
        exact .inr ⟨hx.2, hx.1, rfl⟩
      · rw [if_neg (fun hh => h ⟨hh.1, by omega⟩), if_neg (fun hh => h ⟨hh.1, by omega⟩)]
        exact .inr ⟨a, b, rfl⟩
theorem refF_fit {n : Int} {l : List Ext} (h : chkX n l = 0) (size : Int) (hs : ¬ (size < 1 ∨ 6400 < size)) : ((refF size (holesX n l)).1 < 0 ∧ fitE n l size = 4 ∧ fitA n l size = 0) ∨ (0 ≤ (refF size (holesX n l)).1 ∧ fitE n l size = 0 ∧ fitA n l size = (refF size (holesX n l)).1) := by
  have hb := refF_best size (holesX n l) (fun x hx => by have := holes_mem h x hx; omega)
  rcases hb with ⟨a, b⟩ | ⟨a, b, c⟩
  · left
    have e : fitE n l size = 4 := by unfold fitE; rw [if_pos h, if_neg hs, a]; rfl
    exact ⟨by rw [b]; decide, e, by unfold fitA; rw [e]; rfl⟩
  · right
    have e : fitE n l size = 0 := by unfold fitE; rw [if_pos h, if_neg hs, if_neg (by omega)]
    exact ⟨by rw [c]; exact b, e, by unfold fitA; rw [if_pos e, c]⟩
end Go.Proofs.YtoieifphklodoaaGreatDoor
/- The reference's extents: Extents, Holes. -/
namespace Go.Proofs.YtoieifphklodoaaGreatDoor
open Go.RowKit

theorem zero6401 : Tryz.zeroCells231 = Array.replicate 6401 (.bool false) := by kernel_rfl
/-- a block of booleans: which are true -/
def BlkB (w : World) (g : Nat) (T : Nat → Bool) : Prop := ∃ cur, w.heap[g]? = some (.cells cur 231 (0, 0)) ∧ cur.size = 6401 ∧ ∀ i, i < 6401 → cur[i]? = some (.bool (T i))
theorem BlkB.block {w w' : World} {g : Nat} {T : Nat → Bool} (h : BlkB w g T) (hb : w'.heap[g]? = w.heap[g]?) : BlkB w' g T := by
  obtain ⟨cur, h1, h2⟩ := h
  exact ⟨cur, hb.trans h1, h2⟩
theorem BlkB.cell {w : World} {g : Nat} {T : Nat → Bool} (h : BlkB w g T) (i : Nat) (hi : i < 6401) : w.cell? ⟨g, i, none⟩ = some (.bool (T i)) ∧ w.frozen? ⟨g, i, none⟩ = false := by
  obtain ⟨cur, h1, h2, h3⟩ := h
  exact ⟨by simp [World.cell?, h1, h3 i hi], frozen_of_row _ g i _ _ h1⟩
theorem BlkB.set {w : World} {g : Nat} {T : Nat → Bool} (h : BlkB w g T) (i : Nat) (hi : i < 6401) : BlkB (w.setCell ⟨g, i, none⟩ (.bool true)) g (fun q => T q || decide (q = i)) := by
  obtain ⟨cur, h1, h2, h3⟩ := h
  refine ⟨_, heap_setK (k := i) h1 _, by simp [h2], fun q hq => ?_⟩
  rw [Array.getElem?_setIfInBounds]
  by_cases e : i = q
  · subst e
    rw [if_pos rfl, if_pos (by omega)]; simp
  · rw [if_neg e, h3 q hq]
    have : decide (q = i) = false := by simp; omega
    show _ = some (Value.bool (T q || decide (q = i)))
    rw [this, Bool.or_false]
theorem BlkB.congr {w : World} {g : Nat} {T T' : Nat → Bool} (h : BlkB w g T) (e : ∀ i, i < 6401 → T' i = T i) : BlkB w g T' := by
  obtain ⟨cur, h1, h2, h3⟩ := h
  exact ⟨cur, h1, h2, fun i hi => by rw [e i hi]; exact h3 i hi⟩
/-- a cell of an own row, stored into -/
theorem own_setX {w : World} {base size n g cap k : Nat} {e : TypeId} {xs : List Value} (h : w.ownsRow base e size (.slice (some ⟨g, 0, none⟩) n cap) n xs) (_hk : k < xs.length) (u : Value) :
    (w.setCell ⟨g, k, none⟩ u).ownsRow base e size (.slice (some ⟨g, 0, none⟩) n cap) n (xs.set k u) ∧ w.frozen? ⟨g, k, none⟩ = false := by
  rcases h with ⟨h0, ⟨h1, _⟩ | ⟨g', cap', cur, he, hb, hh, hn, hm, hc, ht⟩⟩
  · cases h1
  · injection he with he _ hcap
    injection he with he
    injection he with he
    subst he hcap
    refine ⟨⟨by rw [List.length_set]; exact h0, .inr ⟨g, cap, _, rfl, hb, heap_setK (k := k) hh u, hn, hm, by simp [hc], ?_⟩⟩, frozen_of_row _ g k _ _ hh⟩
    rw [← ht, Array.toList_setIfInBounds, List.take_set]
end Go.Proofs.YtoieifphklodoaaGreatDoor
/- The reference's extents: Holes. -/
namespace Go.Proofs.YtoieifphklodoaaGreatDoor
open Go.RowKit

theorem coverX_step (e : Ext) (j i : Nat) (h0 : 0 ≤ e.1) : (decide (e.1 ≤ i) && decide ((i : Int) < e.1 + ((j + 1 : Nat) : Int))) = ((decide (e.1 ≤ i) && decide ((i : Int) < e.1 + (j : Int))) || decide (i = e.1.toNat + j)) := by
  rw [Bool.eq_iff_iff]
  simp only [Bool.and_eq_true, Bool.or_eq_true, decide_eq_true_eq]
  omega
theorem goR_succ (T : Nat → Bool) (i : Nat) : goR T [] 0 (i + 1) = if T i = true then goR T [] 0 i else addR (goR T [] 0 i) (i : Int) := by
  rw [goR, Nat.zero_add]
theorem goR_len (T : Nat → Bool) : ∀ i, (goR T [] 0 i).length ≤ i
  | 0 => Nat.le_refl _
  | i + 1 => by
    rw [goR_succ]
    have := goR_len T i
    split
    · omega
    · unfold addR
      split
      · split <;> simp <;> omega
      · simp; omega
theorem tcells_flat (L : List Ext) : (L.flatMap tcells).length = L.length * 2 := by
  induction L with
  | nil => rfl
  | cons x r ih => rw [List.flatMap_cons, List.length_append, ih, List.length_cons]; simp [tcells]; omega
/-- runs lie within what was looked at -/
theorem goR_in (T : Nat → Bool) : ∀ i, ∀ x ∈ goR T [] 0 i, 0 ≤ x.1 ∧ 1 ≤ x.2 ∧ x.1 + x.2 ≤ i
  | 0 => fun x hx => by cases hx
  | i + 1 => fun x hx => by
    have ih := goR_in T i
    rw [goR_succ] at hx
    by_cases ht : T i = true
    · rw [if_pos ht] at hx
      have := ih x hx; omega
    · rw [if_neg ht] at hx
      unfold addR at hx
      cases hl : (goR T [] 0 i).getLast? with
      | none =>
        rw [hl] at hx
        simp only [List.mem_append, List.mem_singleton] at hx
        rcases hx with hx | rfl
        · have := ih x hx; omega
        · dsimp only; omega
      | some y =>
        rw [hl] at hx
        have hy := ih y (List.mem_of_getLast? hl)
        simp only at hx
        by_cases he : y.1 + y.2 = (i : Int)
        · rw [if_pos he] at hx
          simp only [List.mem_append, List.mem_singleton] at hx
          rcases hx with hx | rfl
          · have := ih x ((List.dropLast_sublist _).subset hx); omega
          · dsimp only; omega
        · rw [if_neg he] at hx
          simp only [List.mem_append, List.mem_singleton] at hx
          rcases hx with hx | rfl
          · have := ih x hx; omega
          · dsimp only; omega
set_option maxRecDepth 100000 in
set_option maxHeartbeats 1000000 in
theorem rholes_any (n : Nat) (A : Option Addr) (m c : Nat) (l : List Ext) (w : World) (hl : l.length = m) (hr : RdX tcells 2 w A l) (hc : chkX (n : Int) l = 0) :
    Calls Tryz.prog 137 #[.int .i64 (n : Int), .slice A m c] w fun e w' => ∃ v, e = .returned v ∧ w'.ownsRow w.heap.size 87 2 v (holesX (n : Int) l).length ((holesX (n : Int) l).flatMap tcells) ∧ Below w.heap.size w w' := by
  obtain ⟨o0, o1, o2, o3, -⟩ := chkX_ok hc
  have HL := Hidden.mk hl
  have HR := Hidden.mk hr
  have HBD : Hidden (∀ e ∈ l, 0 ≤ e.1 ∧ 1 ≤ e.2 ∧ e.1 + e.2 ≤ n) := ⟨fun e he => by have := badX_false (holds_bad hc e he); omega⟩
  have HH : Hidden (∀ T : Nat → Bool, (∀ i, i < n → T i = l.any (fun e => coverX e i)) → goR T [] 0 n = holesX (n : Int) l) := ⟨fun T hT => goR_holes hc T hT⟩
  have HN : Hidden (n ≤ 6400 ∧ m ≤ 200) := ⟨by omega⟩
  obtain ⟨hi0, hi1, hz0, hz1, hz2⟩ := info_parts extent_info
  have HI := Hidden.mk (And.intro hi1 (And.intro hz0 (And.intro hz1 hz2)))
  have HB0 := Hidden.mk ((Below.refl w.heap.size w).alloc (Nat.le_refl _) (.cells Tryz.zeroCells231 231))
  have HT0 : Hidden (BlkB (w.alloc (.cells Tryz.zeroCells231 231)) w.heap.size (fun _ => false)) := ⟨⟨_, heap_alloc_new w _, by rw [zero6401]; simp, fun i hi => by rw [zero6401]; simp [hi]⟩⟩
  generalize holesX (n : Int) l = H at *
  clear hl hr hc o0 o1 o2 o3 hi1 hz0 hz1 hz2
  go_enter Tryz.func137, Tryz.ntmps137
  go_upto_region 2 with (fail)
  generalize w.alloc (.cells Tryz.zeroCells231 231) = w1 at *
  generalize hgb : w.heap.size = gb at *
  have HGB := Hidden.mk hgb
  clear hgb
  go_wp2_with fail
  go_loopg [6] m (fun q kv wr => ∃ k : Nat, k ≤ m ∧ q = m - k ∧ kv = .int .i64 (k : Int) ∧ Hidden (BlkB wr gb (fun i => (l.take k).any (fun e => coverX e i)) ∧ Below gb w wr))
  case atStart => exact ⟨0, by omega, rfl, rfl, ⟨HT0.out.congr (fun i _ => by simp), HB0.out⟩⟩
  case round =>
    obtain ⟨k, hk, rfl, rfl, hst⟩ := hrel
    by_cases hlt : k < m
    · have hkl : k < l.length := by rw [HL.out]; exact hlt
      have i0 : (0 : Int) ≤ k := by omega
      have i1 : (k : Int) < m := by omega
      have s1 : IntKind.i64.wrap ((k : Int) + 1) = (k : Int) + 1 := IntWalk.i64_in _ (by have := HN.out; omega)
      obtain ⟨pb, off, rfl, hcx⟩ := HR.out k hkl
      have x0 := hcx 0 _ rfl
      have x1 := hcx 1 _ rfl
      rw [Nat.add_zero] at x0
      have hbd := HBD.out l[k] (List.getElem_mem hkl)
      have HTK : Hidden (∀ i : Nat, (l.take (k + 1)).any (fun e => coverX e i) = ((l.take k).any (fun e => coverX e i) || coverX l[k] i)) := ⟨fun i => by rw [List.take_succ_eq_append_getElem hkl, List.any_append]; simp⟩
      generalize l[k] = e at *
      obtain ⟨e1, e2⟩ := e
      dsimp only at x0 x1 hbd
      obtain ⟨p, rfl⟩ := Int.eq_ofNat_of_zero_le hbd.1
      obtain ⟨q, rfl⟩ := Int.eq_ofNat_of_zero_le (show 0 ≤ e2 by omega)
      have HRK : Hidden (∀ W, Below gb w W → W.cell? ⟨pb, off + k * 2, none⟩ = some (.int .i64 (p : Int)) ∧ W.cell? ⟨pb, off + k * 2 + 1, none⟩ = some (.int .i64 (q : Int))) := ⟨fun W hW => by
        rw [← HGB.out] at hW
        exact ⟨(hW.cell (p := ⟨pb, off + k * 2, none⟩) (block_lt_of_cell x0)).trans x0, (hW.cell (p := ⟨pb, off + k * 2 + 1, none⟩) (block_lt_of_cell x1)).trans x1⟩⟩
      have HS := Hidden.mk hst.out
      clear hcx x0 x1 hst
      go_wp2_with fail
      go_loopg [7] q (fun z jv wy => ∃ j : Nat, j ≤ q ∧ z = q - j ∧ jv = .int .i64 (j : Int) ∧ Hidden (BlkB wy gb (fun i => (l.take k).any (fun e => coverX e i) || (decide ((p : Int) ≤ i) && decide ((i : Int) < (p : Int) + (j : Int)))) ∧ Below gb w wy))
      case atStart => exact ⟨0, by omega, rfl, rfl, ⟨HS.out.1.congr (fun i _ => by
        have : (decide ((p : Int) ≤ i) && decide ((i : Int) < (p : Int) + ((0 : Nat) : Int))) = false := by
          rw [Bool.eq_false_iff]; intro h; simp only [Bool.and_eq_true, decide_eq_true_eq] at h; omega
        rw [this, Bool.or_false]), HS.out.2⟩⟩
      case round =>
        obtain ⟨j, hj, rfl, rfl, hs2⟩ := hrel
        obtain ⟨x0, x1⟩ := HRK.out wr hs2.out.2
        by_cases hjq : j < q
        · have j0 : decide ((j : Int) < q) = true := by simp; omega
          have s2 : IntKind.i64.wrap ((p : Int) + j) = (p : Int) + j := IntWalk.i64_in _ (by have := HN.out; omega)
          have s3 : IntKind.i64.wrap ((j : Int) + 1) = (j : Int) + 1 := IntWalk.i64_in _ (by have := HN.out; omega)
          have hz1 : p + j < 6401 := by have := HN.out; omega
          have z0 : (0 : Int) ≤ (p : Int) + j := by omega
          have z1 : (p : Int) + j < 6401 := by omega
          obtain ⟨y0, y1⟩ := hs2.out.1.cell (p + j) hz1
          have HNX : Hidden (BlkB (wr.setCell ⟨gb, p + j, none⟩ (.bool true)) gb (fun i => (l.take k).any (fun e => coverX e i) || (decide ((p : Int) ≤ i) && decide ((i : Int) < (p : Int) + ((j + 1 : Nat) : Int)))) ∧ Below gb w (wr.setCell ⟨gb, p + j, none⟩ (.bool true))) := ⟨(hs2.out.1.set (p + j) hz1).congr (fun i _ => by
            have := coverX_step ((p : Int), 0) j i (by dsimp only; omega)
            dsimp only at this
            rw [this, show ((p : Int)).toNat + j = p + j by omega, Bool.or_assoc]), hs2.out.2.setCell (p := ⟨gb, p + j, none⟩) (Nat.le_refl _) _⟩
          clear hs2 HS
          go_wp2_with fail
          go_roundg (q - (j + 1))
          case measure => omega
          case rel => exact ⟨j + 1, by omega, rfl, by go_num, HNX⟩
        · obtain rfl : j = q := by omega
          have j0 : decide ((j : Int) < j) = false := by simp
          have HNX : Hidden (BlkB wr gb (fun i => (l.take (k + 1)).any (fun e => coverX e i)) ∧ Below gb w wr) := ⟨hs2.out.1.congr (fun i _ => by rw [HTK.out i]; rfl), hs2.out.2⟩
          clear hs2 HS
          go_wp2_with fail
          go_roundg (m - (k + 1))
          case measure => omega
          case rel => exact ⟨k + 1, by omega, rfl, by go_num, HNX⟩
    · obtain rfl : k = m := by omega
      have t4 : decide ((k : Int) < k) = false := by simp
      obtain ⟨T, hT⟩ : ∃ T : Nat → Bool, T = fun i => l.any (fun e => coverX e i) := ⟨_, rfl⟩
      have HS : Hidden (BlkB wr gb T ∧ Below gb w wr) := ⟨by
        have h1 := hst.out.1
        rw [List.take_of_length_le (by rw [HL.out]; exact Nat.le_refl _)] at h1
        rw [hT]; exact h1, hst.out.2⟩
      have HG := Hidden.mk (HH.out T (fun i _ => by rw [hT]))
      clear hT hst HH
      have HGL : Hidden (gb < w1.heap.size) := ⟨by obtain ⟨cur, h1, -⟩ := HT0.out; exact (Array.getElem?_eq_some_iff.1 h1).1⟩
      clear HT0 HB0
      go_wp2_with fail
      go_loopg [8, 9] n (fun q v iv wr => ∃ i : Nat, i ≤ n ∧ q = n - i ∧ iv = .int .i64 (i : Int) ∧ Hidden (BlkB wr gb T ∧ Below gb w wr ∧ wr.ownsRow (gb + 1) 87 2 v (goR T [] 0 i).length ((goR T [] 0 i).flatMap tcells)))
      case atStart => exact ⟨0, by omega, rfl, rfl, ⟨HS.out.1, HS.out.2, World.ownsRow_nil _ _ _ _⟩⟩
      case round =>
        obtain ⟨i, hi, rfl, rfl, hs⟩ := hrel
        by_cases hin : i < n
        · have d0 : decide ((i : Int) < n) = true := by simp; omega
          have i0 : (0 : Int) ≤ i := by omega
          have i1 : (i : Int) < 6401 := by have := HN.out; omega
          have s1 : IntKind.i64.wrap ((i : Int) + 1) = (i : Int) + 1 := IntWalk.i64_in _ (by have := HN.out; omega)
          obtain ⟨y0, -⟩ := hs.out.1.cell i (by have := HN.out; omega)
          have HSC := Hidden.mk (goR_succ T i)
          have HST := Hidden.mk hs.out
          have hgl : gb + 1 ≤ wr.heap.size := by obtain ⟨cur, h1, -⟩ := hs.out.1; exact (Array.getElem?_eq_some_iff.1 h1).1
          cases hT : T i with
          | true =>
            rw [hT] at y0
            have HNX : Hidden (goR T [] 0 (i + 1) = goR T [] 0 i) := ⟨by rw [HSC.out, if_pos hT]⟩
            clear hT hs HSC HS
            go_wp2_with fail
            go_roundg (n - (i + 1))
            case measure => omega
            case rel => exact ⟨i + 1, by omega, rfl, by go_num, ⟨HST.out.1, HST.out.2.1, by rw [HNX.out]; exact HST.out.2.2⟩⟩
          | false =>
            rw [hT] at y0
            have HNX : Hidden (goR T [] 0 (i + 1) = addR (goR T [] 0 i) i) := ⟨by rw [HSC.out, if_neg (by rw [hT]; decide)]⟩
            have hlen := goR_len T i
            have hins := goR_in T i
            obtain ⟨H', hH'⟩ : ∃ H', goR T [] 0 (i + 1) = H' := ⟨_, rfl⟩
            have HHE := Hidden.mk hH'
            rw [hH'] at HNX
            clear hH'
            generalize goR T [] 0 i = R at *
            obtain ⟨Av, cv, rfl, hcv, -⟩ := own_split hs.out.2.2
            clear hT hs HSC HS
            rcases List.eq_nil_or_concat R with hnil | ⟨R', x, hR⟩
            · subst hnil
              have HNX : Hidden (H' = [] ++ [((i : Int), 1)]) := ⟨HNX.out⟩
              clear hlen hins
              go_upto_region 15 with (fail)
              go_quiet (fail)
              go_upto_region 17 with (fail)
              have HQ : Hidden (BlkB (wr.drewN nq) gb T ∧ Below gb w (wr.drewN nq) ∧ (wr.drewN nq).ownsRow (gb + 1) 87 2 (.slice Av 0 cv) 0 ((([] : List Ext)).flatMap tcells)) := ⟨HST.out.1, below_drewN HST.out.2.1 _, HST.out.2.2⟩
              have hgq : gb + 1 ≤ (wr.drewN nq).heap.size := hgl
              clear y0 hgl HST
              generalize wr.drewN nq = wq at *
              obtain ⟨hi1, hz0, hz1, hz2⟩ := HI.out
              have hown9 := HQ.out.2.2
              go_wp2_with (at_builtin; refine wpList_append_lies _ rfl (.tmp 75) (.tmp 78) _ rfl (gb + 1) 87 hi0 _ 2 16 Tryz.underlying138 hi1 hz0 hz1 hz2 rfl (by decide) (.slice Av 0 cv) 0 ((([] : List Ext)).flatMap tcells) rfl (own_below hown9 ((Below.refl _ _).alloc (Nat.le_refl _) _)) ⟨(wq).heap.size, 0, none⟩ 1 1 [.int .i64 (i : Int), .int .i64 1] rfl rfl (World.news_of_block (cs := #[.int .i64 (i : Int), .int .i64 1]) (t := 87) (fr := (0, 0)) (heap_alloc_new (wq) _)) (by simp [Value.oneCell']) (by omega) (by simp only [maxLen]; omega) (by omega) (by have hz_ := HQ.out.2.1.size; rw [World.size_alloc]; omega) ((wq).heap.size + 1) (by simp) ?_; intro g8 cap8 w8 hown8 hg8 hat8 hlt8)
              have hal := (Below.refl wq.heap.size wq).alloc (Nat.le_refl _) (.cells #[.int .i64 (i : Int), .int .i64 1] 87)
              have hgW := grown_trans' hal hg8
              have HF : Hidden (BlkB w8 gb T ∧ Below gb w w8 ∧ w8.ownsRow (gb + 1) 87 2 (.slice (some ⟨g8, 0, none⟩) (0 + 1) cap8) H'.length (H'.flatMap tcells)) := ⟨HQ.out.1.block (hgW.block gb (by omega) (fun e => by have := (HQ.out.2.2.lt gb e.symm).1; omega)), HQ.out.2.1.grown hgW (by omega) (fun q hq => by have := (HQ.out.2.2.lt q hq).1; omega), by rw [HNX.out]; simpa [tcells] using hown8⟩
              clear hal hgW hown8 hg8 hat8 hlt8 hown9 HQ hgq
              go_roundg (n - (i + 1))
              case measure => omega
              case rel => exact ⟨i + 1, by omega, rfl, by go_num, by rw [HHE.out]; exact HF⟩
            · rw [List.concat_eq_append] at hR
              subst hR
              have hx := hins x (by simp)
              have hkx : R'.length < (R' ++ [x]).length := by simp
              obtain ⟨ga, oa, hAv, hcx⟩ := own_rdX3 (f := tcells) tcells_len rfl HST.out.2.2 R'.length hkx
              subst hAv
              obtain ⟨ga', ca', hv', hga⟩ := own_mem HST.out.2.2 (by simp)
              injection hv' with q1 q2 q3
              injection q1 with q1
              injection q1 with q1 q4 q5
              subst q1 q3 q4
              clear q2 q5
              have hgx : (R' ++ [x])[R'.length] = x := by simp
              rw [hgx] at hcx
              have v0 := hcx 0 _ rfl
              have v1 := hcx 1 _ rfl
              rw [Nat.add_zero] at v0
              have HLL : Hidden ((R' ++ [x]).length = R'.length + 1) := ⟨by simp⟩
              have k0 : decide (0 < ((R'.length + 1 : Nat) : Int)) = true := decide_eq_true (by omega)
              have s4 : IntKind.i64.wrap (((R'.length + 1 : Nat) : Int) - 1) = (R'.length : Int) := (IntWalk.i64_in _ (by omega)).trans (by omega)
              have k1 : (0 : Int) ≤ R'.length := by omega
              have k2 : (R'.length : Int) < ((R'.length + 1 : Nat) : Int) := by omega
              have HADD : Hidden (H' = if x.1 + x.2 = (i : Int) then R' ++ [(x.1, x.2 + 1)] else (R' ++ [x]) ++ [((i : Int), 1)]) := ⟨by
                rw [HNX.out]; unfold addR
                rw [List.getLast?_concat]
                simp only [List.dropLast_concat]⟩
              obtain ⟨x1, x2⟩ := x
              dsimp only at hx HADD v0 v1
              have s5 : IntKind.i64.wrap (x1 + x2) = x1 + x2 := IntWalk.i64_in _ (by omega)
              have s6 : IntKind.i64.wrap (x2 + 1) = x2 + 1 := IntWalk.i64_in _ (by omega)
              have hR6 : R'.length + 1 ≤ 6400 := by have := HLL.out; have := HN.out; omega
              rw [Nat.zero_add] at v0 v1
              rw [HLL.out]
              clear hcx hgx hkx HNX hins
              by_cases hadj : x1 + x2 = (i : Int)
              · have HNX : Hidden (H' = R' ++ [(x1, x2 + 1)]) := ⟨by rw [HADD.out, if_pos hadj]⟩
                have e0 : (x1 + x2 == (i : Int)) = true := by simpa using hadj
                clear HADD hadj hlen
                go_upto_region 15 with (fail)
                go_quiet (fail)
                have HQ : Hidden (BlkB (wr.drewN nq) gb T ∧ Below gb w (wr.drewN nq) ∧ (wr.drewN nq).ownsRow (gb + 1) 87 2 (.slice (some ⟨ga, 0, none⟩) (R' ++ [(x1, x2)]).length cv) (R' ++ [(x1, x2)]).length ((R' ++ [(x1, x2)]).flatMap tcells)) := ⟨HST.out.1, below_drewN HST.out.2.1 _, HST.out.2.2⟩
                have v1' : (wr.drewN nq).cell? ⟨ga, R'.length * 2 + 1, none⟩ = some (.int .i64 x2) := v1
                clear y0 hgl HST v0 v1
                generalize wr.drewN nq = wq at *
                have hset := own_setX HQ.out.2.2 (k := R'.length * 2 + 1) (by rw [tcells_flat]; simp; omega) (.int .i64 (x2 + 1))
                have HSET : Hidden (BlkB (wq.setCell ⟨ga, R'.length * 2 + 1, none⟩ (.int .i64 (x2 + 1))) gb T ∧ Below gb w (wq.setCell ⟨ga, R'.length * 2 + 1, none⟩ (.int .i64 (x2 + 1))) ∧ (wq.setCell ⟨ga, R'.length * 2 + 1, none⟩ (.int .i64 (x2 + 1))).ownsRow (gb + 1) 87 2 (.slice (some ⟨ga, 0, none⟩) (R'.length + 1) cv) H'.length (H'.flatMap tcells)) := ⟨HQ.out.1.block (Below.heap_setCell _ _ _ _ (by dsimp only; omega)), HQ.out.2.1.setCell (p := ⟨ga, R'.length * 2 + 1, none⟩) (by dsimp only; omega) _, by
                  have h1 := hset.1
                  rw [HLL.out] at h1
                  rw [HNX.out]
                  have e1 : ((R' ++ [(x1, x2)]).flatMap tcells).set (R'.length * 2 + 1) (.int .i64 (x2 + 1)) = (R' ++ [(x1, x2 + 1)]).flatMap tcells := by
                    rw [List.flatMap_append, List.flatMap_append]
                    have hl := tcells_flat R'
                    rw [List.set_append_right _ _ (by omega), hl, show R'.length * 2 + 1 - R'.length * 2 = 1 by omega]
                    rfl
                  rw [e1] at h1
                  simpa using h1⟩
                have f1 := hset.2
                clear hset HQ
                go_wp2_with fail
                go_roundg (n - (i + 1))
                case measure => omega
                case rel => exact ⟨i + 1, by omega, rfl, by go_num, by rw [HHE.out]; exact HSET⟩
              · have HNX : Hidden (H' = (R' ++ [(x1, x2)]) ++ [((i : Int), 1)]) := ⟨by rw [HADD.out, if_neg hadj]⟩
                have e0 : (x1 + x2 == (i : Int)) = false := by simpa using hadj
                rw [HLL.out] at HST
                clear HADD hadj hlen
                go_upto_region 15 with (fail)
                go_quiet (fail)
                clear v0 v1
                go_upto_region 17 with (fail)
                have HQ : Hidden (BlkB (wr.drewN nq) gb T ∧ Below gb w (wr.drewN nq) ∧ (wr.drewN nq).ownsRow (gb + 1) 87 2 (.slice (some ⟨ga, 0, none⟩) (R'.length + 1) cv) (R'.length + 1) ((R' ++ [(x1, x2)]).flatMap tcells)) := ⟨HST.out.1, below_drewN HST.out.2.1 _, HST.out.2.2⟩
                have hgq : gb + 1 ≤ (wr.drewN nq).heap.size := hgl
                clear y0 hgl HST
                generalize wr.drewN nq = wq at *
                obtain ⟨hi1, hz0, hz1, hz2⟩ := HI.out
                have hown9 := HQ.out.2.2
                go_wp2_with (at_builtin; refine wpList_append_lies _ rfl (.tmp 75) (.tmp 78) _ rfl (gb + 1) 87 hi0 _ 2 16 Tryz.underlying138 hi1 hz0 hz1 hz2 rfl (by decide) (.slice (some ⟨ga, 0, none⟩) (R'.length + 1) cv) (R'.length + 1) ((R' ++ [(x1, x2)]).flatMap tcells) rfl (own_below hown9 ((Below.refl _ _).alloc (Nat.le_refl _) _)) ⟨(wq).heap.size, 0, none⟩ 1 1 [.int .i64 (i : Int), .int .i64 1] rfl rfl (World.news_of_block (cs := #[.int .i64 (i : Int), .int .i64 1]) (t := 87) (fr := (0, 0)) (heap_alloc_new (wq) _)) (by simp [Value.oneCell']) (by omega) (by simp only [maxLen]; omega) (by omega) (by have hz_ := HQ.out.2.1.size; rw [World.size_alloc]; omega) ((wq).heap.size + 1) (by simp) ?_; intro g8 cap8 w8 hown8 hg8 hat8 hlt8)
                have hal := (Below.refl wq.heap.size wq).alloc (Nat.le_refl _) (.cells #[.int .i64 (i : Int), .int .i64 1] 87)
                have hgW := grown_trans' hal hg8
                have HF : Hidden (BlkB w8 gb T ∧ Below gb w w8 ∧ w8.ownsRow (gb + 1) 87 2 (.slice (some ⟨g8, 0, none⟩) ((R'.length + 1) + 1) cap8) H'.length (H'.flatMap tcells)) := ⟨HQ.out.1.block (hgW.block gb (by omega) (fun e => by have := (HQ.out.2.2.lt gb e.symm).1; omega)), HQ.out.2.1.grown hgW (by omega) (fun q hq => by have := (HQ.out.2.2.lt q hq).1; omega), by rw [HNX.out]; simpa [tcells] using hown8⟩
                clear hal hgW hown8 hg8 hat8 hlt8 hown9 HQ hgq
                go_roundg (n - (i + 1))
                case measure => omega
                case rel => exact ⟨i + 1, by omega, rfl, by go_num, by rw [HHE.out]; exact HF⟩
        · obtain rfl : i = n := by omega
          have d0 : decide ((i : Int) < i) = false := by simp
          have HF : Hidden (Below w.heap.size w wr ∧ wr.ownsRow w.heap.size 87 2 u8 H.length (H.flatMap tcells)) := ⟨by rw [HGB.out]; exact hs.out.2.1, by
            have := hs.out.2.2
            rw [HG.out] at this
            rw [HGB.out]
            exact own_base this (by omega)⟩
          rw [HGB.out] at HF
          have HGB2 := HGB.out
          clear hs HS
          go_wp2_with fail
          go_ret
          rw [HGB2]
          exact ⟨_, rfl, HF.out.2, HF.out.1⟩
end Go.Proofs.YtoieifphklodoaaGreatDoor
/- The reference's extents: Fit, Stat; extents that are the same. -/
namespace Go.Proofs.YtoieifphklodoaaGreatDoor
open Go.RowKit

section
variable (n : Nat) (A : Option Addr) (m c : Nat) (l : List Ext) (w : World) (hl : l.length = m) (hr : RdX tcells 2 w A l) (hc : chkX (n : Int) l = 0)
include hl hr hc
set_option maxRecDepth 100000 in
theorem rfit_any (size : Int) :
    Calls Tryz.prog 81 #[.int .i64 (n : Int), .slice A m c, .int .i64 size] w fun e w' => e = .returned (.int .i64 (refF size (holesX (n : Int) l)).1) ∧ Below w.heap.size w w' := by
  obtain ⟨o0, o1, o2, o3, -⟩ := chkX_ok hc
  have HC := Hidden.mk (rholes_any n A m c l w hl hr hc)
  have HLE : Hidden ((holesX (n : Int) l).length ≤ 201) := ⟨by have := holesX_len (n : Int) l; omega⟩
  generalize holesX (n : Int) l = H at *
  clear hl hr hc o0 o1 o2 o3
  go_enter Tryz.func81, Tryz.ntmps81
  go_wp2_with fail
  refine HC.out.mono ?_
  rintro e w1 ⟨v, rfl, hown, hb1⟩
  obtain ⟨A1, c1, rfl, -, -⟩ := own_split hown
  have HR := Hidden.mk (own_rdX3 (f := tcells) tcells_len rfl hown)
  have HB := Hidden.mk hb1
  generalize hm : H.length = hn at *
  have HM := Hidden.mk hm
  have hle := HLE.out
  clear hown hb1 HC hm
  go_wp2_with fail
  go_loopg [8, 9, 10] hn (fun q av bv iv wr => ∃ k : Nat, k ≤ hn ∧ q = hn - k ∧ iv = .int .i64 (k : Int) ∧ av = .int .i64 (refF size (H.take k)).1 ∧ bv = .int .i64 (refF size (H.take k)).2 ∧ w1 = wr)
  case atStart => exact ⟨0, by omega, rfl, rfl, rfl, rfl, rfl⟩
  case round =>
    obtain ⟨k, hk, rfl, rfl, rfl, rfl, rfl⟩ := hrel
    by_cases hlt : k < hn
    · have hkl : k < H.length := by rw [HM.out]; exact hlt
      obtain ⟨pp, oo, rfl, hcx⟩ := HR.out k hkl
      have x0 := hcx 0 _ rfl
      have x1 := hcx 1 _ rfl
      rw [Nat.add_zero] at x0
      have HS := Hidden.mk (refF_succ size H k hkl)
      generalize H[k] = e at *
      obtain ⟨e1, e2⟩ := e
      obtain ⟨r, hr⟩ : ∃ r, refF size (H.take k) = r := ⟨_, rfl⟩
      rw [hr] at HS
      rw [hr]
      obtain ⟨ra, rb⟩ := r
      dsimp only at x0 x1 HS
      have i0 : (0 : Int) ≤ k := by omega
      have i1 : (k : Int) < hn := by omega
      have s1 : IntKind.i64.wrap ((k : Int) + 1) = (k : Int) + 1 := IntWalk.i64_in _ (by omega)
      clear hcx hr
      by_cases h1 : size ≤ e2
      · have d1 : decide (size ≤ e2) = true := by simpa using h1
        by_cases h2 : ra < 0
        · have d2 : decide (ra < 0) = true := by simpa using h2
          have HN := Hidden.mk (HS.out.trans (if_pos ⟨h1, .inl h2⟩))
          clear h1 h2 HS
          go_wp2_with fail
          go_roundg (hn - (k + 1))
          case measure => omega
          case rel => exact ⟨k + 1, by omega, rfl, by go_num, by rw [HN.out], by rw [HN.out], rfl⟩
        have d2 : decide (ra < 0) = false := by simpa using h2
        by_cases h3 : e2 < rb
        · have d3 : decide (e2 < rb) = true := by simpa using h3
          have HN := Hidden.mk (HS.out.trans (if_pos ⟨h1, .inr h3⟩))
          clear h1 h2 h3 HS
          go_wp2_with fail
          go_roundg (hn - (k + 1))
          case measure => omega
          case rel => exact ⟨k + 1, by omega, rfl, by go_num, by rw [HN.out], by rw [HN.out], rfl⟩
        have d3 : decide (e2 < rb) = false := by simpa using h3
        have HN := Hidden.mk (HS.out.trans (if_neg (fun h => by rcases h.2 with h | h; exact h2 h; exact h3 h)))
        clear h1 h2 h3 HS
        go_wp2_with fail
        go_roundg (hn - (k + 1))
        case measure => omega
        case rel => exact ⟨k + 1, by omega, rfl, by go_num, by rw [HN.out], by rw [HN.out], rfl⟩
      · have d1 : decide (size ≤ e2) = false := by simpa using h1
        have HN := Hidden.mk (HS.out.trans (if_neg (fun h => h1 h.1)))
        clear h1 HS
        go_wp2_with fail
        go_roundg (hn - (k + 1))
        case measure => omega
        case rel => exact ⟨k + 1, by omega, rfl, by go_num, by rw [HN.out], by rw [HN.out], rfl⟩
    · obtain rfl : k = hn := by omega
      have t4 : decide ((k : Int) < k) = false := by simp
      have HT : Hidden (H.take k = H) := ⟨List.take_of_length_le (by rw [HM.out]; exact Nat.le_refl _)⟩
      rw [HT.out]
      go_wp2_with fail
      go_ret
      exact ⟨rfl, HB.out⟩
end
end Go.Proofs.YtoieifphklodoaaGreatDoor
/- The reference's Alloc. -/
namespace Go.Proofs.YtoieifphklodoaaGreatDoor
open Go.RowKit

theorem fH_at {l : Bytes} {k : Nat} (hk : k < 40) (h0 : hasE (rawE l k) = false) (hb : ∀ i, i < k → hasE (rawE l i) = true) : fH l 40 = k + 1 := by
  rcases fH_spec l 40 (Nat.le_refl _) with ⟨_, h⟩ | ⟨q, q1, q2, q3, q4, q5⟩
  · rw [h k (by omega) hk] at h0; cases h0
  · rcases Nat.lt_trichotomy q k with h | h | h
    · rw [hb q h] at q4; cases q4
    · rw [q3, h]
    · rw [q5 k (by omega) h] at h0; cases h0
theorem fH_zero {l : Bytes} (hb : ∀ i, i < 40 → hasE (rawE l i) = true) : fH l 40 = 0 := by
  rcases fH_spec l 40 (Nat.le_refl _) with ⟨h, _⟩ | ⟨q, q1, q2, q3, q4, q5⟩
  · exact h
  · rw [hb q q2] at q4; cases q4
end Go.Proofs.YtoieifphklodoaaGreatDoor
/- The reference's Alloc, of whatever. -/
namespace Go.Proofs.YtoieifphklodoaaGreatDoor
open Go.RowKit

def RaAnsT (w w' : World) (e : Ending) (n : Nat) (l : Bytes) (sz tg : Int) : Prop :=
  Below w.heap.size w w' ∧ ((allocE l sz tg = 0 ∧ ∃ g c', e = .returned (.tuple #[.slice (some ⟨g, 0, none⟩) n c', .int .i64 (allocH l sz tg), .int .i64 0]) ∧ n ≤ c' ∧ w.heap.size ≤ g ∧ Rd w' (some ⟨g, 0, none⟩) (allocL l sz tg)) ∨ (allocE l sz tg ≠ 0 ∧ e = .returned (.tuple #[.slice none 0 0, .int .i64 0, .int .i64 (allocE l sz tg)])))
theorem alloc_noT {l : Bytes} {sz tg : Int} (h1 : 1 ≤ sz) (h2 : sz ≤ 1000) (t0 : 0 ≤ tg) (t15 : tg ≤ 15) (h : fH l 40 = 0 ∨ fitE ((l.length : Int) - 288) (takenL l) sz ≠ 0) : allocE l sz tg = 4 := by
  unfold allocE
  have h3 : ¬ (lenB sz = false ∨ tagB tg = false) := by
    rw [lenB_true.2 ⟨h1, h2⟩, tagB_true.2 ⟨t0, t15⟩]; simp
  rw [if_neg h3, if_pos h]
theorem alloc_yesT {l : Bytes} {sz tg : Int} (h1 : 1 ≤ sz) (h2 : sz ≤ 1000) (t0 : 0 ≤ tg) (t15 : tg ≤ 15) {k : Nat} (hk : fH l 40 = k + 1) (h : fitE ((l.length : Int) - 288) (takenL l) sz = 0) : allocE l sz tg = 0 ∧ allocH l sz tg = (k : Int) + 1 ∧ ∃ a : Nat, allocA l sz = (a : Int) ∧ 288 ≤ a ∧ (a : Int) + sz ≤ l.length ∧ allocL l sz tg = splice (putEnt l ((k : Int) + 1) (a : Int) sz tg) a (List.replicate sz.toNat 0) := by
  have h3 : ¬ (lenB sz = false ∨ tagB tg = false) := by
    rw [lenB_true.2 ⟨h1, h2⟩, tagB_true.2 ⟨t0, t15⟩]; simp
  have h0 : allocE l sz tg = 0 := by
    unfold allocE
    rw [if_neg h3, if_neg (by omega)]
  obtain ⟨i1, i2⟩ := alloc_in h
  obtain ⟨a, ha⟩ := Int.eq_ofNat_of_zero_le (show 0 ≤ allocA l sz by omega)
  refine ⟨h0, by unfold allocH; rw [if_pos h0, hk]; omega, a, ha, by omega, by omega, ?_⟩
  unfold allocL
  rw [if_pos h0, ha, hk]
  rfl
set_option maxRecDepth 100000 in
theorem ralloc_in (p off n c : Nat) (l : Bytes) (sz tg : Int) (w : World) (hn : l.length = n) (hg : Good l) (hnc : n ≤ c) (hrd : Rd w (some ⟨p, off, none⟩) l) (h1 : 1 ≤ sz) (h2 : sz ≤ 1000) (t0 : 0 ≤ tg) (t15 : tg ≤ 15) :
    Calls Tryz.prog 26 #[.slice (some ⟨p, off, none⟩) n c, .int .i64 sz, .int .i64 tg] w fun e w' => RaAnsT w w' e n l sz tg := by
  have hbd := hg.bd
  have hr : rightB n = true := rightB_true.2 (by omega)
  have HE : Hidden (∀ (W : World) (k : Nat), k < 40 → Below w.heap.size w W → Calls Tryz.prog 43 #[.slice (some ⟨p, off, none⟩) n c, .int .i64 ((k : Int) + 1)] W fun e w' => e = .returned (.tuple #[.agg #[.int .i64 ((k : Int) + 1), .int .i64 (rAt (rawE l k) : Int), .int .i64 (rLen (rawE l k) : Int), .int .i64 (rTag (rawE l k))], .bool (hasE (rawE l k))]) ∧ Below W.heap.size W w') := ⟨fun W k hk hW => refEntry_ok _ n c l k W hn (by omega) hnc (hrd.below hW) hk⟩
  have HT : Hidden (∀ W, Below w.heap.size w W → Calls Tryz.prog 82 #[.slice (some ⟨p, off, none⟩) n c] W fun e w' => ∃ A' c', e = .returned (.slice A' (takenL l).length c') ∧ (takenL l).length ≤ c' ∧ RdX tcells 2 w' A' (takenL l) ∧ Below W.heap.size W w') := ⟨fun W hW => rtaken_ok _ n c l W hn hr hnc (hrd.below hW)⟩
  have hcast : (((n - 288 : Nat)) : Int) = (n : Int) - 288 := by omega
  have HF : Hidden (∀ A c W, RdX tcells 2 W A (takenL l) → Calls Tryz.prog 81 #[.int .i64 ((n : Int) - 288), .slice A (takenL l).length c, .int .i64 sz] W fun e w' => e = .returned (.int .i64 (refF sz (holesX ((n : Int) - 288) (takenL l))).1) ∧ Below W.heap.size W w') := ⟨fun A c W hW => by
    have h := rfit_any (n - 288) A (takenL l).length c (takenL l) W rfl hW (by rw [hcast, ← hn]; exact good_chk hg) sz
    rw [hcast] at h
    exact h⟩
  have HFF := Hidden.mk (refF_fit (good_chk hg) sz (by omega))
  rw [hn] at HFF
  have HP : Hidden (∀ (W : World) (k a : Nat), k < 40 → 288 ≤ a → (a : Int) + sz ≤ n → Below w.heap.size w W → Calls Tryz.prog 83 #[.slice (some ⟨p, off, none⟩) n c, .agg #[.int .i64 ((k : Int) + 1), .int .i64 (a : Int), .int .i64 sz, .int .i64 tg]] W fun e w' => ∃ g c', e = .returned (.tuple #[.slice (some ⟨g, 0, none⟩) n c', .int .i64 0]) ∧ W.heap.size ≤ g ∧ Row w' 5 g c' (putEnt l ((k : Int) + 1) (a : Int) sz tg) ∧ Below W.heap.size W w') := ⟨fun W k a hk ha han hW => refPutEntry_own _ n c l _ _ _ _ W hn hr (hrd.below hW) (handleB_true.2 (by omega)) (tagB_true.2 (by omega)) (lenB_true.2 (by omega)) (withinB_true.2 (by omega))⟩
  have HPL : Hidden (∀ (k a : Nat), k < 40 → (putEnt l ((k : Int) + 1) (a : Int) sz tg).length = n) := ⟨fun k a hk => by rw [putEnt_len _ _ _ _ _ (by omega) (by omega) (by omega)]; exact hn⟩
  have HAY := Hidden.mk (fun k hk hf => alloc_yesT (l := l) h1 h2 t0 t15 (k := k) hk hf)
  have HAN := Hidden.mk (alloc_noT (l := l) h1 h2 t0 t15)
  rw [hn] at HAY HAN
  have HAA : Hidden (fitE ((n : Int) - 288) (takenL l) sz = 0 → allocA l sz = fitA ((n : Int) - 288) (takenL l) sz + 288) := ⟨fun _ => by rw [← hn]; rfl⟩
  have s0 : IntKind.i64.wrap ((n : Int) - 288) = (n : Int) - 288 := IntWalk.i64_in _ (by omega)
  have d1 : decide (sz < 1) = false := by simp; omega
  have d2 : decide (1000 < sz) = false := by simp; omega
  have d3 : decide (tg < 0) = false := by simp; omega
  have d4 : decide (15 < tg) = false := by simp; omega
  generalize hfm : (refF sz (holesX ((n : Int) - 288) (takenL l))).1 = fm at *
  clear hfm hrd hg hr hcast
  go_enter Tryz.func26, Tryz.ntmps26
  go_wp2_with fail
  go_loopg [9] 40 (fun q hv wr => ∃ k : Nat, k ≤ 40 ∧ q = 40 - k ∧ hv = .int .i64 ((k : Int) + 1) ∧ Hidden ((∀ i, i < k → hasE (rawE l i) = true) ∧ Below w.heap.size w wr))
  case atStart => exact ⟨0, by omega, rfl, rfl, ⟨fun i hi => by omega, Below.refl _ _⟩⟩
  case round =>
    obtain ⟨k, hk, rfl, rfl, hst⟩ := hrel
    have HST := Hidden.mk hst.out
    clear hst
    by_cases hlt : k < 40
    · have k0 : ((k : Int) + 1) ≤ 40 := by omega
      have dk : decide ((k : Int) + 1 ≤ 40) = true := by simp; omega
      have s1 : IntKind.i64.wrap ((k : Int) + 1 + 1) = (k : Int) + 1 + 1 := IntWalk.i64_in _ (by omega)
      have HEK := Hidden.mk (HE.out wr k hlt HST.out.2)
      have HFK : Hidden (hasE (rawE l k) = false → fH l 40 = k + 1) := ⟨fun h => fH_at hlt h HST.out.1⟩
      have HFT : Hidden (hasE (rawE l k) = true → ∀ i, i < k + 1 → hasE (rawE l i) = true) := ⟨fun h i hi => by
        by_cases e : i = k
        · rw [e]; exact h
        · exact HST.out.1 i (by omega)⟩
      generalize hasE (rawE l k) = hs at *
      generalize (rAt (rawE l k) : Int) = a1 at *
      generalize (rLen (rawE l k) : Int) = a2 at *
      generalize rTag (rawE l k) = a3 at *
      go_wp2_with fail
      refine HEK.out.mono ?_
      rintro e w1 ⟨rfl, hb1⟩
      have HB1 : Hidden (Below w.heap.size w (w1.alloc (.cells #[.int .i64 ((k : Int) + 1), .int .i64 a1, .int .i64 a2, .int .i64 a3] 89))) := ⟨(HST.out.2.trans (hb1.mono HST.out.2.size)).alloc (HST.out.2.trans (hb1.mono HST.out.2.size)).size _⟩
      clear hb1 HEK
      cases hs with
      | true =>
        have HA := Hidden.mk (HFT.out rfl)
        clear HFT HFK
        go_wp2_with fail
        generalize w1.alloc (.cells #[.int .i64 ((k : Int) + 1), .int .i64 a1, .int .i64 a2, .int .i64 a3] 89) = w2 at *
        go_roundg (40 - (k + 1))
        case measure => omega
        case rel => exact ⟨k + 1, by omega, rfl, by go_num, ⟨HA.out, HB1.out⟩⟩
      | false =>
        have HFH := Hidden.mk (HFK.out rfl)
        have dg : decide ((40 : Int) < (k : Int) + 1) = false := by simp; omega
        have dg' : decide (40 < k + 1) = false := by simp; omega
        have HBW := Hidden.mk HB1.out
        clear HFT HFK HST HE
        go_wp2_with fail
        generalize w1.alloc (.cells #[.int .i64 ((k : Int) + 1), .int .i64 a1, .int .i64 a2, .int .i64 a3] 89) = w2 at *
        refine (HT.out _ HBW.out).mono ?_
        rintro e w3 ⟨A3, c3, rfl, hc3, hr3, hb3⟩
        have HB3 := Hidden.mk (HBW.out.trans (hb3.mono HBW.out.size))
        have HFC := Hidden.mk (HF.out A3 c3 w3 hr3)
        clear hc3 hr3 hb3 HT HF
        go_wp2_with fail
        refine HFC.out.mono ?_
        rintro e w4 ⟨rfl, hb4⟩
        have HB4 := Hidden.mk (HB3.out.trans (hb4.mono HB3.out.size))
        clear hb4 HFC HB3
        rcases HFF.out with ⟨f1, f2, f3⟩ | ⟨f1, f2, f3⟩
        · have df : decide (fm < 0) = true := by simpa using f1
          have HNO := Hidden.mk (HAN.out (.inr (by rw [f2]; decide)))
          clear f1 f2 f3 HFF HAN HAY HP HPL HAA
          go_wp2_with fail
          go_ret3
          exact ⟨HB4.out, .inr ⟨by rw [HNO.out]; decide, by rw [HNO.out]; rfl⟩⟩
        · have df : decide (fm < 0) = false := by simp; omega
          obtain ⟨y1, y2, a, y3, y4, y5, y6⟩ := HAY.out k HFH.out f2
          have haa := HAA.out f2
          have hfa : fm + 288 = (a : Int) := by rw [← y3, haa, ← f3]
          have sa : IntKind.i64.wrap (fm + 288) = (a : Int) := by rw [IntWalk.i64_in _ (by omega)]; exact hfa
          have HP4 := Hidden.mk (HP.out w4 k a hlt y4 y5 HB4.out)
          have HPK := Hidden.mk (HPL.out k a hlt)
          obtain ⟨m, rfl⟩ := Int.eq_ofNat_of_zero_le (show 0 ≤ sz by omega)
          have HY := Hidden.mk (And.intro y1 (And.intro y2 y6))
          have y5' : a + m ≤ n := by omega
          generalize putEnt l ((k : Int) + 1) (a : Int) (m : Int) tg = P at *
          clear f1 f2 f3 y1 y2 y3 y5 y6 haa HFF HAN HAY HP HPL HAA
          go_wp2_with fail
          refine HP4.out.mono ?_
          rintro e w5 ⟨g5, c5, rfl, hg5, hrow5, hb5⟩
          have HB5 := Hidden.mk (HB4.out.trans (hb5.mono HB4.out.size))
          have HWP := Hidden.mk (refWipe_ok g5 0 n c5 P a m w5 HPK.out (by omega) (by omega) y5' hrow5.rd)
          clear hg5 hrow5 hb5 HP4 HB4
          go_wp2_with fail
          refine HWP.out.mono ?_
          rintro e w6 ⟨g6, c6, rfl, hg6, hc6, hrow6, hb6⟩
          have HB6 := Hidden.mk (HB5.out.trans (hb6.mono HB5.out.size))
          have HF6 : Hidden (n ≤ c6 ∧ w.heap.size ≤ g6 ∧ Rd w6 (some ⟨g6, 0, none⟩) (allocL l (m : Int) tg)) := ⟨hc6, Nat.le_trans HB5.out.size hg6, by rw [HY.out.2.2]; exact hrow6.rd⟩
          clear hg6 hc6 hrow6 hb6 HWP HB5
          go_wp2_with fail
          go_ret3
          exact ⟨HB6.out, .inl ⟨HY.out.1, g6, c6, by rw [HY.out.2.1]; rfl, HF6.out.1, HF6.out.2.1, HF6.out.2.2⟩⟩
    · have hk40 : k = 40 := by omega
      have dk : decide ((k : Int) + 1 ≤ 40) = false := by simp; omega
      have HZ := Hidden.mk (fH_zero (l := l) (fun i hi => HST.out.1 i (by omega)))
      have HNO := Hidden.mk (HAN.out (.inl HZ.out))
      have dg : decide ((40 : Int) < (k : Int) + 1) = true := by simp; omega
      have dg' : decide (40 < k + 1) = true := by simp; omega
      have HBW := Hidden.mk HST.out.2
      clear HST HE HZ HAN HAY HP HPL HAA HFF
      go_wp2_with fail
      refine (HT.out _ HBW.out).mono ?_
      rintro e w3 ⟨A3, c3, rfl, hc3, hr3, hb3⟩
      have HB3 := Hidden.mk (HBW.out.trans (hb3.mono HBW.out.size))
      have HFC := Hidden.mk (HF.out A3 c3 w3 hr3)
      clear hc3 hr3 hb3 HT HF
      go_wp2_with fail
      refine HFC.out.mono ?_
      rintro e w4 ⟨rfl, hb4⟩
      have HB4 := Hidden.mk (HB3.out.trans (hb4.mono HB3.out.size))
      clear hb4 HFC HB3
      go_wp2_with fail
      go_ret3
      exact ⟨HB4.out, .inr ⟨by rw [HNO.out]; decide, by rw [HNO.out]; rfl⟩⟩
set_option maxRecDepth 100000 in
theorem ralloc_all (p off n c : Nat) (l : Bytes) (sz tg : Int) (w : World) (hn : l.length = n) (hg : Good l) (hnc : n ≤ c) (hrd : Rd w (some ⟨p, off, none⟩) l) :
    Calls Tryz.prog 26 #[.slice (some ⟨p, off, none⟩) n c, .int .i64 sz, .int .i64 tg] w fun e w' => RaAnsT w w' e n l sz tg := by
  by_cases hok : (1 ≤ sz ∧ sz ≤ 1000) ∧ 0 ≤ tg ∧ tg ≤ 15
  · exact ralloc_in p off n c l sz tg w hn hg hnc hrd hok.1.1 hok.1.2 hok.2.1 hok.2.2
  have hE : Hidden (allocE l sz tg = 1) := ⟨by
    unfold allocE
    rw [if_pos]
    by_cases h : 1 ≤ sz ∧ sz ≤ 1000
    · right
      cases ht : tagB tg with
      | false => rfl
      | true => exact absurd ⟨h, tagB_true.1 ht⟩ hok
    · left
      cases hl : lenB sz with
      | false => rfl
      | true => exact absurd (lenB_true.1 hl) h⟩
  clear hn hg hnc hrd
  unfold RaAnsT
  go_enter Tryz.func26, Tryz.ntmps26
  by_cases h1 : sz < 1
  · have d1 : decide (sz < 1) = true := by simpa using h1
    clear hok
    go_wp2_with fail
    go_ret3
    exact ⟨Below.refl _ _, .inr ⟨by rw [hE.out]; decide, by rw [hE.out]; rfl⟩⟩
  have d1 : decide (sz < 1) = false := by simpa using h1
  by_cases h2 : 1000 < sz
  · have d2 : decide (1000 < sz) = true := by simpa using h2
    clear hok
    go_wp2_with fail
    go_ret3
    exact ⟨Below.refl _ _, .inr ⟨by rw [hE.out]; decide, by rw [hE.out]; rfl⟩⟩
  have d2 : decide (1000 < sz) = false := by simpa using h2
  by_cases h3 : tg < 0
  · have d3 : decide (tg < 0) = true := by simpa using h3
    clear hok
    go_wp2_with fail
    go_ret3
    exact ⟨Below.refl _ _, .inr ⟨by rw [hE.out]; decide, by rw [hE.out]; rfl⟩⟩
  have d3 : decide (tg < 0) = false := by simpa using h3
  have d4 : decide (15 < tg) = true := by simp; omega
  clear hok
  go_wp2_with fail
  go_ret3
  exact ⟨Below.refl _ _, .inr ⟨by rw [hE.out]; decide, by rw [hE.out]; rfl⟩⟩
end Go.Proofs.YtoieifphklodoaaGreatDoor
