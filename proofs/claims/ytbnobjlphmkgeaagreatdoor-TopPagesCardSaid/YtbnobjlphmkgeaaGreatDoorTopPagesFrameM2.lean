/- Contracts and plain laws, put together: PagesP, DevA, Pages1, Pages2, Pages3, Pages4, Pages5, PagesS, PagesT, Pages6, Pages7, PagesU, Lst0, ErrI, PagesSf, LayC, View1, View2, View3, LayK, Keys1, View5, View6, ViewP, View7, DiffP, Diff0, Diff1, DiffQ, Diff2, DiffA, DiffA1, Diff3, Img1, Img2. -/
import Derived.Test.YtbnobjlphmkgeaaGreatDoorTopPagesFrameM1
import Derived.Deep.LoopGhost
import Derived.Deep.DeepCutAuto
import Derived.Deep.CutBlock
import Derived.Laws.BitsLemmas
import Derived.Shelf.SlGeneric
import Derived.Shelf.SlMaps.Clone
import Derived.Ground.SlmcProg
import Derived.Shelf.SlIterI.Nil
import Derived.Shelf.SortM.Plain
import Derived.Shelf.SortM.SortNone
import Derived.Ground.GgzProg
import Derived.Ground.SlgmProg
import Derived.Deep.RegionHeld3
import Derived.Deep.AppendLies
import Derived.Laws.CopyOwn
/- Pages: the plain words: what a device becomes while pages are opened, committed; what is safe. -/
namespace Go.Proofs.YtbnobjlphmkgeaaGreatDoor
open Go.RowKit

/-- Write, Flush, Read of whatever: what becomes of the device, the fault -/
def wrD (D : Dv) (i : Int) (b : Bytes) : Dv × Nat :=
  if i < 0 ∨ (D.S.length : Int) ≤ i then (D, 1) else if b.length ≠ 32 then (D, 3) else if D.down = true then (D, 9) else (stepD (putD D i.toNat b), if D.left = 0 then 9 else 0)
def flD (D : Dv) : Dv × Nat := if D.down = true then (D, 9) else if D.left = 0 then (stepD D, 9) else (flushD (stepD D), 0)
/-- one step behind the other, till a fault -/
def runE {X : Type} (f : Nat → X → Dv → Dv × Nat) : Nat → List X → Dv → Dv × Nat
  | _, [], D => (D, 0)
  | k, x :: r, D => if (f k x D).2 = 0 then runE f (k + 1) r (f k x D).1 else f k x D
theorem runE_cons {X : Type} (f : Nat → X → Dv → Dv × Nat) (k : Nat) (x : X) (r : List X) (D : Dv) : runE f k (x :: r) D = if (f k x D).2 = 0 then runE f (k + 1) r (f k x D).1 else f k x D := rfl
theorem runE_app {X : Type} (f : Nat → X → Dv → Dv × Nat) : ∀ (l r : List X) (k : Nat) (D : Dv), (runE f k l D).2 = 0 → runE f k (l ++ r) D = runE f (k + l.length) r (runE f k l D).1
  | [], r, k, D, _ => rfl
  | x :: l, r, k, D, h => by
    rw [runE_cons] at h
    rw [List.cons_append, runE_cons, runE_cons f k x l D]
    by_cases h0 : (f k x D).2 = 0
    · rw [if_pos h0] at h ⊢
      rw [if_pos h0, runE_app f l r (k + 1) _ h, List.length_cons]
      congr 1
      omega
    · rw [if_neg h0] at h
      exact absurd h h0
theorem runE_step {X : Type} (f : Nat → X → Dv → Dv × Nat) (l : List X) (k j : Nat) (D : Dv) (hj : j < l.length) (h : (runE f k (l.take j) D).2 = 0) :
    ((f (k + j) l[j] (runE f k (l.take j) D).1).2 = 0 → runE f k (l.take (j + 1)) D = f (k + j) l[j] (runE f k (l.take j) D).1) ∧
    ((f (k + j) l[j] (runE f k (l.take j) D).1).2 ≠ 0 → runE f k l D = f (k + j) l[j] (runE f k (l.take j) D).1) := by
  have hl : (l.take j).length = j := by simp; omega
  constructor
  · intro h0
    rw [List.take_succ_eq_append_getElem hj, runE_app f _ _ k D h, hl]
    show (if _ = 0 then _ else _) = _
    rw [if_pos h0]
    show (_, 0) = _
    rw [← h0]
  · intro h0
    have e : l = l.take j ++ (l[j] :: l.drop (j + 1)) := by rw [← List.drop_eq_getElem_cons hj, List.take_append_drop]
    conv => lhs; rw [e]
    rw [runE_app f _ _ k D h, hl]
    show (if _ = 0 then _ else _) = _
    rw [if_neg h0]
def andThen (a : Dv × Nat) (g : Dv → Dv × Nat) : Dv × Nat := if a.2 = 0 then g a.1 else a
/-- how many pages there are; the sector behind a mark -/
def nP (D : Dv) : Nat := min (D.S.length - 48) 200
theorem nP_le (D : Dv) : nP D ≤ 200 ∧ nP D + 48 ≤ max D.S.length 48 := by unfold nP; omega
def areaP (a k : Nat) : Nat := 2 + 23 * a + k
/-- a mark: its stamp, and pages -/
def mkL (b : Bytes) : Bytes := ((bodyOf b).drop 1).take ((bodyOf b).getD 0 0).toNat
def markOf (n : Nat) (b : Bytes) : Nat × Bytes :=
  if (openF b).2.2 ≠ 0 then (0, []) else if 23 < ((bodyOf b).getD 0 0).toNat then (0, []) else if (mkL b).all (fun x => decide (x.toNat < n)) = true then (stampOf b, mkL b) else (0, [])
def pick (a b : Nat × Bytes) : Nat × Nat × Bytes := if a.1 < b.1 then (b.1, 1, b.2) else (a.1, 0, a.2)
def openMk (D : Dv) : Nat × Nat × Bytes := pick (markOf (nP D) (readD D 0)) (markOf (nP D) (readD D 1))
def copyF (a : Nat) : Nat → UInt8 → Dv → Dv × Nat := fun k x D => wrD D (48 + (x.toNat : Int)) (readD D (areaP a k))
def openP (D : Dv) : Dv × Nat :=
  if D.S.length < 49 then (D, 1) else if D.down = true then (D, 9) else if (openMk D).1 = 0 then (D, 5) else andThen (runE (copyF (openMk D).2.1) 0 (openMk D).2.2 D) flD
/-- what is wrong with pages that are to be committed -/
def chkL (n : Nat) : List Int → List (Int × Bytes) → Nat
  | _, [] => 0
  | seen, x :: r => if x.1 < 0 ∨ (n : Int) ≤ x.1 then 1 else if x.2.length ≠ 32 then 3 else if x.1 ∈ seen then 7 else chkL n (seen ++ [x.1]) r
def chkP (n : Nat) (l : List (Int × Bytes)) : Nat := if 23 < l.length then 4 else chkL n [] l
def areaF (a : Nat) : Nat → Int × Bytes → Dv → Dv × Nat := fun k x D => wrD D (areaP a k) x.2
def pageF : Nat → Int × Bytes → Dv → Dv × Nat := fun _ x D => wrD D (48 + x.1) x.2
def markF (i : Nat) (b : Bytes) (D : Dv) : Dv × Nat := wrD D (i : Int) b
def numsB (l : List (Int × Bytes)) : Bytes := l.map fun x => UInt8.ofNat x.1.toNat
def markB (nx : Nat) (l : List (Int × Bytes)) : Bytes := makeB nx (UInt8.ofNat l.length :: numsB l)
def commitP (st n : Nat) (l : List (Int × Bytes)) (D : Dv) : Dv × Nat :=
  if chkP n l ≠ 0 then (D, chkP n l) else if D.down = true then (D, 9) else if l.length = 0 then (D, 0) else if 4294967295 < st + 1 then (D, 1) else
    andThen (andThen (andThen (andThen (andThen (runE (areaF ((st + 1) % 2)) 0 l D) flD) (markF ((st + 1) % 2) (markB (st + 1) l))) flD) (runE pageF 0 l)) flD
/-- what every device is -/
structure WfD (D : Dv) : Prop where
  nd : D.O.Nodup
  lt : ∀ i ∈ D.O, i < D.S.length
  sl : ∀ i, i < D.S.length → (D.S.getD i []).length = 32
  ml : ∀ i ∈ D.O, (D.M i).length = 32
theorem WfD.rd {D : Dv} (h : WfD D) {i : Nat} (hi : i < D.S.length) : (readD D i).length = 32 := by
  unfold readD; split
  · exact h.ml i ‹_›
  · exact h.sl i hi
theorem DevB.wf {w0 w : World} {F : Nat → Prop} {d : Nat} {D : Dv} (h : DevB w0 w F d D) : WfD D := by
  obtain ⟨_, _, _, h1, h2, h3, h4, _⟩ := h.lens
  exact ⟨h2, h1, fun i hi => by rw [show D.S.getD i [] = D.S[i] by simp [hi]]; exact h3 i hi, h4⟩
theorem readD_step (D : Dv) (i : Nat) : readD (stepD D) i = readD D i := rfl
theorem readD_put (D : Dv) (i : Nat) (b : Bytes) (j : Nat) : readD (putD D i b) j = if j = i then b else readD D j := by
  unfold readD
  by_cases hj : j = i
  · subst hj
    rw [if_pos ((putD_mem D j b j).2 (.inr rfl)), if_pos rfl]
    show (if j = j then b else D.M j) = b
    rw [if_pos rfl]
  · rw [if_neg hj]
    by_cases ho : j ∈ D.O
    · rw [if_pos ((putD_mem D i b j).2 (.inl ho)), if_pos ho]
      show (if j = i then b else D.M j) = D.M j
      rw [if_neg hj]
    · rw [if_neg (fun h => ((putD_mem D i b j).1 h).elim ho hj), if_neg ho]; rfl
/-- what a write does -/
theorem wrD_cases (D : Dv) (i : Int) (b : Bytes) : ((wrD D i b).1 = D ∧ (wrD D i b).2 ≠ 0) ∨ (0 ≤ i ∧ i < D.S.length ∧ b.length = 32 ∧ D.down = false ∧ (wrD D i b).1 = stepD (putD D i.toNat b) ∧ (wrD D i b).2 = if D.left = 0 then 9 else 0) := by
  unfold wrD
  by_cases h1 : i < 0 ∨ (D.S.length : Int) ≤ i
  · rw [if_pos h1]; exact .inl ⟨rfl, by simp⟩
  rw [if_neg h1]
  by_cases h2 : b.length ≠ 32
  · rw [if_pos h2]; exact .inl ⟨rfl, by simp⟩
  rw [if_neg h2]
  by_cases h3 : D.down = true
  · rw [if_pos h3]; exact .inl ⟨rfl, by simp⟩
  · rw [if_neg h3]; exact .inr ⟨by omega, by omega, by omega, by simpa using h3, rfl, rfl⟩
theorem wrD_ok {D : Dv} {i : Nat} {b : Bytes} (hi : i < D.S.length) (hb : b.length = 32) (hd : D.down = false) : wrD D (i : Int) b = (stepD (putD D i b), if D.left = 0 then 9 else 0) := by
  unfold wrD
  rw [if_neg (by omega), if_neg (by omega), if_neg (by rw [hd]; decide), Int.toNat_natCast]
theorem wrD_len (D : Dv) (i : Int) (b : Bytes) : (wrD D i b).1.S = D.S := by
  rcases wrD_cases D i b with ⟨h, _⟩ | ⟨_, _, _, _, h, _⟩ <;> rw [h]
  rfl
theorem wrD_9 {D : Dv} {i : Nat} {b : Bytes} (hi : i < D.S.length) (hb : b.length = 32) (h : (wrD D (i : Int) b).2 ≠ 0) : (wrD D (i : Int) b).2 = 9 := by
  cases hd : D.down with
  | false =>
    rw [wrD_ok hi hb hd] at h ⊢
    dsimp only at h ⊢
    by_cases h0 : D.left = 0
    · rw [if_pos h0]
    · rw [if_neg h0] at h; exact absurd rfl h
  | true => unfold wrD; rw [if_neg (by omega), if_neg (by omega), if_pos hd]
theorem wrD_down {D : Dv} {i : Int} {b : Bytes} (h : (wrD D i b).2 = 0) : (wrD D i b).1.down = false := by
  rcases wrD_cases D i b with ⟨_, h'⟩ | ⟨_, _, _, _, h1, h2⟩
  · exact absurd h h'
  · rw [h1]
    rw [h2] at h
    split at h
    · cases h
    · show (D.left == 0) = false
      simpa using ‹¬ D.left = 0›
theorem wrD_wf {D : Dv} (hw : WfD D) (i : Int) (b : Bytes) : WfD (wrD D i b).1 := by
  rcases wrD_cases D i b with ⟨h, _⟩ | ⟨h0, h1, h2, _, h, _⟩
  · rw [h]; exact hw
  · rw [h]
    have hm := putD_mem D i.toNat b
    refine ⟨?_, fun k hk => ?_, hw.sl, fun k hk => ?_⟩
    · show (if i.toNat ∈ D.O then D.O else D.O ++ [i.toNat]).Nodup
      split
      · exact hw.nd
      · exact List.nodup_append.2 ⟨hw.nd, by simp, fun a ha b hb => by
          simp only [List.mem_singleton] at hb
          intro e; subst hb; exact absurd (e ▸ ha) ‹_›⟩
    · rcases (hm k).1 hk with h | h
      · exact hw.lt k h
      · show k < D.S.length; omega
    · show (if k = i.toNat then b else D.M k).length = 32
      split
      · exact h2
      · rcases (hm k).1 hk with h | h
        · exact hw.ml k h
        · contradiction
theorem flD_cases (D : Dv) : ((flD D).1.S = D.S ∧ (∀ j, readD (flD D).1 j = readD D j) ∧ (flD D).2 = 9 ∧ (flD D).1.O = D.O ∧ (flD D).1.M = D.M) ∨ (D.down = false ∧ flD D = (flushD (stepD D), 0)) := by
  unfold flD
  by_cases h1 : D.down = true
  · rw [if_pos h1]; exact .inl ⟨rfl, fun _ => rfl, rfl, rfl, rfl⟩
  rw [if_neg h1]
  by_cases h2 : D.left = 0
  · rw [if_pos h2]; exact .inl ⟨rfl, fun _ => rfl, rfl, rfl, rfl⟩
  · rw [if_neg h2]; exact .inr ⟨by simpa using h1, rfl⟩
theorem flushD_get (D : Dv) (j : Nat) (hj : j < D.S.length) : (flushD D).S.getD j [] = readD D j ∧ readD (flushD D) j = readD D j := by
  have h : (flushD D).S.getD j [] = readD D j := by simp [flushD, hj]
  exact ⟨h, by unfold readD at *; rw [if_neg (by simp [flushD])]; exact h⟩
theorem flD_len (D : Dv) : (flD D).1.S.length = D.S.length := by
  rcases flD_cases D with ⟨h, _⟩ | ⟨_, h⟩
  · rw [h]
  · rw [h]; simp [flushD, stepD]
theorem flD_wf {D : Dv} (hw : WfD D) : WfD (flD D).1 := by
  rcases flD_cases D with ⟨h, _, _, h2, h3⟩ | ⟨_, h⟩
  · exact ⟨by rw [h2]; exact hw.nd, by rw [h2, h]; exact hw.lt, by rw [h]; exact hw.sl, by rw [h2, h3]; exact hw.ml⟩
  · rw [h]
    refine ⟨by simp [flushD], fun i hi => by simp [flushD] at hi, fun i hi => ?_, fun i hi => by simp [flushD] at hi⟩
    have hi' : i < (stepD D).S.length := by simpa [flushD] using hi
    rw [(flushD_get (stepD D) i hi').1]
    exact hw.rd hi'
theorem flD_zero {D : Dv} (h : (flD D).2 = 0) : (flD D).1 = flushD (stepD D) ∧ (flD D).1.down = false ∧ (flD D).1.O = [] := by
  unfold flD at *
  by_cases h1 : D.down = true
  · rw [if_pos h1] at h; cases h
  rw [if_neg h1] at *
  by_cases h2 : D.left = 0
  · rw [if_pos h2] at h; cases h
  · rw [if_neg h2]
    exact ⟨rfl, by show (D.left == 0) = false; simpa using h2, rfl⟩
theorem flD_nz {D : Dv} (h : (flD D).2 ≠ 0) : (flD D).2 = 9 := by
  rcases flD_cases D with ⟨_, _, h', _⟩ | ⟨_, h'⟩
  · exact h'
  · rw [h'] at h; exact absurd rfl h
/-- a sector that is the same whatever is kept of what is pending -/
def Stab (D : Dv) (i : Nat) (v : Bytes) : Prop := D.S.getD i [] = v ∧ readD D i = v
theorem Stab.wr {D : Dv} {j : Nat} {v : Bytes} (h : Stab D j v) (i : Int) (b : Bytes) (hne : i ≠ j) : Stab (wrD D i b).1 j v := by
  rcases wrD_cases D i b with ⟨h', _⟩ | ⟨h0, _, _, _, h', _⟩
  · rw [h']; exact h
  · rw [h']
    refine ⟨h.1, ?_⟩
    rw [readD_step, readD_put, if_neg (by omega)]
    exact h.2
theorem Stab.fl {D : Dv} {j : Nat} {v : Bytes} (h : Stab D j v) (hj : j < D.S.length) : Stab (flD D).1 j v := by
  rcases flD_cases D with ⟨h1, h2, _⟩ | ⟨_, h1⟩
  · exact ⟨by rw [h1]; exact h.1, by rw [h2]; exact h.2⟩
  · rw [h1]
    have := flushD_get (stepD D) j hj
    exact ⟨this.1.trans h.2, this.2.trans h.2⟩
theorem stab_flushed {D : Dv} (h : (flD D).2 = 0) {j : Nat} (hj : j < D.S.length) : Stab (flD D).1 j (readD D j) := by
  rw [(flD_zero h).1]
  exact flushD_get (stepD D) j hj
theorem Stab.none_ {D : Dv} (h : D.O = []) (j : Nat) : Stab D j (readD D j) := ⟨by unfold readD; rw [h]; rfl, rfl⟩
/-- what a sector may be behind a crash -/
theorem crash_mix {D : Dv} (hw : WfD D) (keep : List Bool) (torn : Int) (c i : Nat) (hc : c ≤ 32) (hi : i < D.S.length) :
    ∃ k, k ≤ 32 ∧ readD (crashD D keep torn c) i = (readD D i).take k ++ (D.S.getD i []).drop k := by
  obtain ⟨h1, h2⟩ := crash_read D keep torn c i hw.nd hw.lt
  have hsl := hw.sl i hi
  by_cases hO : i ∈ D.O
  · obtain ⟨a, ha⟩ := List.mem_iff_getElem?.1 hO
    have hal := (List.getElem?_eq_some_iff.1 ha).1
    rw [h2 a hal ha]
    have hg : D.O.getD a 0 = i := by rw [List.getD_eq_getElem?_getD, ha]; rfl
    have hr : readD D i = D.M i := by unfold readD; rw [if_pos hO]
    have hml := hw.ml i hO
    unfold crash1
    rw [hg, hr]
    by_cases ht : (a : Int) = torn
    · rw [if_pos ht]
      refine ⟨c, hc, ?_⟩
      unfold splice
      simp only [List.take_zero, List.nil_append, Nat.zero_add]
      rw [List.length_take, hml, Nat.min_eq_left hc]
    · rw [if_neg ht]
      by_cases hk : keep.getD a false = true
      · rw [if_pos hk]
        exact ⟨32, by omega, by rw [List.take_of_length_le (by omega), List.drop_of_length_le (by omega), List.append_nil]⟩
      · rw [if_neg hk]
        exact ⟨0, by omega, by simp⟩
  · rw [h1 hO]
    exact ⟨0, by omega, by simp⟩
theorem crash_wf {D : Dv} (hw : WfD D) (keep : List Bool) (torn : Int) (c : Nat) (hc : c ≤ 32) : WfD (crashD D keep torn c) := by
  refine ⟨by simp [crashD], fun i hi => by simp [crashD] at hi, fun i hi => ?_, fun i hi => by simp [crashD] at hi⟩
  have hi' : i < D.S.length := by simpa [crashD, crashS_len] using hi
  obtain ⟨k, hk, h⟩ := crash_mix hw keep torn c i hc hi'
  have hr : readD (crashD D keep torn c) i = (crashD D keep torn c).S.getD i [] := by unfold readD; rw [if_neg (by simp [crashD])]
  rw [← hr, h, List.length_append, List.length_take, List.length_drop, hw.rd hi', hw.sl i hi']
  omega
theorem crash_len (D : Dv) (keep : List Bool) (torn : Int) (c : Nat) : (crashD D keep torn c).S.length = D.S.length := by simp [crashD, crashS_len]
theorem Stab.crash {D : Dv} {i : Nat} {v : Bytes} (h : Stab D i v) (hw : WfD D) (hi : i < D.S.length) (keep : List Bool) (torn : Int) (c : Nat) (hc : c ≤ 32) : Stab (crashD D keep torn c) i v := by
  obtain ⟨k, hk, h'⟩ := crash_mix hw keep torn c i hc hi
  have hr : readD (crashD D keep torn c) i = (crashD D keep torn c).S.getD i [] := by unfold readD; rw [if_neg (by simp [crashD])]
  have hv : readD (crashD D keep torn c) i = v := by rw [h', h.1, h.2, List.take_append_drop]
  exact ⟨hr ▸ hv, hv⟩
end Go.Proofs.YtbnobjlphmkgeaaGreatDoor
/- A device: Write, Flush, Read of whatever, in one form each. -/
namespace Go.Proofs.YtbnobjlphmkgeaaGreatDoor
open Go.RowKit Go.Maps Go.ChangeMaps

theorem errV0 : errV 0 = .nilIface := rfl
theorem errV_pos {n : Nat} (h : n ≠ 0) : errV n = .iface 111 (.int .i64 n) := by unfold errV; rw [if_neg h]
section
variable {w0 w : World} {F : Nat → Prop} {d : Nat} {D : Dv}
theorem DevB.write_all (h : DevB w0 w F d D) (i : Int) (A : Option Addr) (n c : Nat) (b : Bytes) (hn : b.length = n) (hrd : Rd w A b) (hAF : n = 32 → ∀ ad, A = some ad → ¬ F ad.block) :
    Calls Tryz.prog 101 #[.pointer (some ⟨d, 0, none⟩), .int .i64 i, .slice A n c] w fun e w' => e = .returned (errV (wrD D i b).2) ∧ ∃ F', DevB w0 w' F' d (wrD D i b).1 ∧ Keep F w w' ∧ ∀ k, F' k → F k ∨ w.heap.size ≤ k := by
  by_cases h1 : i < 0 ∨ (D.S.length : Int) ≤ i
  · have e : wrD D i b = (D, 1) := by unfold wrD; rw [if_pos h1]
    rw [e]
    refine (h.write_e1 i A n c h1).mono ?_
    rintro e w' ⟨rfl, rfl⟩
    exact ⟨rfl, F, h, Keep.refl _ _, fun k hk => .inl hk⟩
  · obtain ⟨i, rfl⟩ : ∃ k : Nat, i = k := ⟨i.toNat, by omega⟩
    have hi : i < D.S.length := by omega
    by_cases h2 : b.length ≠ 32
    · have e : wrD D (i : Int) b = (D, 3) := by unfold wrD; rw [if_neg h1, if_pos h2]
      rw [e]
      refine (h.write_e3 i A n c hi (by omega)).mono ?_
      rintro e w' ⟨rfl, rfl⟩
      exact ⟨rfl, F, h, Keep.refl _ _, fun k hk => .inl hk⟩
    · have hb : b.length = 32 := by omega
      obtain rfl : n = 32 := by omega
      cases hd : D.down with
      | true =>
        have e : wrD D (i : Int) b = (D, 9) := by unfold wrD; rw [if_neg h1, if_neg h2, if_pos hd]
        rw [e]
        refine (h.write_e9 i A c hi hd).mono ?_
        rintro e w' ⟨rfl, rfl⟩
        exact ⟨rfl, F, h, Keep.refl _ _, fun k hk => .inl hk⟩
      | false =>
        rw [wrD_ok hi hb hd]
        refine (h.write i A c b hi hd hb hrd (hAF rfl)).mono ?_
        rintro e w' ⟨rfl, F', hd', hk, hF⟩
        refine ⟨?_, F', hd', hk, hF⟩
        dsimp only
        unfold powV
        split <;> rfl
theorem DevB.flush_all (h : DevB w0 w F d D) :
    Calls Tryz.prog 102 #[.pointer (some ⟨d, 0, none⟩)] w fun e w' => e = .returned (errV (flD D).2) ∧ DevB w0 w' F d (flD D).1 ∧ Keep F w w' := by
  cases hd : D.down with
  | true =>
    have e : flD D = (D, 9) := by unfold flD; rw [if_pos hd]
    rw [e]
    refine (h.flush_dn hd).mono ?_
    rintro e w' ⟨rfl, rfl⟩
    exact ⟨rfl, h, Keep.refl _ _⟩
  | false =>
    by_cases hl : D.left = 0
    · have e : flD D = (stepD D, 9) := by unfold flD; rw [if_neg (by rw [hd]; decide), if_pos hl]
      rw [e]
      refine (h.flush_lost hd hl).mono ?_
      rintro e w' ⟨rfl, h1, h2⟩
      exact ⟨rfl, h1, h2⟩
    · have e : flD D = (flushD (stepD D), 0) := by unfold flD; rw [if_neg (by rw [hd]; decide), if_neg hl]
      rw [e]
      refine (h.flush hd hl).mono ?_
      rintro e w' ⟨rfl, h1, h2⟩
      exact ⟨rfl, h1, h2⟩
end
end Go.Proofs.YtbnobjlphmkgeaaGreatDoor
/- The contracts of package pages: area, of, mark, and what is read of pages. -/
namespace Go.Proofs.YtbnobjlphmkgeaaGreatDoor
open Go.RowKit Go.Maps Go.ChangeMaps

/-- block p is Pages of the device d, of the stamp st; it is none of the device's blocks -/
def PgH (w : World) (F : Nat → Prop) (p d st n : Nat) : Prop := w.heap[p]? = some (.cells #[.pointer (some ⟨d, 0, none⟩), .int .i64 st, .int .i64 n] 167 (0, 0)) ∧ ¬ F p
theorem three {w : World} {p : Nat} {a b c : Value} {t : TypeId} (h : w.heap[p]? = some (.cells #[a, b, c] t (0, 0))) :
    (w.cell? ⟨p, 0, none⟩ = some a ∧ w.cell? ⟨p, 1, none⟩ = some b ∧ w.cell? ⟨p, 2, none⟩ = some c) ∧ ∀ k, w.frozen? ⟨p, k, none⟩ = false := by
  refine ⟨⟨?_, ?_, ?_⟩, fun k => by simp [World.frozen?, h]⟩ <;> simp [World.cell?, h]
section
variable {w0 w w' : World} {F F' : Nat → Prop} {p d st n : Nat} {D : Dv}
theorem PgH.lt (h : PgH w F p d st n) : p < w.heap.size := (Array.getElem?_eq_some_iff.1 h.1).1
theorem PgH.below (h : PgH w F p d st n) (hb : Below w.heap.size w w') : PgH w' F p d st n := ⟨(hb.block _ h.lt).trans h.1, h.2⟩
theorem PgH.keep (h : PgH w F p d st n) (hk : Keep F w w') (hF : ∀ k, F' k → F k ∨ w.heap.size ≤ k) : PgH w' F' p d st n :=
  ⟨(hk.block _ h.lt h.2).trans h.1, fun hf => by rcases hF p hf with h' | h'; exact h.2 h'; have := h.lt; omega⟩
theorem PgH.cell (h : PgH w F p d st n) : w.cell? ⟨p, 0, none⟩ = some (.pointer (some ⟨d, 0, none⟩)) ∧ w.cell? ⟨p, 1, none⟩ = some (.int .i64 st) ∧ w.cell? ⟨p, 2, none⟩ = some (.int .i64 n) := (three h.1).1
theorem plen_any (h : PgH w F p d st n) : Calls Tryz.prog 39 #[.pointer (some ⟨p, 0, none⟩)] w fun e w' => e = .returned (.int .i64 n) ∧ w = w' := by
  obtain ⟨c0, c1, c2⟩ := h.cell
  go_enter Tryz.func39, Tryz.ntmps39
  go_wp2_with fail
  go_ret
  exact ⟨rfl, rfl⟩
theorem area_any (a k : Nat) (w : World) (ha : a < 2) (hk : k ≤ 100) : Calls Tryz.prog 108 #[.int .i64 (a : Int), .int .i64 (k : Int)] w fun e w' => e = .returned (.int .i64 (areaP a k : Nat)) ∧ w = w' := by
  have e : ((areaP a k : Nat) : Int) = 2 + 23 * (a : Int) + k := by unfold areaP; omega
  rw [e]
  go_enter Tryz.func108, Tryz.ntmps108
  go_wp2_with fail
  go_ret
  exact ⟨rfl, rfl⟩
theorem pof_e1 (h : DevB w0 w F d D) (hl : D.S.length < 49) :
    Calls Tryz.prog 105 #[.pointer (some ⟨d, 0, none⟩)] w fun e w' => e = .returned (.tuple #[.pointer none, .iface 111 (.int .i64 1)]) ∧ w = w' := by
  have HL := Hidden.mk h.len
  have s1 : IntKind.i64.wrap ((D.S.length : Int) - 48) = (D.S.length : Int) - 48 := IntWalk.i64_in _ (by omega)
  have t1 : decide ((D.S.length : Int) - 48 < 1) = true := by simp; omega
  generalize D.S.length = m at *
  clear h
  go_enter Tryz.func105, Tryz.ntmps105
  go_wp2_with fail
  refine HL.out.mono ?_
  rintro e w1 ⟨rfl, rfl⟩
  go_wp2_with fail
  go_ret2
  exact ⟨rfl, rfl⟩
theorem pof_ok (h : DevB w0 w F d D) (hl : 49 ≤ D.S.length) :
    Calls Tryz.prog 105 #[.pointer (some ⟨d, 0, none⟩)] w fun e w' => ∃ p, e = .returned (.tuple #[.pointer (some ⟨p, 0, none⟩), .nilIface]) ∧ PgH w' F p d 0 (nP D) ∧ w.heap.size ≤ p ∧ Below w.heap.size w w' := by
  have HL := Hidden.mk h.len
  have h300 := h.lens.2.1
  have hn : ((nP D : Nat) : Int) = min ((D.S.length : Int) - 48) 200 := by unfold nP; omega
  have s1 : IntKind.i64.wrap ((D.S.length : Int) - 48) = (D.S.length : Int) - 48 := IntWalk.i64_in _ (by omega)
  have t1 : decide ((D.S.length : Int) - 48 < 1) = false := by simp; omega
  have HP : Hidden (PgH (w.alloc (.cells #[.pointer (some ⟨d, 0, none⟩), .int .i64 0, .int .i64 (min ((D.S.length : Int) - 48) 200)] 167)) F w.heap.size d 0 (nP D)) :=
    ⟨⟨by rw [← hn]; exact heap_alloc_new w _, fun hf => by have := h.flt _ hf; omega⟩⟩
  clear hn
  generalize nP D = nn at *
  generalize D.S.length = m at *
  clear h
  go_enter Tryz.func105, Tryz.ntmps105
  go_wp2_with fail
  refine HL.out.mono ?_
  rintro e w1 ⟨rfl, rfl⟩
  go_wp2_with fail
  all_goals
    go_ret2
    refine ⟨w.heap.size, rfl, ?_, Nat.le_refl _, (Below.refl _ _).alloc (Nat.le_refl _) _⟩
    have := HP.out
    first | exact this | rwa [show min ((m : Int) - 48) 200 = (m : Int) - 48 by omega] at this | rwa [show min ((m : Int) - 48) 200 = 200 by omega] at this
end
end Go.Proofs.YtbnobjlphmkgeaaGreatDoor
/- The contracts of package pages: a mark that is read, Format, Open. -/
namespace Go.Proofs.YtbnobjlphmkgeaaGreatDoor
open Go.RowKit Go.Maps Go.ChangeMaps

/-- s[i:k] of bytes, where k is a byte -/
theorem run_cut8 (p off n c i k : Nat) (hik : i ≤ k) (hkc : k ≤ c) (hlt : i < c) (W : World) :
    (Instr.sliceAt 22 (.slice (some ⟨p, off, none⟩) n c) (some (.int .i64 i)) (some (.int .u8 k)) none).run Tryz.prog W = .ok (.slice (some ⟨p, off + i, none⟩) (k - i) (c - i)) W := by
  obtain ⟨i0, hi0, hz0, hz1, hz2⟩ := info_parts byte_info
  have h3 : ¬ c = i := by omega
  simp [Instr.sliceAt, Instr.slice, Instr.sliceBounds, Instr.sliceBound, run_underlying Tryz.underlying22, asIntOf, sizeOf, typeInfo, hi0, hz1, hik, hkc, h3, Addr.add_lit]
theorem openF_zero {b : Bytes} (h : (openF b).2.2 = 0) : b.length = 32 ∧ (openF b).1 = stampOf b ∧ (openF b).2.1 = bodyOf b ∧ (bodyOf b).length = 24 ∧ b.take 4 = b.drop 28 ∧ stampOf b ≠ 0 := by
  have hl : b.length = 32 := by
    by_cases e : b.length = 32
    · exact e
    · unfold openF at h; rw [if_pos e] at h; cases h
  have hb : (bodyOf b).length = 24 := by simp [bodyOf, hl]
  unfold openF at *
  rw [if_neg (by omega)] at *
  by_cases h2 : b.take 4 ≠ b.drop 28
  · rw [if_pos h2] at h; cases h
  rw [if_neg h2] at *
  by_cases h3 : stampOf b = 0
  · rw [if_pos h3] at h; cases h
  rw [if_neg h3] at *
  exact ⟨hl, rfl, rfl, hb, Decidable.not_not.1 h2, h3⟩
/-- what is said of a mark -/
def MkAns (w : World) (mo : Nat × Bytes) (k : Nat) (e : Ending) (w' : World) : Prop :=
  ∃ A c, e = .returned (.tuple #[.int .i64 (mo.1 : Nat), .slice A mo.2.length c, errV k]) ∧ Rd w' A mo.2 ∧ mo.2.length ≤ 23 ∧ (∀ ad, A = some ad → w.heap.size ≤ ad.block) ∧ Below w.heap.size w w'
theorem mkAns_none {w w' : World} {mo : Nat × Bytes} {e : Ending} (hm : mo = (0, [])) (h : e = .returned (.tuple #[.int .i64 0, .slice none 0 0, .nilIface])) (hb : Below w.heap.size w w') : MkAns w mo 0 e w' := by
  subst hm
  exact ⟨none, 0, h, Rd.nil_, by simp, (fun ad e => by cases e), hb⟩
theorem mkAns_ok {w w' : World} {mo : Nat × Bytes} {e : Ending} {s m c : Nat} {L : Bytes} {A : Option Addr} (hm : mo = (s, L)) (hl : L.length = m) (h : e = .returned (.tuple #[.int .i64 (s : Int), .slice A m c, .nilIface])) (hr : Rd w' A L) (h23 : m ≤ 23) (hA : ∀ ad, A = some ad → w.heap.size ≤ ad.block) (hb : Below w.heap.size w w') : MkAns w mo 0 e w' := by
  subst hm hl
  exact ⟨A, c, h, hr, h23, hA, hb⟩
section
variable {w0 w w' : World} {F F' : Nat → Prop} {p d st n : Nat} {D : Dv}
set_option maxRecDepth 100000 in
theorem pmark_ok (h : DevB w0 w F d D) (hp : PgH w F p d st n) (i : Nat) (hi : i < D.S.length) (hd : D.down = false) :
    Calls Tryz.prog 106 #[.pointer (some ⟨p, 0, none⟩), .int .i64 (i : Int)] w (MkAns w (markOf n (readD D i)) 0) := by
  obtain ⟨c0, c1, c2⟩ := hp.cell
  have HC2 := Hidden.mk c2
  have HR := Hidden.mk (h.read i hi hd)
  have hl32 : (readD D i).length = 32 := h.wf.rd hi
  have hplt := hp.lt
  generalize readD D i = b at *
  clear h hp hi hd c1 c2
  go_enter Tryz.func106, Tryz.ntmps106
  go_wp2_with fail
  refine HR.out.mono ?_
  rintro e w1 ⟨g, cap, rfl, hg, hrow, -, hb1, -⟩
  have HB1 := Hidden.mk hb1
  have hcap : 32 ≤ cap := by have := hrow.le.1; omega
  have HM : Hidden (markOf n b = if (openF b).2.2 ≠ 0 then (0, []) else if 23 < ((bodyOf b).getD 0 0).toNat then (0, []) else if (mkL b).all (fun x => decide (x.toNat < n)) = true then (stampOf b, mkL b) else (0, [])) := ⟨rfl⟩
  by_cases h0 : (openF b).2.2 = 0
  · obtain ⟨-, -, -, e3, e4, e5⟩ := openF_zero h0
    have HO := Hidden.mk (open_ok (some ⟨g, 0, none⟩) cap b w1 hl32 hcap hrow.rd e4 e5)
    obtain ⟨x0, hx⟩ : ∃ x0, (bodyOf b).getD 0 0 = x0 := ⟨_, rfl⟩
    have HX : Hidden (∀ h : 0 < (bodyOf b).length, (bodyOf b)[0] = x0) := ⟨fun h => by rw [← hx]; simp [h]⟩
    have HM := Hidden.mk (show markOf n b = if 23 < x0.toNat then (0, []) else if (mkL b).all (fun x => decide (x.toNat < n)) = true then (stampOf b, mkL b) else (0, []) by rw [HM.out, if_neg (by omega), hx])
    have hmk : mkL b = ((bodyOf b).drop 1).take x0.toNat := by rw [← hx]; rfl
    have HMK := Hidden.mk hmk
    have HE3 := Hidden.mk e3
    clear hrow hb1 HR hg hl32 hx hmk e3 e4 e5 h0
    go_wp2_with fail
    refine HO.out.mono ?_
    rintro e w2 ⟨q, c, rfl, hq, hrow2, hb2⟩
    have HQ := Hidden.mk (Nat.le_trans HB1.out.size hq)
    clear hq
    have HB2 := Hidden.mk (HB1.out.trans (hb2.mono HB1.out.size))
    have c24 : 24 ≤ c := by have := hrow2.le.1; rw [HE3.out] at this; exact this
    have hb0 := hrow2.rd.at_ 0 (by rw [HE3.out]; omega)
    rw [Nat.add_zero, HX.out] at hb0
    have hcut := hrow2.rd.cut 1 x0.toNat
    have hpl' : (((bodyOf b).drop 1).take x0.toNat).length = min x0.toNat 23 := by simp [HE3.out]
    rw [← HMK.out, Option.map_some, Addr.add_lit, HE3.out] at hcut
    rw [← HMK.out] at hpl'
    clear HX
    have hx0 := UInt8.toNat_lt x0
    generalize mkL b = L at *
    generalize stampOf b = sb at *
    generalize markOf n b = mo at *
    clear hrow2 hb2 HO HB1 HMK
    by_cases h23 : 23 < x0.toNat
    · have HMM := Hidden.mk (show mo = (0, []) by rw [HM.out, if_pos h23])
      have t1 : decide (23 < (x0.toNat : Int)) = true := by simp; omega
      have t2 : decide (23 < x0.toNat) = true := by simp; omega
      clear h23 hcut HM hpl'
      go_wp2_with fail
      go_ret3
      exact mkAns_none HMM.out rfl HB2.out
    · have t1 : decide (23 < (x0.toNat : Int)) = false := by simp; omega
      have t2 : decide (23 < x0.toNat) = false := by simp; omega
      have hle : x0.toNat ≤ 23 := by omega
      have s1 : IntKind.u8.wrap (1 + (x0.toNat : Int)) = ((1 + x0.toNat : Nat) : Int) := by rw [IntWalk.u8_in _ (by omega)]; omega
      have hsl := run_cut8 q 0 24 c 1 (1 + x0.toNat) (by omega) (by omega) (by omega)
      rw [Nat.add_sub_cancel_left] at hsl
      have HM := Hidden.mk (show mo = if L.all (fun x => decide (x.toNat < n)) = true then (sb, L) else (0, []) by rw [HM.out, if_neg h23])
      have HRP := Hidden.mk (hcut (by omega))
      have HPL := Hidden.mk (show L.length = x0.toNat by rw [hpl']; omega)
      have c2' := (HB2.out.cell (p := ⟨p, 2, none⟩) hplt).trans HC2.out
      simp only [Int.natCast_add, Int.natCast_one, Nat.zero_add] at s1 hsl HRP
      clear h23 hcut hpl' t2
      go_wp2_with fail
      go_loopg [4, 5, 46] x0.toNat (fun r v4 v5 i wr => ∃ k : Nat, k ≤ x0.toNat ∧ r = x0.toNat - k ∧ v4 = .int .i64 (sb : Int) ∧ v5 = .slice (some ⟨q, 1, none⟩) x0.toNat (c - 1) ∧ i = .int .i64 (k : Int) ∧ w2 = wr ∧ Hidden (∀ y ∈ L.take k, y.toNat < n))
      case atStart => exact ⟨0, by omega, rfl, rfl, rfl, rfl, rfl, ⟨by simp⟩⟩
      case round =>
        obtain ⟨k, hk, rfl, rfl, rfl, rfl, rfl, hall⟩ := hrel
        by_cases hlt : k < x0.toNat
        · have hkl : k < L.length := by rw [HPL.out]; exact hlt
          have y0 := HRP.out.at_ k hkl
          have i0 : (k : Int) < x0.toNat := by omega
          have i1 : (0 : Int) ≤ k := by omega
          have hnx : L[k].toNat < n → ∀ y ∈ L.take (k + 1), y.toNat < n := fun h y hy => by
            rw [List.take_succ_eq_append_getElem hkl] at hy
            rcases List.mem_append.1 hy with hy | hy
            · exact hall.out y hy
            · rw [List.mem_singleton.1 hy]; exact h
          have hbd : ¬ L[k].toNat < n → mo = (0, []) := fun h => by
            rw [HM.out, if_neg]
            intro ha
            have := List.all_eq_true.1 ha L[k] (List.getElem_mem hkl)
            simp at this; omega
          have HN := Hidden.mk hnx
          have HBD := Hidden.mk hbd
          generalize L[k] = y at *
          have hy8 := UInt8.toNat_lt y
          have s2 : IntKind.i64.wrap (y.toNat : Int) = (y.toNat : Int) := IntWalk.i64_in _ (by omega)
          clear hnx hbd hall
          by_cases hy : y.toNat < n
          · have HALL := Hidden.mk (HN.out hy)
            have d1 : decide ((n : Int) ≤ y.toNat) = false := by simp; omega
            have d2 : decide (n ≤ y.toNat) = false := by simp; omega
            clear hy HN HBD
            go_wp2_with fail
            go_roundg (x0.toNat - (k + 1))
            case measure => omega
            case rel => exact ⟨k + 1, by omega, rfl, rfl, rfl, by go_num, rfl, HALL⟩
          · have HMM := Hidden.mk (HBD.out hy)
            have d1 : decide ((n : Int) ≤ y.toNat) = true := by simp; omega
            have d2 : decide (n ≤ y.toNat) = true := by simp; omega
            clear hy HN HBD
            go_wp2_with fail
            go_ret3
            exact mkAns_none HMM.out rfl HB2.out
        · obtain rfl : k = x0.toNat := by omega
          have HMM : Hidden (mo = (sb, L)) := ⟨by
            rw [HM.out, if_pos]
            rw [List.all_eq_true]
            intro y hy
            have := hall.out y (by rw [← HPL.out, List.take_of_length_le (Nat.le_refl _)]; exact hy)
            simpa using this⟩
          clear hall
          go_wp2_with fail
          go_ret3
          exact mkAns_ok HMM.out HPL.out rfl HRP.out (by omega) (fun ad e => by obtain rfl := Option.some.inj e; exact HQ.out) HB2.out
  · have HO := Hidden.mk (open_any (some ⟨g, 0, none⟩) 32 cap b w1 hl32 hcap hrow.rd)
    have HMM := Hidden.mk (show markOf n b = (0, []) by rw [HM.out, if_pos h0])
    have hev := errV_pos h0
    rw [hev] at HO
    generalize (openF b).1 = sb at *
    generalize (openF b).2.2 = eb at *
    generalize (openF b).2.1 = bb at *
    generalize markOf n b = mo at *
    clear h0 hev hrow hb1 HR hg hl32 HM
    go_wp2_with fail
    refine HO.out.mono ?_
    rintro e w2 ⟨A, c, rfl, hrd, hb2⟩
    have HB2 := Hidden.mk (HB1.out.trans (hb2.mono HB1.out.size))
    clear hb2 HO HB1 hrd
    go_wp2_with fail
    go_ret3
    exact mkAns_none HMM.out rfl HB2.out
theorem pmark_dn (h : DevB w0 w F d D) (hp : PgH w F p d st n) (i : Nat) (hi : i < D.S.length) (hd : D.down = true) :
    Calls Tryz.prog 106 #[.pointer (some ⟨p, 0, none⟩), .int .i64 (i : Int)] w fun e w' => e = .returned (.tuple #[.int .i64 0, .slice none 0 0, .iface 111 (.int .i64 9)]) ∧ w = w' := by
  obtain ⟨c0, c1, c2⟩ := hp.cell
  have HR := Hidden.mk (h.read_e9 i hi hd)
  clear h hp hi hd c1 c2
  go_enter Tryz.func106, Tryz.ntmps106
  go_wp2_with fail
  refine HR.out.mono ?_
  rintro e w1 ⟨rfl, rfl⟩
  go_wp2_with fail
  go_ret3
  exact ⟨rfl, rfl⟩
end
end Go.Proofs.YtbnobjlphmkgeaaGreatDoor
/- The contracts of package pages: Format, Open. -/
namespace Go.Proofs.YtbnobjlphmkgeaaGreatDoor
open Go.RowKit Go.Maps Go.ChangeMaps

theorem keep_cell {w : World} {p o : Nat} (v : Value) : Keep (fun k => k = p) w (w.setCell ⟨p, o, none⟩ v) := (Keep.refl (fun k => k = p) w).setCell (p := ⟨p, o, none⟩) (.inl rfl) v
section
variable {w0 w w' : World} {F F' : Nat → Prop} {p d st n : Nat} {D : Dv}
theorem PgH.set (h : PgH w F p d st n) (s : Nat) : PgH (w.setCell ⟨p, 1, none⟩ (.int .i64 (s : Int))) F p d s n := by
  refine ⟨?_, h.2⟩
  rw [heap_setK h.1]
  rfl
theorem DevB.other (h : DevB w0 w F d D) (hk : Keep (fun k => k = p) w w') (hp : ¬ F p) (h0 : w0.heap.size ≤ p) : DevB w0 w' F d D :=
  h.keep hk (fun k hf e => hp (by rw [← e]; exact hf)) (fun k e => by rw [e]; exact h0)
/-- what is left of a device, and of the rest -/
structure PdM (w0 w w' : World) (F F' : Nat → Prop) (d : Nat) (D : Dv) : Prop where
  dev : DevB w0 w' F' d D
  kp : Keep F w w'
  sub : ∀ k, F' k → F k ∨ w.heap.size ≤ k
theorem PdM.refl (h : DevB w0 w F d D) : PdM w0 w w F F d D := ⟨h, Keep.refl _ _, fun _ hk => .inl hk⟩
theorem PdM.below {w1 : World} (h : PdM w0 w w' F F' d D) (hb : Below w'.heap.size w' w1) : PdM w0 w w1 F F' d D :=
  ⟨h.dev.below hb, h.kp.trans (Keep.of_below (F := F) hb) (fun _ hk => .inl hk), h.sub⟩
theorem PdM.next {w1 : World} {F1 : Nat → Prop} {D1 : Dv} (h : PdM w0 w w' F F' d D) (k : PdM w0 w' w1 F' F1 d D1) : PdM w0 w w1 F F1 d D1 :=
  ⟨k.dev, h.kp.trans k.kp h.sub, fun x hx => by
    rcases k.sub x hx with h' | h'
    · exact h.sub x h'
    · exact .inr (Nat.le_trans h.kp.size h')⟩
/-- a cell of a block of one's own is written -/
theorem PdM.cell (h : PdM w0 w w' F F' d D) {o : Nat} (v : Value) (hp : ¬ F' p) (hw : w.heap.size ≤ p) (h0 : w0.heap.size ≤ p) : PdM w0 w (w'.setCell ⟨p, o, none⟩ v) F F' d D :=
  ⟨h.dev.other (keep_cell v) hp h0, h.kp.trans (keep_cell v) (fun x e => .inr (by rw [e]; exact hw)), h.sub⟩
theorem pdm_write {w1 : World} (D1 : Dv) (hh : ∃ F', DevB w0 w1 F' d D1 ∧ Keep F w w1 ∧ ∀ k, F' k → F k ∨ w.heap.size ≤ k) : ∃ F', PdM w0 w w1 F F' d D1 := by
  obtain ⟨F', a, b, c⟩ := hh
  exact ⟨F', a, b, c⟩
theorem PgH.mod (h : PgH w F p d st n) {D1 : Dv} (k : PdM w0 w w' F F' d D1) : PgH w' F' p d st n := h.keep k.kp k.sub
/-- what a device is behind Format -/
def formatD (D : Dv) : Dv := flushD (stepD (stepD (putD (stepD (putD D 0 (makeB 2 []))) 1 (List.replicate 32 0))))
theorem step_up {D : Dv} (h : Up D) : Up (stepD D) := by
  refine ⟨?_, ?_⟩
  · show max (-1) (D.left - 1) = -1
    rw [h.1]; decide
  · show (D.left == 0) = false
    rw [h.1]; decide
theorem wrD_up {D : Dv} (h : Up D) {i : Nat} {b : Bytes} (hi : i < D.S.length) (hb : b.length = 32) : wrD D (i : Int) b = (stepD (putD D i b), 0) ∧ Up (stepD (putD D i b)) := by
  rw [wrD_ok hi hb h.2, if_neg (by rw [h.1]; decide)]
  exact ⟨rfl, step_up h⟩
theorem flD_up {D : Dv} (h : Up D) : flD D = (flushD (stepD D), 0) ∧ Up (flushD (stepD D)) := by
  unfold flD
  rw [if_neg (by rw [h.2]; decide), if_neg (by rw [h.1]; decide)]
  exact ⟨rfl, (up_flush h).1⟩
set_option maxRecDepth 100000 in
theorem pformat_ok (h : DevB w0 w F d D) (hu : Up D) (hl : 49 ≤ D.S.length) :
    Calls Tryz.prog 100 #[.pointer (some ⟨d, 0, none⟩)] w fun e w' => ∃ p F', e = .returned (.tuple #[.pointer (some ⟨p, 0, none⟩), .nilIface]) ∧ PdM w0 w w' F F' d (formatD D) ∧ PgH w' F' p d 2 (nP D) ∧ w.heap.size ≤ p := by
  have HO := Hidden.mk (pof_ok h hl)
  have HM := Hidden.mk (PdM.refl h)
  have hmk : (makeB 2 []).length = 32 := makeB_len _ _ (by simp)
  obtain ⟨e1, u1⟩ := wrD_up hu (i := 0) (b := makeB 2 []) (by omega) hmk
  obtain ⟨e2, u2⟩ := wrD_up u1 (i := 1) (b := List.replicate 32 0) (by show 1 < D.S.length; omega) (by simp)
  obtain ⟨e3, u3⟩ := flD_up u2
  have H1 := Hidden.mk e1
  have H2 := Hidden.mk e2
  have H3 := Hidden.mk e3
  have HK := Hidden.mk hmk
  have HD : Hidden (formatD D = flushD (stepD (stepD (putD (stepD (putD D 0 (makeB 2 []))) 1 (List.replicate 32 0))))) := ⟨rfl⟩
  have H0 := Hidden.mk h.bel.size
  generalize formatD D = Df at *
  generalize nP D = n at *
  clear h e1 e2 e3 u1 u2 u3 hmk hu
  go_enter Tryz.func100, Tryz.ntmps100
  go_wp2_with fail
  refine HO.out.mono ?_
  rintro e w1 ⟨p, rfl, hp1, hpn, hb1⟩
  have HPN := Hidden.mk hpn
  have HM1 := Hidden.mk ((HM.out.below hb1).cell (p := p) (o := 1) (.int .i64 2) hp1.2 hpn (Nat.le_trans H0.out hpn))
  have HP1 := Hidden.mk (hp1.set 2)
  obtain ⟨c0, c1, c2⟩ := hp1.cell
  have f1 := (three hp1.1).2 1
  obtain ⟨-, z1, -⟩ := HP1.out.cell
  have HMK := Hidden.mk (fun W => make_ok 2 none 0 0 [] W rfl (by omega) (by omega) (by omega) Rd.nil_)
  clear hp1 hpn hb1 HO HM c0 c2
  go_wp2_with fail
  refine (HMK.out _).mono ?_
  rintro e w3 ⟨g, rfl, hg, hrow, hb3⟩
  have HM3 := Hidden.mk (HM1.out.below hb3)
  have HP3 := Hidden.mk (HP1.out.below hb3)
  have hgF : ¬ F g := fun hf => by have := HM1.out.dev.flt g hf; omega
  have HW := Hidden.mk (HM3.out.dev.write_all 0 (some ⟨g, 0, none⟩) 32 32 (makeB 2 []) HK.out hrow.rd (fun _ ad e hf => hgF (by obtain rfl := Option.some.inj e; exact hf)))
  rw [show (0 : Int) = ((0 : Nat) : Int) from rfl, H1.out] at HW
  clear hg hrow hb3 hgF HMK HM1 HP1 z1 c1 f1
  go_wp2_with fail
  refine HW.out.mono ?_
  rintro e w4 ⟨rfl, hh⟩
  obtain ⟨F4, hm4⟩ := pdm_write _ hh
  have HP4 := Hidden.mk (HP3.out.mod hm4)
  have hmz := fun W => mk_bytes 32 32 rfl (by omega) W
  have hal := (Below.refl w4.heap.size w4).alloc (Nat.le_refl _) (.cells (zeroRow 32) 5)
  have HM4 := Hidden.mk ((HM3.out.next hm4).below hal)
  have HP5 := Hidden.mk (HP4.out.below hal)
  have hgF : ¬ F4 w4.heap.size := fun hf => by have := hm4.dev.flt _ hf; omega
  have HW2 := Hidden.mk (HM4.out.dev.write_all 1 (some ⟨w4.heap.size, 0, none⟩) 32 32 (List.replicate 32 0) (by simp) (row_zeros w4 32 (by simp [maxLen])).rd (fun _ ad e hf => hgF (by obtain rfl := Option.some.inj e; exact hf)))
  rw [show (1 : Int) = ((1 : Nat) : Int) from rfl, H2.out] at HW2
  rw [errV0]
  clear hh hm4 hal hgF HW HM3 HP3 HP4
  go_wp2_with fail
  refine HW2.out.mono ?_
  rintro e w5 ⟨rfl, hh⟩
  obtain ⟨F5, hm5⟩ := pdm_write _ hh
  have HP6 := Hidden.mk (HP5.out.mod hm5)
  have HM5 := Hidden.mk (HM4.out.next hm5)
  have HFL := Hidden.mk HM5.out.dev.flush_all
  rw [H3.out] at HFL
  rw [errV0]
  clear hh hm5 HW2 HM4 HP5 hmz
  go_wp2_with fail
  refine HFL.out.mono ?_
  rintro e w6 ⟨rfl, hd6, hk6⟩
  have hm6 : PdM w0 w5 w6 F5 F5 d _ := ⟨hd6, hk6, fun _ hk => .inl hk⟩
  have HFIN := Hidden.mk (And.intro (HM5.out.next hm6) (HP6.out.mod hm6))
  rw [← HD.out] at HFIN
  clear hd6 hk6 hm6 HFL HM5 HP6
  go_wp2_with fail
  go_ret2
  exact ⟨p, F5, rfl, HFIN.out.1, HFIN.out.2, HPN.out⟩
/-- what Open comes to -/
def OpAns (w0 w : World) (F : Nat → Prop) (d : Nat) (D : Dv) (r : Dv × Nat) (st : Nat) (e : Ending) (w' : World) : Prop :=
  ∃ F', PdM w0 w w' F F' d r.1 ∧ ((r.2 = 0 ∧ ∃ p, e = .returned (.tuple #[.pointer (some ⟨p, 0, none⟩), .nilIface]) ∧ PgH w' F' p d st (nP D) ∧ w.heap.size ≤ p) ∨ (r.2 ≠ 0 ∧ e = .returned (.tuple #[.pointer none, errV r.2])))
theorem opAns_bad {D : Dv} {r : Dv × Nat} {k : Nat} {e : Ending} (hm : PdM w0 w w' F F' d r.1) (hk : r.2 ≠ 0) (he : e = .returned (.tuple #[.pointer none, errV r.2])) : OpAns w0 w F d D r k e w' := ⟨F', hm, .inr ⟨hk, he⟩⟩
theorem opAns_ok {D : Dv} {r : Dv × Nat} {k p : Nat} {e : Ending} (hm : PdM w0 w w' F F' d r.1) (hk : r.2 = 0) (he : e = .returned (.tuple #[.pointer (some ⟨p, 0, none⟩), .nilIface])) (hp : PgH w' F' p d k (nP D)) (hn : w.heap.size ≤ p) : OpAns w0 w F d D r k e w' := ⟨F', hm, .inl ⟨hk, p, he, hp, hn⟩⟩
/-- which mark counts, of the first k -/
def pk (D : Dv) : Nat → Nat × Nat × Bytes
  | 0 => (0, 0, [])
  | k + 1 => if (pk D k).1 < (markOf (nP D) (readD D k)).1 then ((markOf (nP D) (readD D k)).1, k, (markOf (nP D) (readD D k)).2) else pk D k
theorem markOf_zero {n : Nat} {b : Bytes} (h : (markOf n b).1 = 0) : (markOf n b).2 = [] := by
  unfold markOf at h ⊢
  by_cases h0 : (openF b).2.2 ≠ 0
  · rw [if_pos h0]
  rw [if_neg h0] at h ⊢
  split
  · rfl
  · rename_i h1
    rw [if_neg h1] at h
    split
    · rename_i h2
      rw [if_pos h2] at h
      exact absurd h (openF_zero (Decidable.not_not.1 h0)).2.2.2.2.2
    · rfl
theorem pk_two (D : Dv) : pk D 2 = openMk D := by
  have h0 := markOf_zero (n := nP D) (b := readD D 0)
  have e1 : pk D 1 = ((markOf (nP D) (readD D 0)).1, 0, (markOf (nP D) (readD D 0)).2) := by
    show (if 0 < (markOf (nP D) (readD D 0)).1 then _ else _) = _
    by_cases h : 0 < (markOf (nP D) (readD D 0)).1
    · rw [if_pos h]
    · have hz : (markOf (nP D) (readD D 0)).1 = 0 := by omega
      rw [if_neg h, h0 hz, hz]; rfl
  show (if (pk D 1).1 < (markOf (nP D) (readD D 1)).1 then _ else pk D 1) = _
  rw [e1]; rfl
theorem pk_len (D : Dv) : ∀ k, k ≤ 2 → (pk D k).2.1 < 2
  | 0, _ => by simp [pk]
  | k + 1, h => by
    unfold pk
    split
    · show k < 2; omega
    · exact pk_len D k (by omega)
end
end Go.Proofs.YtbnobjlphmkgeaaGreatDoor
/- The contract of pages.Open. -/
namespace Go.Proofs.YtbnobjlphmkgeaaGreatDoor
open Go.RowKit Go.Maps Go.ChangeMaps

/-- the first loop's state: which mark counts so far -/
structure PkSt (w0 w wr : World) (F : Nat → Prop) (d p : Nat) (D : Dv) (q : Nat × Nat × Bytes) (A : Option Addr) : Prop where
  bel : PdM w0 w wr F F d D
  pg : PgH wr F p d q.1 (nP D)
  rd : Rd wr A q.2.2
  new : ∀ ad, A = some ad → w.heap.size ≤ ad.block
  nf : ∀ ad, A = some ad → ¬ F ad.block
  np : ∀ ad, A = some ad → ad.block ≠ p
  len : q.2.2.length ≤ 23
/-- the second loop's: so many pages are copied -/
structure CpSt (w0 w wr : World) (F F' : Nat → Prop) (d p : Nat) (D : Dv) (a st : Nat) (l : Bytes) (A : Option Addr) (k : Nat) : Prop where
  m : PdM w0 w wr F F' d (runE (copyF a) 0 (l.take k) D).1
  z : (runE (copyF a) 0 (l.take k) D).2 = 0
  dn : (runE (copyF a) 0 (l.take k) D).1.down = false
  len : (runE (copyF a) 0 (l.take k) D).1.S.length = D.S.length
  pg : PgH wr F' p d st (nP D)
  rd : Rd wr A l
  nf : ∀ ad, A = some ad → ¬ F' ad.block
theorem Rd.mod {w0 w w' : World} {F F' : Nat → Prop} {d : Nat} {D : Dv} {A : Option Addr} {l : Bytes} (hr : Rd w A l) (hm : PdM w0 w w' F F' d D) (hA : ∀ ad, A = some ad → ¬ F ad.block) : Rd w' A l := hm.kp.rd hr hA
section
variable {w0 w : World} {F : Nat → Prop} {d : Nat} {D : Dv}
set_option maxRecDepth 100000 in
theorem popen_any (h : DevB w0 w F d D) :
    Calls Tryz.prog 38 #[.pointer (some ⟨d, 0, none⟩)] w (OpAns w0 w F d D (openP D) (openMk D).1) := by
  have HD := Hidden.mk h
  by_cases hl : D.S.length < 49
  · have e : openP D = (D, 1) := by unfold openP; rw [if_pos hl]
    rw [e]
    have HO := Hidden.mk (pof_e1 h hl)
    clear h hl e
    go_enter Tryz.func38, Tryz.ntmps38
    go_wp2_with fail
    refine HO.out.mono ?_
    rintro e w1 ⟨rfl, rfl⟩
    go_wp2_with fail
    go_ret2
    exact opAns_bad (PdM.refl HD.out) (by simp) rfl
  have HO := Hidden.mk (pof_ok h (by omega))
  have hl49 : 49 ≤ D.S.length := by omega
  have HL := Hidden.mk hl49
  have H0 := Hidden.mk h.bel.size
  cases hd : D.down with
  | true =>
    have e : openP D = (D, 9) := by unfold openP; rw [if_neg hl, if_pos hd]
    rw [e]
    have HDN := Hidden.mk hd
    clear h hl e hl49 hd
    go_enter Tryz.func38, Tryz.ntmps38
    go_wp2_with fail
    refine HO.out.mono ?_
    rintro e w1 ⟨p, rfl, hp1, hpn, hb1⟩
    have HM := Hidden.mk ((PdM.refl HD.out).below hb1)
    have HK := Hidden.mk (pmark_dn HM.out.dev hp1 0 (by have := HL.out; omega) HDN.out)
    clear hp1 hpn hb1 HO
    go_wp2_with fail
    go_loopg [2, 3, 6, 7, 26] 1 (fun r v2 v3 v6 v7 i wr => i = .int .i64 0 ∧ r = 1 ∧ w1 = wr)
    case atStart => exact ⟨rfl, rfl, rfl⟩
    case round =>
      obtain ⟨rfl, rfl, rfl⟩ := hrel
      go_wp2_with fail
      refine HK.out.mono ?_
      rintro e w2 ⟨rfl, rfl⟩
      go_wp2_with fail
      go_ret2
      exact opAns_bad HM.out (by simp) rfl
  | false =>
    have he : openP D = if (openMk D).1 = 0 then (D, 5) else andThen (runE (copyF (openMk D).2.1) 0 (openMk D).2.2 D) flD := by
      unfold openP
      rw [if_neg hl, if_neg (by rw [hd]; decide)]
    have HE := Hidden.mk he
    have HDN := Hidden.mk hd
    have HPK : Hidden (pk D 2 = openMk D) := ⟨pk_two D⟩
    have HMK : Hidden (∀ (k : Nat), k < 2 → ∀ W p st, DevB w0 W F d D → PgH W F p d st (nP D) → Calls Tryz.prog 106 #[.pointer (some ⟨p, 0, none⟩), .int .i64 (k : Int)] W (MkAns W (markOf (nP D) (readD D k)) 0)) := ⟨fun k hk W p st h1 h2 => pmark_ok h1 h2 k (by omega) hd⟩
    have HPS : Hidden (∀ k, pk D (k + 1) = if (pk D k).1 < (markOf (nP D) (readD D k)).1 then ((markOf (nP D) (readD D k)).1, k, (markOf (nP D) (readD D k)).2) else pk D k) := ⟨fun _ => rfl⟩
    have HP0 : Hidden (pk D 0 = (0, 0, [])) := ⟨rfl⟩
    have HPL : Hidden (∀ k, k ≤ 2 → (pk D k).2.1 < 2) := ⟨pk_len D⟩
    generalize openP D = oP at *
    generalize openMk D = oM at *
    clear h hl he hl49 hd
    go_enter Tryz.func38, Tryz.ntmps38
    go_wp2_with fail
    refine HO.out.mono ?_
    rintro e w1 ⟨p, rfl, hp1, hpn, hb1⟩
    have HST : Hidden (PkSt w0 w w1 F d p D (pk D 0) none) := ⟨⟨(PdM.refl HD.out).below hb1, by rw [HP0.out]; exact hp1, by rw [HP0.out]; exact Rd.nil_, (fun ad e => by cases e), (fun ad e => by cases e), (fun ad e => by cases e), by rw [HP0.out]; simp⟩⟩
    have HPN := Hidden.mk hpn
    clear hp1 hpn hb1 HO
    go_wp2_with fail
    go_loopg [6, 7, 26] 2 (fun r v6 v7 i wr => ∃ (k : Nat) (A : Option Addr) (c : Nat), k ≤ 2 ∧ r = 2 - k ∧ v6 = .int .i64 ((pk D k).2.1 : Nat) ∧ v7 = .slice A (pk D k).2.2.length c ∧ i = .int .i64 (k : Int) ∧ Hidden (PkSt w0 w wr F d p D (pk D k) A))
    case atStart => exact ⟨0, none, 0, by omega, rfl, by rw [HP0.out]; rfl, by rw [HP0.out]; rfl, rfl, HST⟩
    case round =>
      obtain ⟨k, A, c, hk, rfl, rfl, rfl, rfl, hst⟩ := hrel
      by_cases hlt : k < 2
      · have t0 : decide ((k : Int) < 2) = true := by simp; omega
        have t0' : (k : Int) < 2 := by omega
        have HC := Hidden.mk (HMK.out k hlt wr p _ hst.out.bel.dev hst.out.pg)
        have HS := Hidden.mk (HPS.out k)
        obtain ⟨bel, pg, rd, new, nf, np, len⟩ := hst.out
        have HB := Hidden.mk bel
        have HG := Hidden.mk pg
        have HR := Hidden.mk (And.intro rd (And.intro new (And.intro nf (And.intro np len))))
        have HFl := Hidden.mk bel.dev.flt
        generalize pk D k = pk0 at *
        generalize markOf (nP D) (readD D k) = mo at *
        obtain ⟨s0, a0, l0⟩ := pk0
        obtain ⟨s1, l1⟩ := mo
        dsimp only at *
        clear hst bel pg rd new nf np len
        go_wp2_with fail
        refine HC.out.mono ?_
        rintro e w2 ⟨A1, c1, rfl, hrd1, h23, hA1, hb2⟩
        rw [errV0]
        have HB2 := Hidden.mk (HB.out.below hb2)
        have HG2 := Hidden.mk (HG.out.below hb2)
        obtain ⟨-, z1, -⟩ := HG2.out.cell
        have fz := (three HG2.out.1).2 1
        have plt := HG.out.lt
        by_cases hs : s0 < s1
        · have t1 : decide ((s0 : Int) < s1) = true := by simp; omega
          have t2 : decide (s0 < s1) = true := by simp; omega
          have HST : Hidden (pk D (k + 1) = (s1, k, l1)) := ⟨by rw [HS.out, if_pos hs]⟩
          have hnf : ∀ ad, A1 = some ad → ¬ F ad.block := fun ad e hf => by have := hA1 ad e; have := HFl.out _ hf; omega
          have hnp : ∀ ad, A1 = some ad → ad.block ≠ p := fun ad e e2 => by have := hA1 ad e; omega
          have hw1 : w.heap.size ≤ wr.heap.size := HB.out.kp.size
          have hpw : w.heap.size ≤ p := HPN.out
          have HN : Hidden (PkSt w0 w (w2.setCell ⟨p, 1, none⟩ (.int .i64 (s1 : Int))) F d p D (s1, k, l1) A1) :=
            ⟨⟨HB2.out.cell _ HG2.out.2 hpw (Nat.le_trans H0.out hpw), HG2.out.set s1, (keep_cell (p := p) (o := 1) _).rd hrd1 hnp, fun ad e => Nat.le_trans hw1 (hA1 ad e), hnf, hnp, h23⟩⟩
          clear hs hrd1 h23 hA1 hb2 hnf hnp HS HC HR HG HB
          go_wp2_with fail
          go_roundg (2 - (k + 1))
          case measure => omega
          case rel => exact ⟨k + 1, A1, c1, by omega, rfl, by rw [HST.out], by rw [HST.out], by go_num, by rw [HST.out]; exact HN⟩
        · have t1 : decide ((s0 : Int) < s1) = false := by simp; omega
          have t2 : decide (s0 < s1) = false := by simp; omega
          have HST : Hidden (pk D (k + 1) = (s0, a0, l0)) := ⟨by rw [HS.out, if_neg hs]⟩
          have HN : Hidden (PkSt w0 w w2 F d p D (s0, a0, l0) A) := ⟨⟨HB2.out, HG2.out, HR.out.1.below hb2, HR.out.2.1, HR.out.2.2.1, HR.out.2.2.2.1, HR.out.2.2.2.2⟩⟩
          clear hs hrd1 h23 hA1 hb2 HS HC HR HG HB fz
          go_wp2_with fail
          go_roundg (2 - (k + 1))
          case measure => omega
          case rel => exact ⟨k + 1, A, c, by omega, rfl, by rw [HST.out], by rw [HST.out], by go_num, by rw [HST.out]; exact HN⟩
      · obtain rfl : k = 2 := by omega
        have t0 : decide (((2 : Nat) : Int) < 2) = false := by decide
        obtain ⟨bel, pg, rd, new, nf, np, len⟩ := hst.out
        have ha2 := HPL.out 2 (Nat.le_refl _)
        have HE := Hidden.mk (show oP = if oM.1 = 0 then (D, 5) else andThen (runE (copyF oM.2.1) 0 oM.2.2 D) flD from HE.out)
        rw [HPK.out] at *
        obtain ⟨s, a, l⟩ := oM
        dsimp only at *
        obtain ⟨z0, z1, z2⟩ := pg.cell
        have HB := Hidden.mk bel
        have HG := Hidden.mk pg
        clear hst bel HST HPS HP0 HMK
        by_cases hs : s = 0
        · have HQ : Hidden (oP = (D, 5)) := ⟨by rw [HE.out, if_pos hs]⟩
          have t1 : ((s : Int) == 0) = true := by simpa using hs
          have t2 : (s == 0) = true := by simpa using hs
          clear hs HE pg rd new nf np len
          go_wp2_with fail
          go_ret2
          rw [HQ.out]
          exact opAns_bad HB.out (by simp) rfl
        · have HQ : Hidden (oP = andThen (runE (copyF a) 0 l D) flD) := ⟨by rw [HE.out, if_neg hs]⟩
          have t1 : ((s : Int) == 0) = false := by simpa using hs
          have t2 : (s == 0) = false := by simpa using hs
          have HST : Hidden (CpSt w0 w wr F F d p D a s l A 0) := ⟨⟨HB.out, rfl, HDN.out, rfl, pg, rd, nf⟩⟩
          clear hs HE pg rd new nf np
          go_wp2_with fail
          go_loopg [2, 3, 60] l.length (fun r v2 v3 i wr => ∃ (k : Nat) (F' : Nat → Prop), k ≤ l.length ∧ r = l.length - k ∧ i = .int .i64 (k : Int) ∧ Hidden (CpSt w0 w wr F F' d p D a s l A k))
          case atStart => exact ⟨0, F, by omega, rfl, rfl, HST⟩
          case round =>
            obtain ⟨k, F', hk, rfl, rfl, hst⟩ := hrel
            by_cases hlt : k < l.length
            · have t0 : decide ((k : Int) < l.length) = true := by simp; omega
              have i0 : (k : Int) < l.length := by omega
              have i1 : (0 : Int) ≤ k := by omega
              obtain ⟨m, z, dn, ln, pg, rd, nf⟩ := hst.out
              obtain ⟨q, off, rfl, hcell⟩ := rd k hlt
              have hnf := nf _ rfl
              have HQL : Hidden (q < wr.heap.size) := ⟨block_lt_of_cell hcell⟩
              have hstep := runE_step (copyF a) l 0 k D hlt z
              rw [Nat.zero_add] at hstep
              have HSTEP : Hidden (((copyF a k l[k] (runE (copyF a) 0 (l.take k) D).1).2 = 0 → CpSt w0 w wr F F' d p D a s l (some ⟨q, off, none⟩) k → ∀ w' F1, PdM w0 w w' F F1 d (copyF a k l[k] (runE (copyF a) 0 (l.take k) D).1).1 → PgH w' F1 p d s (nP D) → Rd w' (some ⟨q, off, none⟩) l → ¬ F1 q → CpSt w0 w w' F F1 d p D a s l (some ⟨q, off, none⟩) (k + 1)) ∧ ((copyF a k l[k] (runE (copyF a) 0 (l.take k) D).1).2 ≠ 0 → oP = copyF a k l[k] (runE (copyF a) 0 (l.take k) D).1)) := by
                refine ⟨fun h0 _ w' F1 hm hp hr hq => ?_, fun h0 => ?_⟩
                · have e := hstep.1 h0
                  exact ⟨by rw [e]; exact hm, by rw [e]; exact h0, by rw [e]; exact wrD_down h0, by rw [e]; exact (congrArg List.length (wrD_len _ _ _)).trans ln, hp, hr, fun ad e' hf => hq (by obtain rfl := Option.some.inj e'; exact hf)⟩
                · rw [HQ.out]
                  unfold andThen
                  rw [hstep.2 h0, if_neg h0]
              have HCF : Hidden (∀ x, copyF a k x (runE (copyF a) 0 (l.take k) D).1 = wrD (runE (copyF a) 0 (l.take k) D).1 (48 + (x.toNat : Int)) (readD (runE (copyF a) 0 (l.take k) D).1 (areaP a k))) := ⟨fun _ => rfl⟩
              generalize (runE (copyF a) 0 (l.take k) D).1 = Dk at *
              generalize l[k] = x at *
              have hx8 := UInt8.toNat_lt x
              have s2 : IntKind.i64.wrap (x.toNat : Int) = (x.toNat : Int) := IntWalk.i64_in _ (by omega)
              have s3 : IntKind.i64.wrap (48 + (x.toNat : Int)) = 48 + (x.toNat : Int) := IntWalk.i64_in _ (by omega)
              have s4 : IntKind.i64.wrap ((k : Int) + 1) = (k : Int) + 1 := IntWalk.i64_in _ (by omega)
              have har : areaP a k < Dk.S.length := by rw [ln]; have := HL.out; unfold areaP; omega
              have HRD := Hidden.mk (m.dev.read (areaP a k) har dn)
              have HM := Hidden.mk m
              have HPG := Hidden.mk pg
              have HRDL := Hidden.mk rd
              have HNF := Hidden.mk hnf
              have HST := Hidden.mk hst.out
              have HAR := Hidden.mk (m.dev.wf.rd har)
              clear hst m z dn ln pg rd nf hnf hstep har
              go_wp2_with fail
              refine (area_any a k _ (by omega) (by omega)).mono ?_
              rintro e w3 ⟨rfl, rfl⟩
              go_wp2_with fail
              refine HRD.out.mono ?_
              rintro e w3 ⟨g, cap, rfl, hg, hrow, -, hb3, -⟩
              have HM3 := Hidden.mk (HM.out.below hb3)
              have HPG3 := Hidden.mk (HPG.out.below hb3)
              have HRD3 := Hidden.mk (HRDL.out.below hb3)
              have HQL3 := Hidden.mk (Nat.lt_of_lt_of_le HQL.out hb3.size)
              have hgF : ¬ F' g := fun hf => by have := HM.out.dev.flt _ hf; omega
              have HW := Hidden.mk (HM3.out.dev.write_all (48 + (x.toNat : Int)) (some ⟨g, 0, none⟩) 32 cap _ HAR.out hrow.rd (fun _ ad e hf => hgF (by obtain rfl := Option.some.inj e; exact hf)))
              rw [← HCF.out] at HW
              clear hg hrow hb3 hgF HRD HM HPG HRDL HCF
              go_wp2_with fail
              refine HW.out.mono ?_
              rintro e w4 ⟨rfl, hh⟩
              obtain ⟨F4, hm4⟩ := pdm_write _ hh
              have HM4 := Hidden.mk (HM3.out.next hm4)
              have HPG4 := Hidden.mk (HPG3.out.mod hm4)
              have HRD4 := Hidden.mk (HRD3.out.mod hm4 (fun ad e => by obtain rfl := Option.some.inj e; exact HNF.out))
              have HNF4 : Hidden (¬ F4 q) := ⟨fun hf => by
                rcases hm4.sub _ hf with h' | h'
                · exact HNF.out h'
                · have := HQL3.out; omega⟩
              clear hh hm4 HW HM3 HPG3 HRD3
              by_cases h0 : (copyF a k x Dk).2 = 0
              · have HN := Hidden.mk (HSTEP.out.1 h0 HST.out w4 F4 HM4.out HPG4.out HRD4.out HNF4.out)
                rw [h0, errV0]
                clear h0 HSTEP
                go_wp2_with fail
                go_roundg (l.length - (k + 1))
                case measure => omega
                case rel => exact ⟨k + 1, F4, by omega, rfl, by go_num, HN⟩
              · have HN := Hidden.mk (HSTEP.out.2 h0)
                have HZ := Hidden.mk h0
                have HEV := Hidden.mk (errV_pos h0)
                rw [HEV.out]
                generalize copyF a k x Dk = cf at *
                clear h0 HSTEP
                go_wp2_with fail
                go_ret2
                rw [HN.out]
                exact opAns_bad HM4.out HZ.out (by rw [HEV.out]; rfl)
            · obtain rfl : k = l.length := by omega
              have t0 : decide ((l.length : Int) < l.length) = false := by simp
              obtain ⟨m, z, dn, ln, pg, rd, nf⟩ := hst.out
              rw [List.take_of_length_le (Nat.le_refl _)] at m z
              have HQ2 : Hidden (oP = flD (runE (copyF a) 0 l D).1) := ⟨by rw [HQ.out]; unfold andThen; rw [if_pos z]⟩
              have HFL := Hidden.mk m.dev.flush_all
              have HM := Hidden.mk m
              have HPG := Hidden.mk pg
              rw [← HQ2.out] at HFL
              clear hst m z dn ln pg rd nf HQ HST HG
              go_wp2_with fail
              refine HFL.out.mono ?_
              rintro e w4 ⟨rfl, hd4, hk4⟩
              have hm4 : PdM w0 wr w4 F' F' d _ := ⟨hd4, hk4, fun _ hk => .inl hk⟩
              have HM4 := Hidden.mk (HM.out.next hm4)
              have HPG4 := Hidden.mk (HPG.out.mod hm4)
              clear hd4 hk4 hm4 HFL HM HPG
              by_cases h0 : oP.2 = 0
              · rw [h0, errV0]
                have HZ := Hidden.mk h0
                clear h0
                go_wp2_with fail
                go_ret2
                exact opAns_ok HM4.out HZ.out rfl HPG4.out HPN.out
              · have HZ := Hidden.mk h0
                have HEV := Hidden.mk (errV_pos h0)
                rw [HEV.out]
                clear h0
                go_wp2_with fail
                go_ret2
                exact opAns_bad HM4.out HZ.out (by rw [HEV.out]; rfl)
end
end Go.Proofs.YtbnobjlphmkgeaaGreatDoor
/- The contract of pages.check. -/
namespace Go.Proofs.YtbnobjlphmkgeaaGreatDoor
open Go.RowKit Go.Maps Go.ChangeMaps

/-- the pages seen so far, as the map has them -/
def seenF (s : List Int) (k : Nat) : Option Value := if (k : Int) ∈ s then some (.bool true) else none
theorem seenF_upd (s : List Int) (k : Nat) : upd (seenF s) k (.bool true) = seenF (s ++ [(k : Int)]) := by
  funext x
  unfold upd seenF
  by_cases hx : x = k
  · rw [if_pos hx, if_pos (by simp [hx])]
  · rw [if_neg hx]
    by_cases hs : (x : Int) ∈ s
    · rw [if_pos hs, if_pos (List.mem_append.2 (.inl hs))]
    · rw [if_neg hs, if_neg (by simp [hs]; omega)]
theorem zero_bool (w : World) : (zeroValue 4).run Tryz.prog w = .ok (.bool false) w := by kernel_rfl
theorem chk_step (n : Nat) (m : List (Int × Bytes)) (k : Nat) (hk : k < m.length) : chkL n ((m.take k).map (·.1)) (m.drop k) = if m[k].1 < 0 ∨ (n : Int) ≤ m[k].1 then 1 else if m[k].2.length ≠ 32 then 3 else if m[k].1 ∈ (m.take k).map (·.1) then 7 else chkL n ((m.take (k + 1)).map (·.1)) (m.drop (k + 1)) := by
  rw [List.drop_eq_getElem_cons hk, List.take_succ_eq_append_getElem hk, List.map_append]
  rfl
structure ChkSt (w wr : World) (mb n : Nat) (m : List (Int × Bytes)) (k : Nat) : Prop where
  im : IM Tryz.prog 3 natL wr mb (seenF ((m.take k).map (·.1))) k
  bel : Below w.heap.size w wr
  new : w.heap.size ≤ mb
  eq : chkL n [] m = chkL n ((m.take k).map (·.1)) (m.drop k)
section
variable {w0 w : World} {F : Nat → Prop} {p d st n : Nat}
set_option maxRecDepth 100000 in
theorem pcheck_any (hp : PgH w F p d st n) (hn : n ≤ 200) (A : Option Addr) (m c : Nat) (L : List PgX) (hm : L.length = m) (_hmc : m ≤ c) (hr : RdX pcells 2 w A L) :
    Calls Tryz.prog 109 #[.pointer (some ⟨p, 0, none⟩), .slice A m c] w fun e w' => e = .returned (errV (chkP n (pgs L))) ∧ Below w.heap.size w w' := by
  have hpl : (pgs L).length = m := by simp [pgs, hm]
  by_cases h23 : 23 < m
  · have e : chkP n (pgs L) = 4 := by unfold chkP; rw [if_pos (by omega)]
    rw [e]
    have t1 : decide (23 < (m : Int)) = true := by simp; omega
    have t2 : decide (23 < m) = true := by simpa using h23
    clear hr hm hpl e h23
    go_enter Tryz.func109, Tryz.ntmps109
    go_wp2_with fail
    go_ret
    exact ⟨rfl, Below.refl _ _⟩
  · have HE : Hidden (chkP n (pgs L) = chkL n [] (pgs L)) := ⟨by unfold chkP; rw [if_neg (by omega)]⟩
    have t1 : decide (23 < (m : Int)) = false := by simp; omega
    have t2 : decide (23 < m) = false := by simp; omega
    have hm23 : m ≤ 23 := by omega
    have HM := Hidden.mk hm
    have HPL := Hidden.mk hpl
    have HR := Hidden.mk hr
    have HP := Hidden.mk hp
    have hmm := @run_makeMap Tryz.prog
    have HST : Hidden (ChkSt w (w.alloc (.map #[] 0)) w.heap.size n (pgs L) 0) := ⟨⟨IM.made w, (Below.refl _ _).alloc (Nat.le_refl _) _, Nat.le_refl _, rfl⟩⟩
    generalize chkP n (pgs L) = E at *
    clear hr hm hpl h23 hp
    go_enter Tryz.func109, Tryz.ntmps109
    go_wp2_with fail
    clear hmm
    go_loopg [15] m (fun r i wr => ∃ k : Nat, k ≤ m ∧ r = m - k ∧ i = .int .i64 (k : Int) ∧ Hidden (ChkSt w wr w.heap.size n (pgs L) k))
    case atStart => exact ⟨0, by omega, rfl, rfl, HST⟩
    case round =>
      obtain ⟨k, hk, rfl, rfl, hst⟩ := hrel
      by_cases hlt : k < m
      · have i0 : (0 : Int) ≤ k := by omega
        have i1 : (k : Int) < m := by omega
        have hkl : k < L.length := by rw [HM.out]; exact hlt
        obtain ⟨pb, off, rfl, hc⟩ := HR.out k hkl
        have e0 := hc 0 _ rfl
        have e1 := hc 1 _ rfl
        rw [Nat.add_zero] at e0
        have plt := block_lt_of_cell e0
        have c0 := (hst.out.bel.cell (p := ⟨pb, off + k * 2, none⟩) plt).trans e0
        have c1 := (hst.out.bel.cell (p := ⟨pb, off + k * 2 + 1, none⟩) plt).trans e1
        have hcs := chk_step n (pgs L) k (by rw [HPL.out]; exact hlt)
        have hpk : (pgs L)[k]'(by rw [HPL.out]; exact hlt) = (L[k].num, L[k].body) := by simp [pgs]
        have htk := pgs_take L k hkl
        rw [hpk] at hcs
        have HEQ := Hidden.mk (show E = _ from HE.out.trans (hst.out.eq.trans hcs))
        have HTK := Hidden.mk (show ((pgs L).take (k + 1)).map (·.1) = ((pgs L).take k).map (·.1) ++ [L[k].num] by rw [htk]; simp)
        have HIM := Hidden.mk hst.out.im
        have HBL := Hidden.mk hst.out.bel
        have HEQ2 := Hidden.mk hst.out.eq
        have HPC := Hidden.mk (HP.out.below hst.out.bel)
        have HB2 := Hidden.mk (hst.out.bel.alloc hst.out.bel.size (.cells #[.int .i64 L[k].num, .slice L[k].A L[k].body.length L[k].cap] 89))
        have hbx := heap_alloc_new wr (.cells #[.int .i64 L[k].num, .slice L[k].A L[k].body.length L[k].cap] 89)
        have him := Below.heap_alloc wr (.cells #[.int .i64 L[k].num, .slice L[k].A L[k].body.length L[k].cap] 89) w.heap.size hst.out.im.lt
        have hp2 := (HPC.out.below ((Below.refl _ wr).alloc (Nat.le_refl _) (.cells #[.int .i64 L[k].num, .slice L[k].A L[k].body.length L[k].cap] 89))).cell.2.2
        have HIM2 := Hidden.mk (hst.out.im.block him)
        generalize L[k] = x at *
        obtain ⟨num, xA, xc, body⟩ := x
        dsimp only at *
        generalize ((pgs L).take k).map (·.1) = S at *
        clear hst e0 e1 hc hcs hpk htk him HIM HBL HPC HST plt
        have b0 : (wr.alloc (.cells #[.int .i64 num, .slice xA body.length xc] 89)).cell? ⟨wr.heap.size, 0, none⟩ = some (.int .i64 num) := by simp only [World.cell?]; rw [hbx]; rfl
        have b1 : (wr.alloc (.cells #[.int .i64 num, .slice xA body.length xc] 89)).cell? ⟨wr.heap.size, 1, none⟩ = some (.slice xA body.length xc) := by simp only [World.cell?]; rw [hbx]; rfl
        clear hbx
        go_upto_region 7 with (fail)
        generalize wr.alloc (.cells #[.int .i64 num, .slice xA body.length xc] 89) = W2 at *
        generalize wr.heap.size = bx at *
        by_cases n0 : num < 0
        · have d1 : decide (num < 0) = true := by simpa using n0
          have HV := Hidden.mk (show E = 1 by rw [HEQ.out, if_pos (.inl n0)])
          clear n0 HEQ HEQ2 HTK HIM2 c0 c1
          go_quiet (fail)
          go_wp2_with fail
          go_ret
          exact ⟨by rw [HV.out]; rfl, below_drewN HB2.out _⟩
        by_cases n1 : (n : Int) ≤ num
        · have d1 : decide (num < 0) = false := by simpa using n0
          have d2 : decide ((n : Int) ≤ num) = true := by simpa using n1
          have HV := Hidden.mk (show E = 1 by rw [HEQ.out, if_pos (.inr n1)])
          clear n0 n1 HEQ HEQ2 HTK HIM2 c0 c1
          go_quiet (fail)
          go_wp2_with fail
          go_ret
          exact ⟨by rw [HV.out]; rfl, below_drewN HB2.out _⟩
        obtain ⟨kk, rfl⟩ := Int.eq_ofNat_of_zero_le (show 0 ≤ num by omega)
        have hkn : kk < n := by omega
        have d1 : decide ((kk : Int) < 0) = false := by simp
        have d2 : decide ((n : Int) ≤ kk) = false := by simp; omega
        have d3 : decide (n ≤ kk) = false := by simp; omega
        have HEQ := Hidden.mk (show E = if body.length ≠ 32 then 3 else if (kk : Int) ∈ S then 7 else chkL n (((pgs L).take (k + 1)).map (·.1)) ((pgs L).drop (k + 1)) by rw [HEQ.out, if_neg (by omega)])
        clear n0 n1
        go_quiet (fail)
        have HB3 := Hidden.mk (below_drewN HB2.out nq)
        have HIM3 := Hidden.mk (HIM2.out.block (w' := W2.drewN nq) rfl)
        have b0' : (W2.drewN nq).cell? ⟨bx, 0, none⟩ = some (.int .i64 (kk : Int)) := b0
        have b1' : (W2.drewN nq).cell? ⟨bx, 1, none⟩ = some (.slice xA body.length xc) := b1
        generalize W2.drewN nq = W3 at *
        clear b0 b1 hp2 HB2 HIM2
        by_cases h32 : body.length = 32
        · have d4 : ((body.length : Int) != 32) = false := by simp [h32]
          have HEQ := Hidden.mk (show E = if (kk : Int) ∈ S then 7 else chkL n (((pgs L).take (k + 1)).map (·.1)) ((pgs L).drop (k + 1)) by rw [HEQ.out, if_neg (by omega)])
          clear h32
          by_cases hS : (kk : Int) ∈ S
          · have hf : seenF S kk = some (.bool true) := by unfold seenF; rw [if_pos hS]
            have hl := (HIM3.out.look_some int_keyed (T := 223) Tryz.underlying223 (zero_bool W3) (int_key (n := kk) (by omega)) hf).2
            have HV := Hidden.mk (show E = 7 by rw [HEQ.out, if_pos hS])
            clear hS hf HEQ HEQ2 HTK HIM3 c0 c1
            go_wp2_with fail
            go_ret
            exact ⟨by rw [HV.out]; rfl, HB3.out⟩
          · have hf : seenF S kk = none := by unfold seenF; rw [if_neg hS]
            have hl := (HIM3.out.look_none int_keyed (T := 223) Tryz.underlying223 (zero_bool W3) (int_key (n := kk) (by omega)) hf).2
            obtain ⟨W4, hrun, him4, hg4, hs4⟩ := HIM3.out.store int_keyed natL_inj (T := 223) Tryz.underlying223 (by simp only [maxLen]; omega) (int_key (n := kk) (by omega)) (.bool true)
            rw [seenF_upd, hf, if_neg (by simp), ← HTK.out] at him4
            have hB4 : Below w.heap.size w W4 := HB3.out.grown hg4 HB3.out.size (fun q hq => Nat.le_of_eq (Option.some.inj hq))
            have HN : Hidden (ChkSt w W4 w.heap.size n (pgs L) (k + 1)) := ⟨him4, hB4, Nat.le_refl _, by rw [← HE.out, HEQ.out, if_neg hS]⟩
            clear hS hf HEQ HEQ2 HTK HIM3 c0 c1 him4 hB4 hg4 hs4
            go_wp2_with fail
            go_roundg (m - (k + 1))
            case measure => omega
            case rel => exact ⟨k + 1, by omega, rfl, by go_num, HN⟩
        · have d4 : ((body.length : Int) != 32) = true := by simp; omega
          have HV := Hidden.mk (show E = 3 by rw [HEQ.out, if_pos h32])
          clear h32 HEQ HEQ2 HTK HIM3 c0 c1
          go_wp2_with fail
          go_ret
          exact ⟨by rw [HV.out]; rfl, HB3.out⟩
      · obtain rfl : k = m := by omega
        have HV : Hidden (E = 0) := ⟨by rw [HE.out, hst.out.eq, List.drop_of_length_le (by rw [HPL.out]; exact Nat.le_refl _)]; rfl⟩
        have HB := Hidden.mk hst.out.bel
        clear hst HST
        go_wp2_with fail
        go_ret
        exact ⟨by rw [HV.out]; rfl, HB.out⟩
end
end Go.Proofs.YtbnobjlphmkgeaaGreatDoor
/- Pages: what is safe, wherever the power goes. No program in sight. -/
namespace Go.Proofs.YtbnobjlphmkgeaaGreatDoor
open Go.RowKit

/-- a mark that counts for nothing beside the stamp st -/
def Oth (st : Nat) (x : Bytes) : Prop := x.length = 32 ∧ (ofB (x.drop 28) = 0 ∨ (ofB (x.drop 28) < st ∧ ofB (x.drop 28) % 2 = (st + 1) % 2))
theorem mark_stamp (n : Nat) (x : Bytes) : (markOf n x).1 = 0 ∨ ((markOf n x).1 = ofB (x.drop 28) ∧ (markOf n x).1 ≠ 0) := by
  unfold markOf
  split
  · exact .inl rfl
  · rename_i h
    split
    · exact .inl rfl
    · split
      · right
        have h0 : (openF x).2.2 = 0 := by simpa using h
        unfold openF at h0
        split at h0
        · cases h0
        · split at h0
          · cases h0
          · split at h0
            · cases h0
            · rename_i h1 h2 h3
              refine ⟨?_, h3⟩
              show ofB (x.take 4) = _
              rw [Decidable.not_not.1 h2]
      · exact .inl rfl
theorem oth_mark {n st : Nat} {x : Bytes} (h : Oth st x) (h1 : 1 ≤ st) : (markOf n x).1 < st := by
  rcases mark_stamp n x with h' | ⟨h', h0⟩
  · omega
  · rcases h.2 with h2 | ⟨h2, _⟩ <;> omega
theorem oth_num {nx E e A Q B : Nat} (hE : E = A + B * Q) (_hA : A < B) (hQ : E < nx) (he : e = nx % B + B * Q) (hB : B = 256 ∨ B = 65536 ∨ B = 16777216 ∨ B = 4294967296) : e = nx ∨ (e < nx ∧ e % 2 = nx % 2) := by
  rcases hB with rfl | rfl | rfl | rfl <;> omega
theorem oth_mix {st : Nat} {x b : Bytes} (c : Nat) (h : Oth st x) (hst : st + 1 ≤ 4294967295) (hb : b.length ≤ 24) (hc : c ≤ 32) (h1 : 1 ≤ st) :
    (makeB (st + 1) b).take c ++ x.drop c = makeB (st + 1) b ∨ Oth st ((makeB (st + 1) b).take c ++ x.drop c) := by
  have hl := makeB_len (st + 1) b hb
  have hlt : ((makeB (st + 1) b).take c).length = c := by simp; omega
  have hyl : ((makeB (st + 1) b).take c ++ x.drop c).length = 32 := by rw [List.length_append, hlt, List.length_drop, h.1]; omega
  by_cases h28 : c ≤ 28
  · right
    refine ⟨hyl, ?_⟩
    rw [List.drop_append, hlt, List.drop_of_length_le (by omega), List.nil_append, List.drop_drop, show c + (28 - c) = 28 by omega]
    exact h.2
  · have hd : ((makeB (st + 1) b).take c ++ x.drop c).drop 28 = numB (st + 1) (c - 28) ++ (x.drop 28).drop (c - 28) := by
      rw [List.drop_append, hlt, show 28 - c = 0 by omega, List.drop_zero, List.drop_take, makeB_drop _ _ hb, numB_take _ _ _ (by omega), List.drop_drop, show 28 + (c - 28) = c by omega]
    have hx4 : (x.drop 28).length = 4 := by simp [h.1]
    have hA : ofB ((x.drop 28).take (c - 28)) < 2 ^ (8 * (c - 28)) := by
      have := ofB_lt ((x.drop 28).take (c - 28))
      rwa [List.length_take, hx4, Nat.min_eq_left (by omega)] at this
    have hE : ofB (x.drop 28) = ofB ((x.drop 28).take (c - 28)) + 2 ^ (8 * (c - 28)) * ofB ((x.drop 28).drop (c - 28)) := by
      conv => lhs; rw [← List.take_append_drop (c - 28) (x.drop 28)]
      rw [ofB_append, List.length_take, hx4, Nat.min_eq_left (by omega)]
    have he : ofB (((makeB (st + 1) b).take c ++ x.drop c).drop 28) = (st + 1) % 2 ^ (8 * (c - 28)) + 2 ^ (8 * (c - 28)) * ofB ((x.drop 28).drop (c - 28)) := by
      rw [hd, ofB_append, ofB_numB, numB_length]
    have hB : 2 ^ (8 * (c - 28)) = 256 ∨ 2 ^ (8 * (c - 28)) = 65536 ∨ 2 ^ (8 * (c - 28)) = 16777216 ∨ 2 ^ (8 * (c - 28)) = 4294967296 := by
      have : c - 28 = 1 ∨ c - 28 = 2 ∨ c - 28 = 3 ∨ c - 28 = 4 := by omega
      rcases this with h | h | h | h <;> rw [h] <;> decide
    have hlt' : ofB (x.drop 28) < st + 1 := by rcases h.2 with h | ⟨h, _⟩ <;> omega
    rcases oth_num hE hA hlt' he hB with h' | ⟨h', hp⟩
    · left
      have e4 : ((makeB (st + 1) b).take c ++ x.drop c).drop 28 = numB (st + 1) 4 := by
        refine ofB_inj _ _ ?_ (by rw [h', ofB_numB4 _ hst])
        rw [List.length_drop, hyl, numB_length]
      have e28 : ((makeB (st + 1) b).take c ++ x.drop c).take 28 = (makeB (st + 1) b).take 28 := by
        rw [List.take_append_of_le_length (by omega), List.take_take, Nat.min_eq_left (by omega)]
      rw [← List.take_append_drop 28 ((makeB (st + 1) b).take c ++ x.drop c), e4, e28, ← makeB_drop (st + 1) b hb, List.take_append_drop]
    · right
      exact ⟨hyl, .inr ⟨by omega, hp⟩⟩

/-- what is wrong with pages: nothing -/
theorem chkL_zero {n : Nat} : ∀ (l : List (Int × Bytes)) (seen : List Int), chkL n seen l = 0 → (∀ x ∈ l, 0 ≤ x.1 ∧ x.1 < n ∧ x.2.length = 32 ∧ x.1 ∉ seen) ∧ (l.map (·.1)).Nodup
  | [], _, _ => ⟨by simp, by simp⟩
  | x :: r, seen, h => by
    unfold chkL at h
    split at h
    · cases h
    · split at h
      · cases h
      · split at h
        · cases h
        · rename_i h1 h2 h3
          obtain ⟨a, b⟩ := chkL_zero r _ h
          refine ⟨fun y hy => ?_, ?_⟩
          · rcases List.mem_cons.1 hy with rfl | hy
            · exact ⟨by omega, by omega, by omega, h3⟩
            · have := a y hy
              exact ⟨this.1, this.2.1, this.2.2.1, fun hs => this.2.2.2 (List.mem_append.2 (.inl hs))⟩
          · rw [List.map_cons, List.nodup_cons]
            refine ⟨fun hm => ?_, b⟩
            obtain ⟨y, hy, e⟩ := List.mem_map.1 hm
            exact (a y hy).2.2.2 (List.mem_append.2 (.inr (by simp [e])))
structure ChkOk (n : Nat) (m : List (Int × Bytes)) : Prop where
  len : m.length ≤ 23
  each : ∀ x ∈ m, 0 ≤ x.1 ∧ x.1 < n ∧ x.2.length = 32
  nd : (m.map (·.1)).Nodup
theorem chkP_zero {n : Nat} {m : List (Int × Bytes)} (h : chkP n m = 0) : ChkOk n m := by
  unfold chkP at h
  split at h
  · cases h
  · obtain ⟨a, b⟩ := chkL_zero m [] h
    exact ⟨by omega, fun x hx => ⟨(a x hx).1, (a x hx).2.1, (a x hx).2.2.1⟩, b⟩
theorem u8_small {k : Nat} (h : k < 256) : (UInt8.ofNat k).toNat = k := by simp; omega
/-- the mark of pages that are right says so -/
theorem markOf_markB {n nx : Nat} {m : List (Int × Bytes)} (hm : ChkOk n m) (hn : n ≤ 200) (h1 : 1 ≤ nx) (h2 : nx ≤ 4294967295) : markOf n (markB nx m) = (nx, numsB m) ∧ (markB nx m).length = 32 := by
  have hl := hm.len
  have hbl : (UInt8.ofNat m.length :: numsB m).length ≤ 24 := by simp [numsB]; omega
  have hlen : (markB nx m).length = 32 := makeB_len _ _ hbl
  have hst : stampOf (markB nx m) = nx := makeB_stamp _ _ h2
  have hbody : bodyOf (markB nx m) = (UInt8.ofNat m.length :: numsB m) ++ List.replicate (24 - (UInt8.ofNat m.length :: numsB m).length) 0 := makeB_body _ _ hbl
  have h0 : ((bodyOf (markB nx m)).getD 0 0).toNat = m.length := by rw [hbody]; show (UInt8.ofNat m.length).toNat = _; exact u8_small (by omega)
  have hmk : mkL (markB nx m) = numsB m := by
    unfold mkL
    rw [h0, hbody]
    show (numsB m ++ _).take m.length = _
    rw [List.take_append_of_le_length (by simp [numsB]), List.take_of_length_le (by simp [numsB])]
  refine ⟨?_, hlen⟩
  have ho : (openF (markB nx m)).2.2 = 0 := by
    unfold openF
    rw [if_neg (by omega), if_neg (by unfold markB; rw [makeB_take, makeB_drop _ _ hbl]; simp), if_neg (by omega)]
  unfold markOf
  rw [if_neg (by omega), if_neg (by omega), hmk, hst, if_pos]
  rw [List.all_eq_true]
  intro x hx
  obtain ⟨y, hy, rfl⟩ := List.mem_map.1 hx
  have := hm.each y hy
  have e : (UInt8.ofNat y.1.toNat).toNat = y.1.toNat := u8_small (by omega)
  rw [e]
  simp; omega
/-- pages behind a commit -/
def updPg (pg : Nat → Bytes) (m : List (Int × Bytes)) (i : Nat) : Bytes := m.foldl (fun d x => if x.1 = (i : Int) then x.2 else d) (pg i)
theorem fold_not {i : Nat} : ∀ (m : List (Int × Bytes)) (d : Bytes), (∀ x ∈ m, x.1 ≠ (i : Int)) → m.foldl (fun d x => if x.1 = (i : Int) then x.2 else d) d = d
  | [], _, _ => rfl
  | x :: r, d, h => by
    rw [List.foldl_cons, if_neg (h x List.mem_cons_self)]
    exact fold_not r d fun y hy => h y (List.mem_cons_of_mem _ hy)
theorem fold_at {i : Nat} : ∀ (m : List (Int × Bytes)) (d : Bytes) (k : Nat) (hk : k < m.length), (m.map (·.1)).Nodup → m[k].1 = (i : Int) → m.foldl (fun d x => if x.1 = (i : Int) then x.2 else d) d = m[k].2
  | [], _, k, hk, _, _ => by simp at hk
  | x :: r, d, 0, _, hn, e => by
    rw [List.map_cons, List.nodup_cons] at hn
    have e' : x.1 = (i : Int) := e
    rw [List.foldl_cons, if_pos e']
    exact fold_not r _ fun y hy e2 => hn.1 (List.mem_map.2 ⟨y, hy, by rw [e2, e']⟩)
  | x :: r, d, k + 1, hk, hn, e => by
    rw [List.map_cons, List.nodup_cons] at hn
    rw [List.foldl_cons]
    exact fold_at r _ k (by simpa using hk) hn.2 e

/-- the pages pg are there, of the stamp st: whatever is kept of what is pending, what is opened is they -/
structure Hold (n : Nat) (D : Dv) (st : Nat) (l : Bytes) (pg : Nat → Bytes) : Prop where
  n0 : n = nP D
  ln : 49 ≤ D.S.length
  mrk : ∃ v, Stab D (st % 2) v ∧ markOf n v = (st, l)
  pos : 1 ≤ st
  l23 : l.length ≤ 23
  inl : ∀ x ∈ l, x.toNat < n
  ar : ∀ k (hk : k < l.length), Stab D (areaP (st % 2) k) (pg l[k].toNat)
  rest : ∀ i, i < n → (∀ x ∈ l, x.toNat ≠ i) → Stab D (48 + i) (pg i)
  oth : ∃ v, Stab D ((st + 1) % 2) v ∧ Oth st v
/-- and they stand at their places, too -/
structure Full (n : Nat) (D : Dv) (st : Nat) (l : Bytes) (pg : Nat → Bytes) : Prop where
  hold : Hold n D st l pg
  all : ∀ i, i < n → Stab D (48 + i) (pg i)
section
variable {n st : Nat} {D D' : Dv} {l : Bytes} {pg : Nat → Bytes}
/-- all that counts is as it was -/
theorem Hold.same (h : Hold n D st l pg) (hl : D'.S.length = D.S.length)
    (hs : ∀ j v, j < D.S.length → (j < 2 ∨ (∃ k, k < l.length ∧ j = areaP (st % 2) k) ∨ (∃ i, i < n ∧ (∀ x ∈ l, x.toNat ≠ i) ∧ j = 48 + i)) → Stab D j v → Stab D' j v) : Hold n D' st l pg := by
  have hln := h.ln
  have hn := nP_le D
  have h23 := h.l23
  refine ⟨by rw [h.n0]; unfold nP; rw [hl], by rw [hl]; exact h.ln, ?_, h.pos, h.l23, h.inl, fun k hk => hs _ _ (by unfold areaP; omega) (.inr (.inl ⟨k, hk, rfl⟩)) (h.ar k hk), fun i hi hx => hs _ _ (by rw [h.n0] at hi; omega) (.inr (.inr ⟨i, hi, hx, rfl⟩)) (h.rest i hi hx), ?_⟩
  · obtain ⟨v, h1, h2⟩ := h.mrk
    exact ⟨v, hs _ _ (by omega) (.inl (by omega)) h1, h2⟩
  · obtain ⟨v, h1, h2⟩ := h.oth
    exact ⟨v, hs _ _ (by omega) (.inl (by omega)) h1, h2⟩
theorem Hold.fl (h : Hold n D st l pg) : Hold n (flD D).1 st l pg := h.same (flD_len D) fun _ _ hj _ hv => hv.fl hj
theorem Full.fl (h : Full n D st l pg) : Full n (flD D).1 st l pg := by
  refine ⟨h.hold.fl, fun i hi => (h.all i hi).fl ?_⟩
  have := nP_le D
  have := h.hold.ln
  rw [h.hold.n0] at hi; omega
theorem Hold.crash (h : Hold n D st l pg) (hw : WfD D) (keep : List Bool) (torn : Int) (c : Nat) (hc : c ≤ 32) : Hold n (crashD D keep torn c) st l pg := h.same (crash_len _ _ _ _) fun _ _ hj _ hv => hv.crash hw hj keep torn c hc
/-- what is written into the other area, or where a page stands that the mark names -/
theorem Hold.wrA (h : Hold n D st l pg) (k : Nat) (hk : k < 23) (b : Bytes) : Hold n (wrD D (areaP ((st + 1) % 2) k : Nat) b).1 st l pg :=
  h.same (by rw [wrD_len]) fun j v _ hj hv => hv.wr _ _ (by
    have := h.l23
    rcases hj with h' | ⟨q, hq, rfl⟩ | ⟨i, _, _, rfl⟩ <;> (unfold areaP; omega))
theorem Full.wrA (h : Full n D st l pg) (k : Nat) (hk : k < 23) (b : Bytes) : Full n (wrD D (areaP ((st + 1) % 2) k : Nat) b).1 st l pg :=
  ⟨h.hold.wrA k hk b, fun i hi => (h.all i hi).wr _ _ (by unfold areaP; omega)⟩
theorem Hold.wrP (h : Hold n D st l pg) (x : UInt8) (hx : x ∈ l) (b : Bytes) : Hold n (wrD D (48 + (x.toNat : Int)) b).1 st l pg :=
  h.same (by rw [wrD_len]) fun j v _ hj hv => hv.wr _ _ (by
    have := h.l23
    rcases hj with h' | ⟨q, hq, rfl⟩ | ⟨i, _, hi, rfl⟩
    · omega
    · unfold areaP; omega
    · have := hi x hx; omega)
end
section
variable {X : Type} {f : Nat → X → Dv → Dv × Nat}
theorem runE_inv {P : Dv → Prop} : ∀ (l : List X) (k : Nat) (D : Dv), P D → (∀ j x D, k ≤ j → j < k + l.length → x ∈ l → P D → P (f j x D).1) → P (runE f k l D).1
  | [], _, _, h, _ => h
  | x :: r, k, D, h, hf => by
    unfold runE
    have h1 := hf k x D (Nat.le_refl _) (by simp) List.mem_cons_self h
    split
    · exact runE_inv r (k + 1) _ h1 fun j y D h2 h3 h4 h5 => hf j y D (by omega) (by simp at *; omega) (List.mem_cons_of_mem _ h4) h5
    · exact h1
theorem runE_err {P : Dv → Prop} (e : Nat) : ∀ (l : List X) (k : Nat) (D : Dv), P D → (∀ j x D, k ≤ j → j < k + l.length → x ∈ l → P D → P (f j x D).1 ∧ ((f j x D).2 ≠ 0 → (f j x D).2 = e)) → (runE f k l D).2 ≠ 0 → (runE f k l D).2 = e
  | [], _, _, _, _, h => absurd rfl h
  | x :: r, k, D, h, hf, hn => by
    unfold runE at hn ⊢
    have h1 := hf k x D (Nat.le_refl _) (by simp) List.mem_cons_self h
    split
    · rename_i h0
      rw [if_pos h0] at hn
      exact runE_err e r (k + 1) _ h1.1 (fun j y D h2 h3 h4 h5 => hf j y D (by omega) (by simp at *; omega) (List.mem_cons_of_mem _ h4) h5) hn
    · rename_i h0
      exact h1.2 h0
end
theorem wrD_read {D : Dv} {i : Int} {b : Bytes} (h : (wrD D i b).2 = 0) (j : Nat) : readD (wrD D i b).1 j = if i = (j : Int) then b else readD D j := by
  rcases wrD_cases D i b with ⟨_, h'⟩ | ⟨h0, _, _, _, h1, _⟩
  · exact absurd h h'
  · rw [h1, readD_step, readD_put]
    by_cases hj : i = (j : Int)
    · rw [if_pos (by omega), if_pos hj]
    · rw [if_neg (by omega), if_neg hj]
theorem wrD_read' (D : Dv) {i : Int} {b : Bytes} (j : Nat) (hij : i ≠ (j : Int)) : readD (wrD D i b).1 j = readD D j := by
  rcases wrD_cases D i b with ⟨h', _⟩ | ⟨h0, _, _, _, h1, _⟩
  · rw [h']
  · rw [h1, readD_step, readD_put, if_neg (by omega)]
theorem runA_other (a : Nat) (j : Nat) : ∀ (m : List (Int × Bytes)) (k : Nat) (D : Dv), (∀ q, k ≤ q → q < k + m.length → areaP a q ≠ j) → readD (runE (areaF a) k m D).1 j = readD D j
  | [], _, _, _ => rfl
  | x :: r, k, D, h => by
    unfold runE
    have h1 : readD (areaF a k x D).1 j = readD D j := wrD_read' D j (by have := h k (Nat.le_refl _) (by simp); omega)
    split
    · rw [runA_other a j r (k + 1) _ (fun q h2 h3 => h q (by omega) (by simp; omega)), h1]
    · exact h1
theorem runA_read (a : Nat) : ∀ (m : List (Int × Bytes)) (k : Nat) (D : Dv), (runE (areaF a) k m D).2 = 0 → ∀ q (hq : q < m.length), readD (runE (areaF a) k m D).1 (areaP a (k + q)) = m[q].2
  | [], _, _, _, q, hq => by simp at hq
  | x :: r, k, D, h, q, hq => by
    unfold runE at h ⊢
    by_cases h0 : (areaF a k x D).2 = 0
    · rw [if_pos h0] at h ⊢
      rcases q with _ | q
      · rw [runA_other a _ r (k + 1) _ (fun q h2 h3 => by unfold areaP; omega), Nat.add_zero]
        show readD (wrD D _ _).1 _ = x.2
        rw [wrD_read h0, if_pos rfl]
      · have := runA_read a r (k + 1) _ h q (by simpa using hq)
        rw [show k + (q + 1) = k + 1 + q by omega, this]; rfl
    · rw [if_neg h0] at h; exact absurd h h0
theorem runP_read (i : Nat) : ∀ (m : List (Int × Bytes)) (k : Nat) (D : Dv), (runE pageF k m D).2 = 0 → readD (runE pageF k m D).1 (48 + i) = m.foldl (fun d x => if x.1 = (i : Int) then x.2 else d) (readD D (48 + i))
  | [], _, _, _ => rfl
  | x :: r, k, D, h => by
    unfold runE at h ⊢
    by_cases h0 : (pageF k x D).2 = 0
    · rw [if_pos h0] at h ⊢
      rw [runP_read i r (k + 1) _ h, List.foldl_cons]
      congr 1
      show readD (wrD D _ _).1 _ = _
      rw [wrD_read h0]
      by_cases e : x.1 = (i : Int)
      · rw [if_pos (by omega), if_pos e]
      · rw [if_neg (by omega), if_neg e]
    · rw [if_neg h0] at h; exact absurd h h0
theorem runC_read (a : Nat) (ha : a < 2) (pg : Nat → Bytes) (i : Nat) : ∀ (l : Bytes) (k : Nat) (D : Dv), k + l.length ≤ 23 → (∀ q (hq : q < l.length), readD D (areaP a (k + q)) = pg l[q].toNat) → (runE (copyF a) k l D).2 = 0 →
    readD (runE (copyF a) k l D).1 (48 + i) = if ∃ x ∈ l, x.toNat = i then pg i else readD D (48 + i)
  | [], _, _, _, _, _ => by simp [runE]
  | x :: r, k, D, hk, har, h => by
    unfold runE at h ⊢
    by_cases h0 : (copyF a k x D).2 = 0
    · rw [if_pos h0] at h ⊢
      have hlen : (x :: r).length = r.length + 1 := rfl
      have hr : ∀ q (hq : q < r.length), readD (copyF a k x D).1 (areaP a (k + 1 + q)) = pg r[q].toNat := fun q hq => by
        have := har (q + 1) (by simpa using hq)
        rw [show k + (q + 1) = k + 1 + q by omega] at this
        show readD (wrD D _ _).1 _ = _
        rw [wrD_read' D _ (by unfold areaP; omega), this]; rfl
      rw [runC_read a ha pg i r (k + 1) _ (by omega) hr h]
      have hx : readD (copyF a k x D).1 (48 + i) = if x.toNat = i then pg i else readD D (48 + i) := by
        show readD (wrD D _ _).1 _ = _
        rw [wrD_read h0]
        by_cases e : x.toNat = i
        · rw [if_pos (by omega), if_pos e]
          have := har 0 (by simp)
          rw [Nat.add_zero] at this
          rw [this]; show pg x.toNat = _; rw [e]
        · rw [if_neg (by omega), if_neg e]
      rw [hx]
      by_cases e : x.toNat = i
      · rw [if_pos e]
        rw [if_pos (⟨x, List.mem_cons_self, e⟩ : ∃ y ∈ x :: r, y.toNat = i)]
        split <;> rfl
      · rw [if_neg e]
        have : (∃ y ∈ x :: r, y.toNat = i) ↔ ∃ y ∈ r, y.toNat = i := ⟨fun ⟨y, hy, h'⟩ => by
          rcases List.mem_cons.1 hy with rfl | hy
          · exact absurd h' e
          · exact ⟨y, hy, h'⟩, fun ⟨y, hy, h⟩ => ⟨y, List.mem_cons_of_mem _ hy, h⟩⟩
        simp only [this]
    · rw [if_neg h0] at h; exact absurd h h0
end Go.Proofs.YtbnobjlphmkgeaaGreatDoor
/- Pages: what Open and Commit keep, wherever the power goes. No program in sight. -/
namespace Go.Proofs.YtbnobjlphmkgeaaGreatDoor
open Go.RowKit

section
variable {n st : Nat} {D : Dv} {l : Bytes} {pg : Nat → Bytes}
theorem Hold.lens (h : Hold n D st l pg) : n ≤ 200 ∧ n + 48 ≤ D.S.length ∧ 1 ≤ n := by
  have := h.ln
  have h0 := h.n0
  unfold nP at h0
  omega
/-- what is opened is what counts -/
theorem Hold.opened (h : Hold n D st l pg) : openMk D = (st, st % 2, l) := by
  obtain ⟨v, h1, h2⟩ := h.mrk
  obtain ⟨u, h3, h4⟩ := h.oth
  have ho := oth_mark (n := n) h4 h.pos
  unfold openMk
  rw [← h.n0]
  by_cases hp : st % 2 = 0
  · have hq : (st + 1) % 2 = 1 := by omega
    rw [hp] at h1
    rw [hq] at h3
    rw [h1.2, h3.2, h2]
    unfold pick
    dsimp only
    rw [if_neg (by omega), hp]
  · have hp1 : st % 2 = 1 := by omega
    have hq : (st + 1) % 2 = 0 := by omega
    rw [hp1] at h1
    rw [hq] at h3
    rw [h1.2, h3.2, h2]
    unfold pick
    dsimp only
    rw [if_pos ho, hp1]
/-- while pages are copied -/
theorem Hold.copy (_h : Hold n D st l pg) (k : Nat) (x : UInt8) (hx : x ∈ l) (D' : Dv) (h' : Hold n D' st l pg) : Hold n (copyF (st % 2) k x D').1 st l pg := h'.wrP x hx _
/-- a device that is safe, opened -/
theorem open_safe (h : Hold n D st l pg) (hw : WfD D) :
    ((openP D).2 = 0 ∧ Full n (openP D).1 st l pg ∧ (openP D).1.O = [] ∧ (openP D).1.down = false ∧ WfD (openP D).1 ∨ (openP D).2 = 9 ∧ Hold n (openP D).1 st l pg ∧ WfD (openP D).1) ∧ (openP D).1.S.length = D.S.length := by
  have hl := h.ln
  have hlens := h.lens
  have hop := h.opened
  unfold openP
  rw [if_neg (by omega), hop]
  by_cases hd : D.down = true
  · rw [if_pos hd]; exact ⟨.inr ⟨rfl, h, hw⟩, rfl⟩
  rw [if_neg hd]
  dsimp only
  rw [if_neg (by have := h.pos; omega)]
  have hI := runE_inv (P := fun E => Hold n E st l pg ∧ WfD E ∧ E.S.length = D.S.length) l 0 D ⟨h, hw, rfl⟩ (f := copyF (st % 2)) (fun j x E _ _ hx hE => ⟨hE.1.wrP x hx _, wrD_wf hE.2.1 _ _, by show (wrD _ _ _).1.S.length = _; rw [wrD_len]; exact hE.2.2⟩)
  have hErr := runE_err (P := fun E => Hold n E st l pg ∧ WfD E ∧ E.S.length = D.S.length) 9 l 0 D ⟨h, hw, rfl⟩ (f := copyF (st % 2)) (fun j x E hj hjl hx hE => ⟨⟨hE.1.wrP x hx _, wrD_wf hE.2.1 _ _, by show (wrD _ _ _).1.S.length = _; rw [wrD_len]; exact hE.2.2⟩, fun hne => by
    have hxn := h.inl x hx
    have := h.l23
    have ha : st % 2 < 2 := by omega
    exact wrD_9 (i := 48 + x.toNat) (by rw [hE.2.2]; omega) (hE.2.1.rd (by rw [hE.2.2]; unfold areaP; omega)) hne⟩)
  have hRd := runC_read (st % 2) (by omega) pg
  generalize hX : runE (copyF (st % 2)) 0 l D = X at *
  obtain ⟨hX1, hX2, hX3⟩ := hI
  unfold andThen
  by_cases h0 : X.2 = 0
  · rw [if_pos h0]
    have hF := hX1.fl
    have hwF := flD_wf hX2
    have hlF := flD_len X.1
    by_cases hf : (flD X.1).2 = 0
    · refine ⟨.inl ⟨hf, ⟨hF, fun i hi => ?_⟩, (flD_zero hf).2.2, (flD_zero hf).2.1, hwF⟩, by rw [hlF, hX3]⟩
      have hs := stab_flushed hf (j := 48 + i) (by rw [hX3]; omega)
      have hr := hRd i l 0 D (by have := h.l23; omega) (fun q hq => by rw [Nat.zero_add]; exact (h.ar q hq).2) (by rw [hX]; exact h0)
      rw [hX] at hr
      rw [hr] at hs
      by_cases hm : ∃ x ∈ l, x.toNat = i
      · rw [if_pos hm] at hs; exact hs
      · rw [if_neg hm] at hs
        have := (h.rest i hi (fun x hx e => hm ⟨x, hx, e⟩)).2
        rw [this] at hs
        exact hs
    · exact ⟨.inr ⟨flD_nz hf, hF, hwF⟩, by rw [hlF, hX3]⟩
  · rw [if_neg h0]
    exact ⟨.inr ⟨hErr h0, hX1, hX2⟩, hX3⟩
/-- what a commit that was cut leaves: what was, or what was to be -/
def Cut (n : Nat) (D : Dv) (st : Nat) (l : Bytes) (pg : Nat → Bytes) (l' : Bytes) (pg' : Nat → Bytes) : Prop :=
  ∀ keep torn c, c ≤ 32 → Hold n (crashD D keep torn c) st l pg ∨ Hold n (crashD D keep torn c) (st + 1) l' pg'
theorem Hold.cutOld (h : Hold n D st l pg) (hw : WfD D) (l' : Bytes) (pg' : Nat → Bytes) : Cut n D st l pg l' pg' := fun keep torn c hc => .inl (h.crash hw keep torn c hc)
theorem Hold.cutNew {l' : Bytes} {pg' : Nat → Bytes} (h : Hold n D (st + 1) l' pg') (hw : WfD D) (l : Bytes) (pg : Nat → Bytes) : Cut n D st l pg l' pg' := fun keep torn c hc => .inr (h.crash hw keep torn c hc)
theorem numsB_mem {m : List (Int × Bytes)} (hm : ChkOk n m) (hn : n ≤ 200) (x : UInt8) (hx : x ∈ numsB m) : ∃ y ∈ m, y.1 = (x.toNat : Int) ∧ x.toNat < n := by
  obtain ⟨y, hy, rfl⟩ := List.mem_map.1 hx
  have := hm.each y hy
  have e : (UInt8.ofNat y.1.toNat).toNat = y.1.toNat := u8_small (by omega)
  exact ⟨y, hy, by rw [e]; omega, by rw [e]; omega⟩
theorem numsB_at {m : List (Int × Bytes)} (hm : ChkOk n m) (hn : n ≤ 200) (k : Nat) (hk : k < m.length) (hk' : k < (numsB m).length) : ((numsB m)[k].toNat : Int) = m[k].1 := by
  have := hm.each m[k] (List.getElem_mem hk)
  have e : (numsB m)[k] = UInt8.ofNat m[k].1.toNat := by simp [numsB]
  rw [e, u8_small (by omega)]
  omega
/-- the new mark is there, and all that it names -/
theorem new_hold {m : List (Int × Bytes)} (h : Full n D st l pg) (hm : ChkOk n m) (har : ∀ q (hq : q < m.length), Stab D (areaP ((st + 1) % 2) q) m[q].2) (hst : st + 1 ≤ 4294967295)
    {D' : Dv} (hl : D'.S.length = D.S.length) (hmk : Stab D' ((st + 1) % 2) (markB (st + 1) m)) (hs : ∀ j v, j < D.S.length → j ≠ (st + 1) % 2 → Stab D j v → Stab D' j v) : Hold n D' (st + 1) (numsB m) (updPg pg m) := by
  have hlens := h.hold.lens
  have hpos := h.hold.pos
  have hmark := markOf_markB hm (by omega) (show 1 ≤ st + 1 by omega) hst
  have hnl : (numsB m).length = m.length := by simp [numsB]
  refine ⟨by rw [h.hold.n0]; unfold nP; rw [hl], by rw [hl]; exact h.hold.ln, ⟨_, hmk, hmark.1⟩, by omega, by rw [hnl]; exact hm.len, fun x hx => (numsB_mem hm (by omega) x hx).choose_spec.2.2, fun k hk => ?_, fun i hi hx => ?_, ?_⟩
  · have hk' : k < m.length := by omega
    have hkk := hm.len
    have e := numsB_at hm (by omega) k hk' hk
    have hu : updPg pg m (numsB m)[k].toNat = m[k].2 := fold_at m _ k hk' hm.nd e.symm
    rw [hu]
    exact hs _ _ (by unfold areaP; omega) (by unfold areaP; omega) (har k hk')
  · have hu : updPg pg m i = pg i := fold_not m _ fun y hy e => by
      have hye := hm.each y hy
      refine hx (UInt8.ofNat y.1.toNat) (List.mem_map.2 ⟨y, hy, rfl⟩) ?_
      rw [u8_small (by omega)]; omega
    rw [hu]
    exact hs _ _ (by omega) (by omega) (h.all i hi)
  · obtain ⟨v, h1, h2⟩ := h.hold.mrk
    rw [show (st + 1 + 1) % 2 = st % 2 by omega]
    refine ⟨v, hs _ _ (by omega) (by omega) h1, ?_⟩
    have hl32 : v.length = 32 := by
      by_cases e : v.length = 32
      · exact e
      · have : (openF v).2.2 = 3 := by unfold openF; rw [if_pos e]
        unfold markOf at h2
        rw [if_pos (by omega)] at h2
        injection h2 with h2; omega
    refine ⟨hl32, ?_⟩
    rcases mark_stamp n v with h' | ⟨h', _⟩
    · rw [h2] at h'; dsimp only at h'; omega
    · rw [h2] at h'; dsimp only at h'
      exact .inr ⟨by omega, by omega⟩
/-- the new mark is written, and pending -/
theorem mark_cut {m : List (Int × Bytes)} (h : Full n D st l pg) (_hw : WfD D) (hm : ChkOk n m) (har : ∀ q (hq : q < m.length), Stab D (areaP ((st + 1) % 2) q) m[q].2) (hst : st + 1 ≤ 4294967295)
    {D' : Dv} (hw' : WfD D') (hS : D'.S = D.S) (hr : ∀ j, readD D' j = if j = (st + 1) % 2 then markB (st + 1) m else readD D j) : Cut n D' st l pg (numsB m) (updPg pg m) := by
  intro keep torn c hc
  have hlens := h.hold.lens
  obtain ⟨v, h1, h2⟩ := h.hold.oth
  have hj2 : (st + 1) % 2 < D'.S.length := by rw [hS]; omega
  obtain ⟨k, hk, hx⟩ := crash_mix hw' keep torn c ((st + 1) % 2) hc hj2
  rw [hr, if_pos rfl, hS, h1.1] at hx
  have hO : (crashD D' keep torn c).O = [] := rfl
  have hst1 := Stab.none_ hO ((st + 1) % 2)
  rw [hx] at hst1
  have hcl := crash_len D' keep torn c
  have hoth : ∀ j u, j < D.S.length → j ≠ (st + 1) % 2 → Stab D j u → Stab (crashD D' keep torn c) j u := fun j u hj hne hu => by
    have hu' : Stab D' j u := ⟨by rw [hS]; exact hu.1, by rw [hr, if_neg hne]; exact hu.2⟩
    exact hu'.crash hw' (by rw [hS]; exact hj) keep torn c hc
  have hbl : (UInt8.ofNat m.length :: numsB m).length ≤ 24 := by have := hm.len; simp [numsB]; omega
  rcases oth_mix k h2 hst hbl hk h.hold.pos with e | e
  · right
    have e' : (markB (st + 1) m).take k ++ v.drop k = markB (st + 1) m := e
    rw [e'] at hst1
    exact new_hold h hm har hst (by rw [hcl, hS]) hst1 hoth
  · left
    refine ⟨by rw [h.hold.n0]; unfold nP; rw [hcl, hS], by rw [hcl, hS]; exact h.hold.ln, ?_, h.hold.pos, h.hold.l23, h.hold.inl, fun q hq => hoth _ _ (by have := h.hold.l23; unfold areaP; omega) (by unfold areaP; omega) (h.hold.ar q hq), fun i hi hxi => hoth _ _ (by omega) (by omega) (h.hold.rest i hi hxi), ⟨_, hst1, e⟩⟩
    obtain ⟨u, hu, hu'⟩ := h.hold.mrk
    exact ⟨u, hoth _ _ (by omega) (by omega) hu, hu'⟩
/-- what a commit comes to -/
structure Comm (n st : Nat) (D : Dv) (l : Bytes) (pg : Nat → Bytes) (m : List (Int × Bytes)) (r : Dv × Nat) : Prop where
  wf : WfD r.1
  len : r.1.S.length = D.S.length
  done : r.2 = 0 → m.length ≠ 0 → Full n r.1 (st + 1) (numsB m) (updPg pg m) ∧ r.1.O = [] ∧ r.1.down = false ∧ ChkOk n m
  none_ : r.2 = 0 → m.length = 0 → r.1 = D
  bad : r.2 ≠ 0 → r.2 ≠ 9 → r.1 = D
  lost : r.2 = 9 → Cut n r.1 st l pg (numsB m) (updPg pg m)
  cut0 : m.length = 0 → r.1 = D
theorem commit_safe (m : List (Int × Bytes)) (h : Full n D st l pg) (hw : WfD D) : Comm n st D l pg m (commitP st n m D) := by
  have hlens := h.hold.lens
  unfold commitP
  by_cases h1 : chkP n m ≠ 0
  · rw [if_pos h1]
    exact ⟨hw, rfl, fun e => absurd e h1, fun e => absurd e h1, fun _ _ => rfl, fun e => h.hold.cutOld hw _ _, fun _ => rfl⟩
  rw [if_neg h1]
  have hm := chkP_zero (Decidable.not_not.1 h1)
  by_cases h2 : D.down = true
  · rw [if_pos h2]
    exact ⟨hw, rfl, fun e => absurd e (by simp), fun e => absurd e (by simp), fun _ _ => rfl, fun e => h.hold.cutOld hw _ _, fun _ => rfl⟩
  rw [if_neg h2]
  by_cases h3 : m.length = 0
  · rw [if_pos h3]
    exact ⟨hw, rfl, fun _ e => absurd h3 e, fun _ _ => rfl, fun _ _ => rfl, fun e => absurd e (by simp), fun _ => rfl⟩
  rw [if_neg h3]
  by_cases h4 : 4294967295 < st + 1
  · rw [if_pos h4]
    exact ⟨hw, rfl, fun e => absurd e (by simp), fun e => absurd e (by simp), fun _ _ => rfl, fun e => absurd e (by simp), fun e => absurd e h3⟩
  rw [if_neg h4]
  have hst : st + 1 ≤ 4294967295 := by omega
  have hm23 := hm.len
  have ha2 : (st + 1) % 2 < 2 := by omega
  -- bodies
  have hA := runE_inv (P := fun E => Full n E st l pg ∧ WfD E ∧ E.S = D.S) m 0 D ⟨h, hw, rfl⟩ (f := areaF ((st + 1) % 2)) (fun j x E _ hj _ hE => ⟨hE.1.wrA j (by omega) _, wrD_wf hE.2.1 _ _, by show (wrD _ _ _).1.S = _; rw [wrD_len]; exact hE.2.2⟩)
  have hAe := runE_err (P := fun E => Full n E st l pg ∧ WfD E ∧ E.S = D.S) 9 m 0 D ⟨h, hw, rfl⟩ (f := areaF ((st + 1) % 2)) (fun j x E _ hj hx hE => ⟨⟨hE.1.wrA j (by omega) _, wrD_wf hE.2.1 _ _, by show (wrD _ _ _).1.S = _; rw [wrD_len]; exact hE.2.2⟩, fun hne => wrD_9 (by rw [hE.2.2]; unfold areaP; omega) (hm.each x hx).2.2 hne⟩)
  have hAr := runA_read ((st + 1) % 2) m 0 D
  generalize runE (areaF ((st + 1) % 2)) 0 m D = A at *
  obtain ⟨hA1, hA2, hA3⟩ := hA
  have mkC : ∀ (r : Dv × Nat), WfD r.1 → r.1.S.length = D.S.length → r.2 = 9 → Cut n r.1 st l pg (numsB m) (updPg pg m) → Comm n st D l pg m r := fun r w1 w2 w3 w4 => ⟨w1, w2, fun e => absurd e (by omega), fun e => absurd e (by omega), fun _ e => absurd w3 e, fun _ => w4, fun e => absurd e h3⟩
  unfold andThen
  by_cases a0 : A.2 ≠ 0
  · rw [if_neg a0, if_neg a0, if_neg a0, if_neg a0, if_neg a0]
    exact mkC _ hA2 (by rw [hA3]) (hAe a0) (hA1.hold.cutOld hA2 _ _)
  replace a0 := Decidable.not_not.1 a0
  rw [if_pos a0]
  -- flushed
  have hBl := flD_len A.1
  have hB1 := hA1.fl
  have hB2 := flD_wf hA2
  by_cases b0 : (flD A.1).2 ≠ 0
  · rw [if_neg b0, if_neg b0, if_neg b0, if_neg b0]
    exact mkC _ hB2 (by rw [hBl, hA3]) (flD_nz b0) (hB1.hold.cutOld hB2 _ _)
  replace b0 := Decidable.not_not.1 b0
  rw [if_pos b0]
  have har : ∀ q (hq : q < m.length), Stab (flD A.1).1 (areaP ((st + 1) % 2) q) m[q].2 := fun q hq => by
    have := stab_flushed b0 (j := areaP ((st + 1) % 2) q) (by rw [hA3]; unfold areaP; omega)
    have hr := hAr a0 q hq
    rw [Nat.zero_add] at hr
    rw [hr] at this
    exact this
  have hBlen : (flD A.1).1.S.length = D.S.length := by rw [hBl, hA3]
  have hBd := (flD_zero b0).2.1
  generalize (flD A.1).1 = B at *
  -- the mark
  have hmkl := (markOf_markB hm (by omega) (show 1 ≤ st + 1 by omega) hst).2
  have hC : markF ((st + 1) % 2) (markB (st + 1) m) B = _ := wrD_ok (D := B) (i := (st + 1) % 2) (b := markB (st + 1) m) (by omega) hmkl hBd
  have hCw : WfD (markF ((st + 1) % 2) (markB (st + 1) m) B).1 := wrD_wf hB2 (((st + 1) % 2 : Nat) : Int) (markB (st + 1) m)
  have hCS : (markF ((st + 1) % 2) (markB (st + 1) m) B).1.S = B.S := wrD_len B (((st + 1) % 2 : Nat) : Int) (markB (st + 1) m)
  have hCr : ∀ j, readD (markF ((st + 1) % 2) (markB (st + 1) m) B).1 j = if j = (st + 1) % 2 then markB (st + 1) m else readD B j := fun j => by rw [hC, readD_step, readD_put]
  have hCe : (markF ((st + 1) % 2) (markB (st + 1) m) B).2 ≠ 0 → (markF ((st + 1) % 2) (markB (st + 1) m) B).2 = 9 := wrD_9 (D := B) (i := (st + 1) % 2) (b := markB (st + 1) m) (by omega) hmkl
  clear hC
  generalize markF ((st + 1) % 2) (markB (st + 1) m) B = C at *
  have hCut := mark_cut hB1 hB2 hm har hst hCw hCS hCr
  by_cases c0 : C.2 ≠ 0
  · rw [if_neg c0, if_neg c0, if_neg c0]
    exact mkC _ hCw (by rw [hCS, hBlen]) (hCe c0) hCut
  replace c0 := Decidable.not_not.1 c0
  rw [if_pos c0]
  -- flushed
  have hDw := flD_wf hCw
  have hDl := flD_len C.1
  by_cases d0 : (flD C.1).2 ≠ 0
  · rw [if_neg d0, if_neg d0]
    refine mkC _ hDw (by rw [hDl, hCS, hBlen]) (flD_nz d0) ?_
    rcases flD_cases C.1 with ⟨e1, e2, _⟩ | ⟨_, e1⟩
    · exact mark_cut hB1 hB2 hm har hst hDw (by rw [e1, hCS]) (fun j => by rw [e2, hCr])
    · rw [e1] at d0; exact absurd rfl d0
  replace d0 := Decidable.not_not.1 d0
  rw [if_pos d0]
  have hNew : Hold n (flD C.1).1 (st + 1) (numsB m) (updPg pg m) := by
    refine new_hold hB1 hm har hst (by rw [hDl, hCS]) ?_ (fun j v hj hne hv => ?_)
    · have := stab_flushed d0 (j := (st + 1) % 2) (by rw [hCS]; omega)
      rw [hCr, if_pos rfl] at this
      exact this
    · have := stab_flushed d0 (j := j) (by rw [hCS]; exact hj)
      rw [hCr, if_neg hne, hv.2] at this
      exact this
  have hDr : ∀ i, i < n → readD (flD C.1).1 (48 + i) = pg i := fun i hi => by
    have := stab_flushed d0 (j := 48 + i) (by rw [hCS]; omega)
    rw [this.2, hCr, if_neg (by omega)]
    exact (hB1.all i hi).2
  have hDlen : (flD C.1).1.S.length = D.S.length := by rw [hDl, hCS, hBlen]
  generalize (flD C.1).1 = E at *
  -- pages
  have hP := runE_inv (P := fun G => Hold n G (st + 1) (numsB m) (updPg pg m) ∧ WfD G ∧ G.S = E.S) m 0 E ⟨hNew, hDw, rfl⟩ (f := pageF) (fun j x G _ _ hx hG => ⟨by
    have hxe := hm.each x hx
    have e : (UInt8.ofNat x.1.toNat).toNat = x.1.toNat := u8_small (by omega)
    have := hG.1.wrP (UInt8.ofNat x.1.toNat) (List.mem_map.2 ⟨x, hx, rfl⟩) x.2
    rw [e, Int.toNat_of_nonneg hxe.1] at this
    exact this, wrD_wf hG.2.1 _ _, by show (wrD _ _ _).1.S = _; rw [wrD_len]; exact hG.2.2⟩)
  have hPe := runE_err (P := fun G => WfD G ∧ G.S = E.S) 9 m 0 E ⟨hDw, rfl⟩ (f := pageF) (fun j x G _ _ hx hG => ⟨⟨wrD_wf hG.1 _ _, by show (wrD _ _ _).1.S = _; rw [wrD_len]; exact hG.2⟩, fun hne => by
    have hxe := hm.each x hx
    have e : (48 + x.1 : Int) = ((48 + x.1.toNat : Nat) : Int) := by omega
    have hne' : (wrD G (48 + x.1) x.2).2 ≠ 0 := hne
    show (wrD G (48 + x.1) x.2).2 = 9
    rw [e] at hne' ⊢
    exact wrD_9 (by rw [hG.2]; omega) hxe.2.2 hne'⟩)
  have hPr := fun i => runP_read i m 0 E
  generalize runE pageF 0 m E = P at *
  obtain ⟨hP1, hP2, hP3⟩ := hP
  by_cases p0 : P.2 ≠ 0
  · rw [if_neg p0]
    exact mkC _ hP2 (by rw [hP3, hDlen]) (hPe p0) (hP1.cutNew hP2 _ _)
  replace p0 := Decidable.not_not.1 p0
  rw [if_pos p0]
  have hQw := flD_wf hP2
  have hQl := flD_len P.1
  by_cases q0 : (flD P.1).2 ≠ 0
  · exact mkC _ hQw (by rw [hQl, hP3, hDlen]) (flD_nz q0) (hP1.fl.cutNew hQw _ _)
  replace q0 := Decidable.not_not.1 q0
  refine ⟨hQw, by rw [hQl, hP3, hDlen], fun _ _ => ⟨⟨hP1.fl, fun i hi => ?_⟩, (flD_zero q0).2.2, (flD_zero q0).2.1, hm⟩, fun _ e => absurd e h3, fun e => absurd q0 e, fun e => absurd e (by omega), fun e => absurd e h3⟩
  have hs := stab_flushed q0 (j := 48 + i) (by rw [hP3]; omega)
  rw [hPr i p0, hDr i hi] at hs
  exact hs
end
end Go.Proofs.YtbnobjlphmkgeaaGreatDoor
/- The contracts of package pages: write, with each of its two functions. -/
namespace Go.Proofs.YtbnobjlphmkgeaaGreatDoor
open Go.RowKit Go.Maps Go.ChangeMaps

/-- pages that lie in memory, none of them in a device's blocks -/
structure PgsR (w : World) (F : Nat → Prop) (A : Option Addr) (L : List PgX) : Prop where
  rd : RdX pcells 2 w A L
  na : 0 < L.length → ∀ ad, A = some ad → ¬ F ad.block
  body : ∀ x ∈ L, Rd w x.A x.body
  nb : ∀ x ∈ L, 0 < x.body.length → ∀ ad, x.A = some ad → ¬ F ad.block
section
variable {w0 w w' : World} {F F' : Nat → Prop} {p d st n : Nat} {D : Dv} {A : Option Addr} {L : List PgX}
theorem PgsR.below (h : PgsR w F A L) (hb : Below w.heap.size w w') : PgsR w' F A L := ⟨h.rd.below hb, h.na, fun x hx => (h.body x hx).below hb, h.nb⟩
theorem RdX.lt_ (h : RdX pcells 2 w A L) (hl : 0 < L.length) : ∀ ad, A = some ad → ad.block < w.heap.size := fun ad e => by
  obtain ⟨b, off, hA, hc⟩ := h 0 hl
  rw [hA] at e
  obtain rfl := Option.some.inj e
  exact block_lt_of_cell (hc 0 _ rfl)
theorem PgsR.mod (h : PgsR w F A L) (hk : Keep F w w') (hF : ∀ k, F' k → F k ∨ w.heap.size ≤ k) : PgsR w' F' A L := by
  refine ⟨fun i hi => ?_, fun hl ad e hf => ?_, fun x hx => ?_, fun x hx h32 ad e hf => ?_⟩
  · have hna := h.na (by omega)
    obtain ⟨b, off, rfl, hc⟩ := h.rd i hi
    exact ⟨b, off, rfl, fun q u hq => (World.cell?_of_block (w := w) (hk.block b (block_lt_of_cell (hc q u hq)) (hna _ rfl))).trans (hc q u hq)⟩
  · rcases hF _ hf with h' | h'
    · exact h.na hl ad e h'
    · have := h.rd.lt_ hl ad e; omega
  · by_cases h0 : 0 < x.body.length
    · exact hk.rd (h.body x hx) (fun ad e => h.nb x hx h0 ad e)
    · have : x.body = [] := List.eq_nil_of_length_eq_zero (by omega)
      rw [this]; exact Rd.nil_
  · rcases hF _ hf with h' | h'
    · exact h.nb x hx h32 ad e h'
    · obtain ⟨q, off, e2, hq⟩ := (h.body x hx).lt (by omega)
      rw [e2] at e
      obtain rfl := Option.some.inj e
      dsimp only at h'; omega
/-- so many bodies are written -/
structure WrSt (w0 w wr : World) (F F' : Nat → Prop) (d p st n : Nat) (f : Nat → Int × Bytes → Dv → Dv × Nat) (D : Dv) (A : Option Addr) (L : List PgX) (k : Nat) (ab : Nat) (v : Value) : Prop where
  m : PdM w0 w wr F F' d (runE f 0 ((pgs L).take k) D).1
  z : (runE f 0 ((pgs L).take k) D).2 = 0
  pg : PgH wr F' p d st n
  rd : PgsR wr F' A L
  abc : wr.cell? ⟨ab, 0, none⟩ = some v
  nab : ¬ F' ab
theorem WrSt.next {wr w4 : World} {F4 : Nat → Prop} {f : Nat → Int × Bytes → Dv → Dv × Nat} {k ab : Nat} {v : Value} (h : WrSt w0 w wr F F' d p st n f D A L k ab v) (hk : k < L.length) (hm : PdM w0 wr w4 F' F4 d (f k (L[k].num, L[k].body) (runE f 0 ((pgs L).take k) D).1).1)
    (h0 : (f k (L[k].num, L[k].body) (runE f 0 ((pgs L).take k) D).1).2 = 0) : WrSt w0 w w4 F F4 d p st n f D A L (k + 1) ab v := by
  have hpl : k < (pgs L).length := by simpa [pgs] using hk
  have hpk : (pgs L)[k] = (L[k].num, L[k].body) := by simp [pgs]
  have hs := (runE_step f (pgs L) 0 k D hpl h.z).1
  rw [hpk, Nat.zero_add] at hs
  have e := hs h0
  have hlt := block_lt_of_cell h.abc
  exact ⟨by rw [e]; exact h.m.next hm, by rw [e]; exact h0, h.pg.mod hm, h.rd.mod hm.kp hm.sub, (World.cell?_of_block (w := wr) (hm.kp.block ab hlt h.nab)).trans h.abc, fun hf => by
    rcases hm.sub _ hf with h' | h'
    · exact h.nab h'
    · dsimp only at hlt; omega⟩
theorem WrSt.stop {wr : World} {f : Nat → Int × Bytes → Dv → Dv × Nat} {k ab : Nat} {v : Value} (h : WrSt w0 w wr F F' d p st n f D A L k ab v) (hk : k < L.length)
    (h0 : (f k (L[k].num, L[k].body) (runE f 0 ((pgs L).take k) D).1).2 ≠ 0) : andThen (runE f 0 (pgs L) D) flD = f k (L[k].num, L[k].body) (runE f 0 ((pgs L).take k) D).1 := by
  have hpl : k < (pgs L).length := by simpa [pgs] using hk
  have hpk : (pgs L)[k] = (L[k].num, L[k].body) := by simp [pgs]
  have hs := (runE_step f (pgs L) 0 k D hpl h.z).2
  rw [hpk, Nat.zero_add] at hs
  unfold andThen
  rw [hs h0, if_neg h0]
end
/-- what is said of a device that was written to -/
def WrAns (w0 w : World) (F : Nat → Prop) (d : Nat) (r : Dv × Nat) (e : Ending) (w' : World) : Prop := e = .returned (errV r.2) ∧ ∃ F', PdM w0 w w' F F' d r.1
theorem wrAns_mk {w0 w w' : World} {F F' : Nat → Prop} {d : Nat} {r : Dv × Nat} {e : Ending} (h : e = .returned (errV r.2)) (hm : PdM w0 w w' F F' d r.1) : WrAns w0 w F d r e w' := ⟨h, F', hm⟩
theorem clo1_any (k a ab : Nat) (num : Int) (xA : Option Addr) (m xc : Nat) (W : World) (ha : a < 2) (hk : k ≤ 100) (hc : W.cell? ⟨ab, 0, none⟩ = some (.int .i64 (a : Int))) :
    Calls Tryz.prog 113 #[.int .i64 (k : Int), .agg #[.int .i64 num, .slice xA m xc], .pointer (some ⟨ab, 0, none⟩)] W fun e w' => e = .returned (.int .i64 ((areaP a k : Nat) : Int)) ∧ Below W.heap.size W w' := by
  have HB := Hidden.mk ((Below.refl W.heap.size W).alloc (Nat.le_refl _) (.cells #[.int .i64 num, .slice xA m xc] 89))
  have hc2 := (HB.out.cell (p := ⟨ab, 0, none⟩) (block_lt_of_cell hc)).trans hc
  clear hc
  go_enter Tryz.func113, Tryz.ntmps113
  go_wp2_with fail
  refine (area_any a k _ ha hk).mono ?_
  rintro e w1 ⟨rfl, rfl⟩
  go_wp2_with fail
  go_ret
  exact ⟨rfl, HB.out⟩
theorem clo2_any (k : Nat) (num : Int) (xA : Option Addr) (m xc : Nat) (W : World) (h0 : 0 ≤ num) (h1 : num ≤ 1000) :
    Calls Tryz.prog 114 #[.int .i64 (k : Int), .agg #[.int .i64 num, .slice xA m xc]] W fun e w' => e = .returned (.int .i64 (48 + num)) ∧ Below W.heap.size W w' := by
  have HB := Hidden.mk ((Below.refl W.heap.size W).alloc (Nat.le_refl _) (.cells #[.int .i64 num, .slice xA m xc] 89))
  have s1 : IntKind.i64.wrap (48 + num) = 48 + num := IntWalk.i64_in _ (by omega)
  go_enter Tryz.func114, Tryz.ntmps114
  go_wp2_with fail
  go_ret
  exact ⟨rfl, HB.out⟩
set_option maxRecDepth 100000 in
theorem pwrite1_any {w0 w : World} {F : Nat → Prop} {p d st n : Nat} {D : Dv} (h : DevB w0 w F d D) (hp : PgH w F p d st n) (A : Option Addr) (m c : Nat) (L : List PgX) (hm : L.length = m) (hm23 : m ≤ 23) (hr : PgsR w F A L) (hL : ∀ x ∈ L, 0 ≤ x.num ∧ x.num ≤ 1000)
    (ab a : Nat) (_ha : a < 2) (hab : w.cell? ⟨ab, 0, none⟩ = some (.int .i64 (a : Int))) (hnab : ¬ F ab) :
    Calls Tryz.prog 112 #[.pointer (some ⟨p, 0, none⟩), .slice A m c, .func (.func 113) #[] #[.pointer (some ⟨ab, 0, none⟩)]] w (WrAns w0 w F d (andThen (runE (areaF a) 0 (pgs L) D) flD)) := by
  have ha := _ha
  have HM := Hidden.mk hm
  have HL := Hidden.mk hL
  have HST : Hidden (WrSt w0 w w F F d p st n (areaF a) D A L 0 ab (.int .i64 (a : Int))) := ⟨⟨PdM.refl h, rfl, hp, hr, hab, hnab⟩⟩
  have HQ : Hidden (∀ X, runE (areaF a) 0 (pgs L) D = X → X.2 = 0 → andThen (runE (areaF a) 0 (pgs L) D) flD = flD X.1) := ⟨fun X e h0 => by unfold andThen; rw [e, if_pos h0]⟩
  have HSP : Hidden (∀ (wr : World) (F' : Nat → Prop) (k : Nat) (hk : k < L.length), WrSt w0 w wr F F' d p st n (areaF a) D A L k ab (.int .i64 (a : Int)) → ((areaF a) k (L[k].num, L[k].body) (runE (areaF a) 0 ((pgs L).take k) D).1).2 ≠ 0 → andThen (runE (areaF a) 0 (pgs L) D) flD = (areaF a) k (L[k].num, L[k].body) (runE (areaF a) 0 ((pgs L).take k) D).1) := ⟨fun wr F' k hk hst h0 => hst.stop hk h0⟩
  generalize andThen (runE (areaF a) 0 (pgs L) D) flD = oP at *
  clear h hp hm hr hL hab hnab _ha
  go_enter Tryz.func112, Tryz.ntmps112
  go_wp2_with fail
  go_loopg [12] m (fun r i wr => ∃ (k : Nat) (F' : Nat → Prop), k ≤ m ∧ r = m - k ∧ i = .int .i64 (k : Int) ∧ Hidden (WrSt w0 w wr F F' d p st n (areaF a) D A L k ab (.int .i64 (a : Int))))
  case atStart => exact ⟨0, F, by omega, rfl, rfl, HST⟩
  case round =>
    obtain ⟨k, F', hk, rfl, rfl, hst⟩ := hrel
    by_cases hlt : k < m
    · have i0 : (0 : Int) ≤ k := by omega
      have i1 : (k : Int) < m := by omega
      have hkl : k < L.length := by rw [HM.out]; exact hlt
      obtain ⟨pb, off, rfl, hc⟩ := hst.out.rd.rd k hkl
      have c0 := hc 0 _ rfl
      have c1 := hc 1 _ rfl
      rw [Nat.add_zero] at c0
      have hal := (Below.refl wr.heap.size wr).alloc (Nat.le_refl _) (.cells #[.int .i64 L[k].num, .slice L[k].A L[k].body.length L[k].cap] 89)
      have hbx := heap_alloc_new wr (.cells #[.int .i64 L[k].num, .slice L[k].A L[k].body.length L[k].cap] 89)
      have HNUM := Hidden.mk (HL.out L[k] (List.getElem_mem hkl))
      have HSTOP := Hidden.mk (HSP.out wr F' k hkl hst.out)
      have HNEXT : Hidden (∀ (w4 : World) (F4 : Nat → Prop), PdM w0 wr w4 F' F4 d ((areaF a) k (L[k].num, L[k].body) (runE (areaF a) 0 ((pgs L).take k) D).1).1 → ((areaF a) k (L[k].num, L[k].body) (runE (areaF a) 0 ((pgs L).take k) D).1).2 = 0 → WrSt w0 w w4 F F4 d p st n (areaF a) D (some ⟨pb, off, none⟩) L (k + 1) ab (.int .i64 (a : Int))) := ⟨fun w4 F4 hm h0 => hst.out.next hkl hm h0⟩
      have hbody := hst.out.rd.body L[k] (List.getElem_mem hkl)
      have hnb := hst.out.rd.nb L[k] (List.getElem_mem hkl)
      have HFE : Hidden (∀ x : Int × Bytes, (areaF a) k x (runE (areaF a) 0 ((pgs L).take k) D).1 = wrD (runE (areaF a) 0 ((pgs L).take k) D).1 ((areaP a k : Nat) : Int) x.2) := ⟨fun _ => rfl⟩
      have hm1 := hst.out.m
      have hpg := hst.out.pg
      have habc := hst.out.abc
      have hnab := hst.out.nab
      have HMP := Hidden.mk hm1
      generalize (runE (areaF a) 0 ((pgs L).take k) D).1 = Dk at *
      generalize L[k] = x at *
      obtain ⟨num, xA, xc, body⟩ := x
      dsimp only at *
      have HB2 := Hidden.mk hal
      have HAW := Hidden.mk (hm1.dev.below hal)
      have habc2 := (hal.cell (p := ⟨ab, 0, none⟩) (block_lt_of_cell habc)).trans habc
      have hp2 := (hpg.below hal)
      obtain ⟨y0, -, -⟩ := hp2.cell
      have hrb := hbody.below hal
      have b0 : (wr.alloc (.cells #[.int .i64 num, .slice xA body.length xc] 89)).cell? ⟨wr.heap.size, 0, none⟩ = some (.int .i64 num) := by simp only [World.cell?]; rw [hbx]; rfl
      have b1 : (wr.alloc (.cells #[.int .i64 num, .slice xA body.length xc] 89)).cell? ⟨wr.heap.size, 1, none⟩ = some (.slice xA body.length xc) := by simp only [World.cell?]; rw [hbx]; rfl
      have hbxF : ¬ F' wr.heap.size := fun hf => by have := hm1.dev.flt _ hf; omega
      have hblt := (Array.getElem?_eq_some_iff.1 hbx).1
      have hplt := hp2.lt
      generalize hW2 : wr.alloc (.cells #[.int .i64 num, .slice xA body.length xc] 89) = W2 at *
      have HW2 := Hidden.mk hW2
      have KS : Hidden (∀ W, Keep F' W2 W → W.cell? ⟨p, 0, none⟩ = some (.pointer (some ⟨d, 0, none⟩)) ∧ W.cell? ⟨wr.heap.size, 0, none⟩ = some (.int .i64 num) ∧ W.cell? ⟨wr.heap.size, 1, none⟩ = some (.slice xA body.length xc)) := ⟨fun W hk => by
        have q1 := hk.block p hplt hp2.2
        have q2 := hk.block wr.heap.size hblt hbxF
        exact ⟨(World.cell?_of_block (w := W2) (a := ⟨p, 0, none⟩) q1).trans y0, (World.cell?_of_block (w := W2) (a := ⟨wr.heap.size, 0, none⟩) q2).trans b0, (World.cell?_of_block (w := W2) (a := ⟨wr.heap.size, 1, none⟩) q2).trans b1⟩⟩
      have KAB : Hidden (W2.drew.cell? ⟨ab, 0, none⟩ = some (.int .i64 (a : Int))) := ⟨habc2⟩
      have KRB := Hidden.mk hrb
      have KNB := Hidden.mk hnb
      clear hst hc hal hbx hbody hnb hm1 hpg habc habc2 hnab hp2 y0 hrb b0 b1 hbxF hblt hplt HSP
      subst hW2
      have HFE2 := Hidden.mk (HFE.out (num, body))
      go_upto_region 4 with (fail)
      generalize wr.alloc (.cells #[.int .i64 num, .slice xA body.length xc] 89) = W2 at *
      go_region_held3 (fun W => W.cell? ⟨p, 0, none⟩ = some (.pointer (some ⟨d, 0, none⟩)) ∧ W.cell? ⟨wr.heap.size, 0, none⟩ = some (.int .i64 num) ∧ W.cell? ⟨wr.heap.size, 1, none⟩ = some (.slice xA body.length xc)) (first | exact KS.out _ (Keep.refl _ _) | exact KS.out _ ((Keep.refl _ _).drewN 1) | exact KS.out _ (Keep.of_below (((Below.refl _ _).drew).trans hb3)) | exact KS.out _ ((Keep.of_below (((Below.refl _ _).drew).trans hb3)).trans hk4 (fun _ h => .inl h)))
        (first
          | ((go_at_call 113; refine (clo1_any k a ab _ _ _ _ _ ha (by omega) KAB.out).mono ?_; rintro e w3 ⟨rfl, hb3⟩))
          | ((go_at_call 101; refine ((HAW.out.below (((Below.refl _ _).drew).trans hb3)).write_all _ xA body.length xc body rfl (KRB.out.below (((Below.refl _ _).drew).trans hb3)) (fun h32 => KNB.out (by omega))).mono ?_; rintro e w4 ⟨rfl, F4, hd4, hk4, hF4⟩)))
      all_goals
        have hB3 : Below wr.heap.size wr w3 := HB2.out.trans ((((Below.refl _ _).drew).trans hb3).mono HB2.out.size)
        have HM4 : Hidden (PdM w0 wr w4 F' F4 d (wrD Dk ((areaP a k : Nat) : Int) body).1) := ⟨⟨hd4, (Keep.of_below hB3).trans hk4 (fun _ h => .inl h), fun q hq => by
          rcases hF4 q hq with h' | h'
          · exact .inl h'
          · exact .inr (Nat.le_trans hB3.size h')⟩⟩
        have HNEXT := HNEXT.out w4 F4
        have HSTOP := HSTOP.out
        rw [HFE2.out] at HNEXT HSTOP
        try dsimp only at HNEXT HSTOP
        have HNEXT := Hidden.mk (HNEXT HM4.out)
        have HSTOP := Hidden.mk HSTOP
        have HMT := Hidden.mk (HMP.out.next HM4.out)
        clear hB3 hb3 hd4 hk4 hF4 HFE HFE2 HM4 HMP HB2 KS HAW c0 c1
        generalize wrD Dk ((areaP a k : Nat) : Int) body = cf at *
        by_cases h0 : cf.2 = 0
        · have HN := Hidden.mk (HNEXT.out h0)
          rw [h0, errV0]
          clear h0 HNEXT HSTOP
          go_wp2_with fail
          go_roundg (m - (k + 1))
          case measure => omega
          case rel => exact ⟨k + 1, F4, by omega, rfl, by go_num, HN⟩
        · have HN := Hidden.mk (HSTOP.out h0)
          have HEV := Hidden.mk (errV_pos h0)
          rw [HEV.out]
          clear h0 HNEXT HSTOP
          go_wp2_with fail
          go_ret
          exact wrAns_mk (F' := F4) (by rw [HN.out, HEV.out]; rfl) (by rw [HN.out]; exact HMT.out)
    · obtain rfl : k = m := by omega
      have htk : (pgs L).take k = pgs L := List.take_of_length_le (by simp [pgs, HM.out])
      have hz := hst.out.z
      have hm1 := hst.out.m
      rw [htk] at hz hm1
      have HQ2 := Hidden.mk (HQ.out _ rfl hz)
      have HFL := Hidden.mk hm1.dev.flush_all
      rw [← HQ2.out] at HFL
      have HM1 := Hidden.mk hm1
      obtain ⟨y0, -, -⟩ := hst.out.pg.cell
      clear hst htk hz hm1 HQ HSP HST
      go_wp2_with fail
      refine HFL.out.mono ?_
      rintro e w4 ⟨rfl, hd4, hk4⟩
      have HM4 := Hidden.mk (HM1.out.next (⟨hd4, hk4, fun _ hk => .inl hk⟩ : PdM w0 wr w4 F' F' d _))
      clear hd4 hk4 HFL HM1
      go_wp2_with fail
      go_ret
      exact wrAns_mk rfl HM4.out
set_option maxRecDepth 100000 in
theorem pwrite2_any {w0 w : World} {F : Nat → Prop} {p d st n : Nat} {D : Dv} (h : DevB w0 w F d D) (hp : PgH w F p d st n) (A : Option Addr) (m c : Nat) (L : List PgX) (hm : L.length = m) (hm23 : m ≤ 23) (hr : PgsR w F A L) (hL : ∀ x ∈ L, 0 ≤ x.num ∧ x.num ≤ 1000)
    (ab a : Nat) (_ha : a < 2) (hab : w.cell? ⟨ab, 0, none⟩ = some (.int .i64 (a : Int))) (hnab : ¬ F ab) :
    Calls Tryz.prog 112 #[.pointer (some ⟨p, 0, none⟩), .slice A m c, .func (.func 114) #[] #[]] w (WrAns w0 w F d (andThen (runE pageF 0 (pgs L) D) flD)) := by
  have ha := _ha
  have HM := Hidden.mk hm
  have HL := Hidden.mk hL
  have HST : Hidden (WrSt w0 w w F F d p st n pageF D A L 0 ab (.int .i64 (a : Int))) := ⟨⟨PdM.refl h, rfl, hp, hr, hab, hnab⟩⟩
  have HQ : Hidden (∀ X, runE pageF 0 (pgs L) D = X → X.2 = 0 → andThen (runE pageF 0 (pgs L) D) flD = flD X.1) := ⟨fun X e h0 => by unfold andThen; rw [e, if_pos h0]⟩
  have HSP : Hidden (∀ (wr : World) (F' : Nat → Prop) (k : Nat) (hk : k < L.length), WrSt w0 w wr F F' d p st n pageF D A L k ab (.int .i64 (a : Int)) → (pageF k (L[k].num, L[k].body) (runE pageF 0 ((pgs L).take k) D).1).2 ≠ 0 → andThen (runE pageF 0 (pgs L) D) flD = pageF k (L[k].num, L[k].body) (runE pageF 0 ((pgs L).take k) D).1) := ⟨fun wr F' k hk hst h0 => hst.stop hk h0⟩
  generalize andThen (runE pageF 0 (pgs L) D) flD = oP at *
  clear h hp hm hr hL hab hnab _ha
  go_enter Tryz.func112, Tryz.ntmps112
  go_wp2_with fail
  go_loopg [12] m (fun r i wr => ∃ (k : Nat) (F' : Nat → Prop), k ≤ m ∧ r = m - k ∧ i = .int .i64 (k : Int) ∧ Hidden (WrSt w0 w wr F F' d p st n pageF D A L k ab (.int .i64 (a : Int))))
  case atStart => exact ⟨0, F, by omega, rfl, rfl, HST⟩
  case round =>
    obtain ⟨k, F', hk, rfl, rfl, hst⟩ := hrel
    by_cases hlt : k < m
    · have i0 : (0 : Int) ≤ k := by omega
      have i1 : (k : Int) < m := by omega
      have hkl : k < L.length := by rw [HM.out]; exact hlt
      obtain ⟨pb, off, rfl, hc⟩ := hst.out.rd.rd k hkl
      have c0 := hc 0 _ rfl
      have c1 := hc 1 _ rfl
      rw [Nat.add_zero] at c0
      have hal := (Below.refl wr.heap.size wr).alloc (Nat.le_refl _) (.cells #[.int .i64 L[k].num, .slice L[k].A L[k].body.length L[k].cap] 89)
      have hbx := heap_alloc_new wr (.cells #[.int .i64 L[k].num, .slice L[k].A L[k].body.length L[k].cap] 89)
      have HNUM := Hidden.mk (HL.out L[k] (List.getElem_mem hkl))
      have HSTOP := Hidden.mk (HSP.out wr F' k hkl hst.out)
      have HNEXT : Hidden (∀ (w4 : World) (F4 : Nat → Prop), PdM w0 wr w4 F' F4 d (pageF k (L[k].num, L[k].body) (runE pageF 0 ((pgs L).take k) D).1).1 → (pageF k (L[k].num, L[k].body) (runE pageF 0 ((pgs L).take k) D).1).2 = 0 → WrSt w0 w w4 F F4 d p st n pageF D (some ⟨pb, off, none⟩) L (k + 1) ab (.int .i64 (a : Int))) := ⟨fun w4 F4 hm h0 => hst.out.next hkl hm h0⟩
      have hbody := hst.out.rd.body L[k] (List.getElem_mem hkl)
      have hnb := hst.out.rd.nb L[k] (List.getElem_mem hkl)
      have HFE : Hidden (∀ x : Int × Bytes, pageF k x (runE pageF 0 ((pgs L).take k) D).1 = wrD (runE pageF 0 ((pgs L).take k) D).1 (48 + x.1) x.2) := ⟨fun _ => rfl⟩
      have hm1 := hst.out.m
      have hpg := hst.out.pg
      have habc := hst.out.abc
      have hnab := hst.out.nab
      have HMP := Hidden.mk hm1
      generalize (runE pageF 0 ((pgs L).take k) D).1 = Dk at *
      generalize L[k] = x at *
      obtain ⟨num, xA, xc, body⟩ := x
      dsimp only at *
      have HB2 := Hidden.mk hal
      have HAW := Hidden.mk (hm1.dev.below hal)
      have habc2 := (hal.cell (p := ⟨ab, 0, none⟩) (block_lt_of_cell habc)).trans habc
      have hp2 := (hpg.below hal)
      obtain ⟨y0, -, -⟩ := hp2.cell
      have hrb := hbody.below hal
      have b0 : (wr.alloc (.cells #[.int .i64 num, .slice xA body.length xc] 89)).cell? ⟨wr.heap.size, 0, none⟩ = some (.int .i64 num) := by simp only [World.cell?]; rw [hbx]; rfl
      have b1 : (wr.alloc (.cells #[.int .i64 num, .slice xA body.length xc] 89)).cell? ⟨wr.heap.size, 1, none⟩ = some (.slice xA body.length xc) := by simp only [World.cell?]; rw [hbx]; rfl
      have hbxF : ¬ F' wr.heap.size := fun hf => by have := hm1.dev.flt _ hf; omega
      have hblt := (Array.getElem?_eq_some_iff.1 hbx).1
      have hplt := hp2.lt
      generalize hW2 : wr.alloc (.cells #[.int .i64 num, .slice xA body.length xc] 89) = W2 at *
      have HW2 := Hidden.mk hW2
      have KS : Hidden (∀ W, Keep F' W2 W → W.cell? ⟨p, 0, none⟩ = some (.pointer (some ⟨d, 0, none⟩)) ∧ W.cell? ⟨wr.heap.size, 0, none⟩ = some (.int .i64 num) ∧ W.cell? ⟨wr.heap.size, 1, none⟩ = some (.slice xA body.length xc)) := ⟨fun W hk => by
        have q1 := hk.block p hplt hp2.2
        have q2 := hk.block wr.heap.size hblt hbxF
        exact ⟨(World.cell?_of_block (w := W2) (a := ⟨p, 0, none⟩) q1).trans y0, (World.cell?_of_block (w := W2) (a := ⟨wr.heap.size, 0, none⟩) q2).trans b0, (World.cell?_of_block (w := W2) (a := ⟨wr.heap.size, 1, none⟩) q2).trans b1⟩⟩
      have KAB : Hidden (W2.drew.cell? ⟨ab, 0, none⟩ = some (.int .i64 (a : Int))) := ⟨habc2⟩
      have KRB := Hidden.mk hrb
      have KNB := Hidden.mk hnb
      clear hst hc hal hbx hbody hnb hm1 hpg habc habc2 hnab hp2 y0 hrb b0 b1 hbxF hblt hplt HSP
      subst hW2
      have HFE2 := Hidden.mk (HFE.out (num, body))
      go_upto_region 4 with (fail)
      generalize wr.alloc (.cells #[.int .i64 num, .slice xA body.length xc] 89) = W2 at *
      go_region_held3 (fun W => W.cell? ⟨p, 0, none⟩ = some (.pointer (some ⟨d, 0, none⟩)) ∧ W.cell? ⟨wr.heap.size, 0, none⟩ = some (.int .i64 num) ∧ W.cell? ⟨wr.heap.size, 1, none⟩ = some (.slice xA body.length xc)) (first | exact KS.out _ (Keep.refl _ _) | exact KS.out _ ((Keep.refl _ _).drewN 1) | exact KS.out _ (Keep.of_below (((Below.refl _ _).drew).trans hb3)) | exact KS.out _ ((Keep.of_below (((Below.refl _ _).drew).trans hb3)).trans hk4 (fun _ h => .inl h)))
        (first
          | ((go_at_call 114; refine (clo2_any k _ _ _ _ _ HNUM.out.1 HNUM.out.2).mono ?_; rintro e w3 ⟨rfl, hb3⟩))
          | ((go_at_call 101; refine ((HAW.out.below (((Below.refl _ _).drew).trans hb3)).write_all _ xA body.length xc body rfl (KRB.out.below (((Below.refl _ _).drew).trans hb3)) (fun h32 => KNB.out (by omega))).mono ?_; rintro e w4 ⟨rfl, F4, hd4, hk4, hF4⟩)))
      all_goals
        have hB3 : Below wr.heap.size wr w3 := HB2.out.trans ((((Below.refl _ _).drew).trans hb3).mono HB2.out.size)
        have HM4 : Hidden (PdM w0 wr w4 F' F4 d (wrD Dk (48 + num) body).1) := ⟨⟨hd4, (Keep.of_below hB3).trans hk4 (fun _ h => .inl h), fun q hq => by
          rcases hF4 q hq with h' | h'
          · exact .inl h'
          · exact .inr (Nat.le_trans hB3.size h')⟩⟩
        have HNEXT := HNEXT.out w4 F4
        have HSTOP := HSTOP.out
        rw [HFE2.out] at HNEXT HSTOP
        try dsimp only at HNEXT HSTOP
        have HNEXT := Hidden.mk (HNEXT HM4.out)
        have HSTOP := Hidden.mk HSTOP
        have HMT := Hidden.mk (HMP.out.next HM4.out)
        clear hB3 hb3 hd4 hk4 hF4 HFE HFE2 HM4 HMP HB2 KS HAW c0 c1
        generalize wrD Dk (48 + num) body = cf at *
        by_cases h0 : cf.2 = 0
        · have HN := Hidden.mk (HNEXT.out h0)
          rw [h0, errV0]
          clear h0 HNEXT HSTOP
          go_wp2_with fail
          go_roundg (m - (k + 1))
          case measure => omega
          case rel => exact ⟨k + 1, F4, by omega, rfl, by go_num, HN⟩
        · have HN := Hidden.mk (HSTOP.out h0)
          have HEV := Hidden.mk (errV_pos h0)
          rw [HEV.out]
          clear h0 HNEXT HSTOP
          go_wp2_with fail
          go_ret
          exact wrAns_mk (F' := F4) (by rw [HN.out, HEV.out]; rfl) (by rw [HN.out]; exact HMT.out)
    · obtain rfl : k = m := by omega
      have htk : (pgs L).take k = pgs L := List.take_of_length_le (by simp [pgs, HM.out])
      have hz := hst.out.z
      have hm1 := hst.out.m
      rw [htk] at hz hm1
      have HQ2 := Hidden.mk (HQ.out _ rfl hz)
      have HFL := Hidden.mk hm1.dev.flush_all
      rw [← HQ2.out] at HFL
      have HM1 := Hidden.mk hm1
      obtain ⟨y0, -, -⟩ := hst.out.pg.cell
      clear hst htk hz hm1 HQ HSP HST
      go_wp2_with fail
      refine HFL.out.mono ?_
      rintro e w4 ⟨rfl, hd4, hk4⟩
      have HM4 := Hidden.mk (HM1.out.next (⟨hd4, hk4, fun _ hk => .inl hk⟩ : PdM w0 wr w4 F' F' d _))
      clear hd4 hk4 HFL HM1
      go_wp2_with fail
      go_ret
      exact wrAns_mk rfl HM4.out
end Go.Proofs.YtbnobjlphmkgeaaGreatDoor
/- The contract of pages.Commit. -/
namespace Go.Proofs.YtbnobjlphmkgeaaGreatDoor
open Go.RowKit Go.Maps Go.ChangeMaps

theorem i64_and1 (n : Int) : bits .and .i64 n 1 = n % 2 := by
  have h1 : (BitVec.ofInt 64 1).toNat = 2 ^ 1 - 1 := by decide
  have key : (BitVec.ofInt 64 n &&& BitVec.ofInt 64 1).toNat = (n % ((2 ^ 64 : Nat) : Int)).toNat % 2 ^ 1 := by
    rw [BitVec.toNat_and, BitVec.toNat_ofInt, h1, Nat.and_two_pow_sub_one_eq_mod]
  show IntKind.i64.wrap ((BitVec.ofInt 64 n &&& BitVec.ofInt 64 1).toNat : Nat) = n % 2
  rw [key, IntKind.wrap_i64]
  omega
/-- pages, their device, and the rest, behind a call on them -/
structure CmM (w0 w w' : World) (F F' : Nat → Prop) (p d st n : Nat) (D : Dv) : Prop where
  dev : DevB w0 w' F' d D
  kp : Keep (fun k => F k ∨ k = p) w w'
  sub : ∀ k, F' k → F k ∨ w.heap.size ≤ k
  pg : PgH w' F' p d st n
section
variable {w0 w w' : World} {F F' : Nat → Prop} {p d st n : Nat} {D : Dv}
theorem Keep.wide {G : Nat → Prop} (h : Keep F w w') (hG : ∀ k, F k → G k) : Keep G w w' := ⟨h.os, h.tape, h.output, h.size, fun k hk hn => h.block k hk (fun hf => hn (hG k hf))⟩
theorem PdM.cm (h : PdM w0 w w' F F' d D) (hp : PgH w' F' p d st n) : CmM w0 w w' F F' p d st n D := ⟨h.dev, h.kp.wide (fun _ hk => .inl hk), h.sub, hp⟩
/-- the stamp is set -/
theorem PdM.stamped (h : PdM w0 w w' F F' d D) (hp : PgH w' F' p d st n) (h0 : w0.heap.size ≤ p) (s : Nat) : CmM w0 w (w'.setCell ⟨p, 1, none⟩ (.int .i64 (s : Int))) F F' p d s n D :=
  ⟨h.dev.other (keep_cell _) hp.2 h0, (h.kp.wide (fun _ hk => .inl hk)).trans (keep_cell (p := p) (o := 1) _) (fun _ e => .inl (.inr e)), h.sub, hp.set s⟩
end
/-- so much of the body of a mark is put together -/
structure BdSt (w1 wr : World) (v : Value) (l : Bytes) (a : Int) : Prop where
  bel : Below w1.heap.size w1 wr
  ab : wr.cell? ⟨w1.heap.size, 0, none⟩ = some (.int .i64 a)
  own : wr.ownsRow (w1.heap.size + 1) 5 1 v l.length (l.map bv)
theorem andThen_ne {a : Dv × Nat} {g : Dv → Dv × Nat} (h : a.2 ≠ 0) : andThen a g = a := by unfold andThen; rw [if_neg h]
theorem andThen_ok {a : Dv × Nat} {g : Dv → Dv × Nat} (h : a.2 = 0) : andThen a g = g a.1 := by unfold andThen; rw [if_pos h]
/-- what a commit keeps at hand -/
structure Rest (w : World) (F : Nat → Prop) (p d st n : Nat) (A : Option Addr) (L : List PgX) (g : Nat) (mk : Bytes) (ab a : Nat) : Prop where
  pg : PgH w F p d st n
  rd : PgsR w F A L
  mr : Rd w (some ⟨g, 0, none⟩) mk
  gl : g < w.heap.size
  ng : ¬ F g
  abc : w.cell? ⟨ab, 0, none⟩ = some (.int .i64 (a : Int))
  nab : ¬ F ab
theorem Rest.mod {w0 w w' : World} {F F' : Nat → Prop} {p d st n : Nat} {A : Option Addr} {L : List PgX} {g : Nat} {mk : Bytes} {ab a : Nat} {D1 : Dv} (h : Rest w F p d st n A L g mk ab a) (hm : PdM w0 w w' F F' d D1) : Rest w' F' p d st n A L g mk ab a := by
  have hlt := block_lt_of_cell h.abc
  have hgl := h.gl
  dsimp only at hlt
  exact ⟨h.pg.mod hm, h.rd.mod hm.kp hm.sub, hm.kp.rd h.mr (fun ad e => by obtain rfl := Option.some.inj e; exact h.ng), Nat.lt_of_lt_of_le h.gl hm.kp.size,
    fun hf => by rcases hm.sub _ hf with h' | h'; exact h.ng h'; omega, (World.cell?_of_block (w := w) (hm.kp.block ab hlt h.nab)).trans h.abc, fun hf => by rcases hm.sub _ hf with h' | h'; exact h.nab h'; omega⟩
/-- what is said of a commit -/
def CmAns (w0 w : World) (F : Nat → Prop) (p d st n : Nat) (L : List PgX) (r : Dv × Nat) (e : Ending) (w' : World) : Prop :=
  e = .returned (errV r.2) ∧ ∃ F', CmM w0 w w' F F' p d (if r.2 = 0 ∧ L.length ≠ 0 then st + 1 else st) n r.1
theorem cmAns_bad {w0 w w' : World} {F F' : Nat → Prop} {p d st n : Nat} {L : List PgX} {r : Dv × Nat} {e : Ending} (h : e = .returned (errV r.2)) (hr : r.2 ≠ 0 ∨ L.length = 0) (hm : CmM w0 w w' F F' p d st n r.1) : CmAns w0 w F p d st n L r e w' :=
  ⟨h, F', by rw [if_neg (by omega)]; exact hm⟩
theorem cmAns_ok {w0 w w' : World} {F F' : Nat → Prop} {p d st n : Nat} {L : List PgX} {r : Dv × Nat} {e : Ending} (h : e = .returned (errV r.2)) (hr : r.2 = 0) (hl : L.length ≠ 0) (hm : CmM w0 w w' F F' p d (st + 1) n r.1) : CmAns w0 w F p d st n L r e w' :=
  ⟨h, F', by rw [if_pos ⟨hr, hl⟩]; exact hm⟩
section
variable {w0 w : World} {F : Nat → Prop} {p d st n : Nat} {D : Dv}
set_option maxRecDepth 100000 in
set_option maxHeartbeats 1000000 in
theorem pcommit_any (h : DevB w0 w F d D) (hp : PgH w F p d st n) (hn : n ≤ 200) (hst : st ≤ 4294967295) (h0 : w0.heap.size ≤ p) (A : Option Addr) (m c : Nat) (L : List PgX) (hm : L.length = m) (hmc : m ≤ c) (hr : PgsR w F A L) :
    Calls Tryz.prog 42 #[.pointer (some ⟨p, 0, none⟩), .slice A m c] w (CmAns w0 w F p d st n L (commitP st n (pgs L) D)) := by
  obtain ⟨c0, c1, c2⟩ := hp.cell
  have hpl : (pgs L).length = m := by simp [pgs, hm]
  have HCK := Hidden.mk (pcheck_any hp hn A m c L hm hmc hr.rd)
  have HM := Hidden.mk (PdM.refl h)
  have HP := Hidden.mk hp
  have HR := Hidden.mk hr
  have HLM := Hidden.mk hm
  have H0 := Hidden.mk h0
  have HV : Hidden (commitP st n (pgs L) D = if chkP n (pgs L) ≠ 0 then (D, chkP n (pgs L)) else if D.down = true then (D, 9) else if (pgs L).length = 0 then (D, 0) else if 4294967295 < st + 1 then (D, 1) else
    andThen (andThen (andThen (andThen (andThen (runE (areaF ((st + 1) % 2)) 0 (pgs L) D) flD) (markF ((st + 1) % 2) (markB (st + 1) (pgs L)))) flD) (runE pageF 0 (pgs L))) flD) := ⟨rfl⟩
  have HCKZ : Hidden (chkP n (pgs L) = 0 → ChkOk n (pgs L)) := ⟨chkP_zero⟩
  generalize commitP st n (pgs L) D = r at *
  generalize chkP n (pgs L) = ck at *
  clear h hp hm hr h0
  go_enter Tryz.func42, Tryz.ntmps42
  go_wp2_with fail
  refine HCK.out.mono ?_
  rintro e w1 ⟨rfl, hb1⟩
  have HM1 := Hidden.mk (HM.out.below hb1)
  have HP1 := Hidden.mk (HP.out.below hb1)
  have HR1 := Hidden.mk (HR.out.below hb1)
  clear hb1 HCK c0 c1 c2 HM HP HR
  obtain ⟨z0, z1, z2⟩ := HP1.out.cell
  by_cases hck : ck ≠ 0
  · have HQ := Hidden.mk (show r = (D, ck) by rw [HV.out, if_pos hck])
    have HC := Hidden.mk hck
    rw [errV_pos hck]
    clear hck HV
    go_wp2_with fail
    go_ret
    refine cmAns_bad ?_ ?_ ?_ (F' := F)
    · rw [HQ.out, errV_pos HC.out]; rfl
    · rw [HQ.out]; exact .inl HC.out
    · rw [HQ.out]; exact HM1.out.cm HP1.out
  have hck0 : ck = 0 := Decidable.not_not.1 hck
  have HV := Hidden.mk (show r = if D.down = true then (D, 9) else if (pgs L).length = 0 then (D, 0) else if 4294967295 < st + 1 then (D, 1) else
    andThen (andThen (andThen (andThen (andThen (runE (areaF ((st + 1) % 2)) 0 (pgs L) D) flD) (markF ((st + 1) % 2) (markB (st + 1) (pgs L)))) flD) (runE pageF 0 (pgs L))) flD by rw [HV.out, if_neg hck])
  have HCO := Hidden.mk (HCKZ.out hck0)
  rw [hck0, errV0]
  clear hck hck0 HCKZ
  have HDN := Hidden.mk HM1.out.dev.down
  go_wp2_with fail
  refine HDN.out.mono ?_
  rintro e w' ⟨rfl, rfl⟩
  clear HDN
  cases hd : D.down with
  | true =>
    have HQ := Hidden.mk (show r = (D, 9) by rw [HV.out, if_pos hd])
    clear HV hd
    go_wp2_with fail
    go_ret
    refine cmAns_bad ?_ ?_ ?_ (F' := F)
    · rw [HQ.out]; rfl
    · rw [HQ.out]; exact .inl (by simp)
    · rw [HQ.out]; exact HM1.out.cm HP1.out
  | false =>
    have HV := Hidden.mk (show r = if (pgs L).length = 0 then (D, 0) else if 4294967295 < st + 1 then (D, 1) else
      andThen (andThen (andThen (andThen (andThen (runE (areaF ((st + 1) % 2)) 0 (pgs L) D) flD) (markF ((st + 1) % 2) (markB (st + 1) (pgs L)))) flD) (runE pageF 0 (pgs L))) flD by rw [HV.out, if_neg (by rw [hd]; decide)])
    rw [hpl] at HV
    have HPL := Hidden.mk hpl
    clear hd hpl
    by_cases hm0 : m = 0
    · have HQ := Hidden.mk (show r = (D, 0) by rw [HV.out, if_pos hm0])
      have HZ := Hidden.mk hm0
      have t1 : ((m : Int) == 0) = true := by simpa using hm0
      have t2 : (m == 0) = true := by simpa using hm0
      clear HV hm0
      go_wp2_with fail
      go_ret
      refine cmAns_bad ?_ ?_ ?_ (F' := F)
      · rw [HQ.out]; rfl
      · exact .inr (HLM.out.trans HZ.out)
      · rw [HQ.out]; exact HM1.out.cm HP1.out
    have HV9 := Hidden.mk (show r = if 4294967295 < st + 1 then (D, 1) else
      andThen (andThen (andThen (andThen (andThen (runE (areaF ((st + 1) % 2)) 0 (pgs L) D) flD) (markF ((st + 1) % 2) (markB (st + 1) (pgs L)))) flD) (runE pageF 0 (pgs L))) flD by rw [HV.out, if_neg hm0])
    have t1 : ((m : Int) == 0) = false := by simpa using hm0
    have t2 : (m == 0) = false := by simpa using hm0
    have hm23 : m ≤ 23 := by have := HCO.out.len; rw [HPL.out] at this; exact this
    have HNZ := Hidden.mk hm0
    have s1 : IntKind.i64.wrap ((st : Int) + 1) = (st : Int) + 1 := IntWalk.i64_in _ (by omega)
    have s2 := i64_and1 ((st : Int) + 1)
    have s3 : IntKind.u8.wrap (m : Int) = (m : Int) := IntWalk.u8_in _ (by omega)
    have s4 : ((st : Int) + 1) % 2 = (((st + 1) % 2 : Nat) : Int) := by omega
    rw [s4] at s2
    clear hm0 s4 HV
    obtain ⟨i0, hi0, hz0, hz1, hz2⟩ := info_parts byte_info
    have HMU : Hidden (bv (UInt8.ofNat m) = .int .u8 (m : Int)) := ⟨by show Value.int .u8 ((UInt8.ofNat m).toNat : Int) = _; rw [u8_small (by omega)]⟩
    have HST : Hidden (BdSt w1 ((w1.alloc (.cells #[.int .i64 (((st + 1) % 2 : Nat) : Int)] 3)).alloc (.cells #[.int .u8 (m : Int)] 5)) (.slice (some ⟨w1.heap.size + 1, 0, none⟩) 1 1) (UInt8.ofNat m :: (numsB (pgs L)).take 0) (((st + 1) % 2 : Nat) : Int)) := by
      refine ⟨⟨((Below.refl _ _).alloc (Nat.le_refl _) _).alloc (by simp) _, ?_, ⟨by simp, .inr ⟨w1.heap.size + 1, 1, #[.int .u8 (m : Int)], by simp, Nat.le_refl _, ?_, by simp, by simp [maxLen], by simp, ?_⟩⟩⟩⟩
      · rw [World.cell?_of_block (w := w1.alloc (.cells #[.int .i64 (((st + 1) % 2 : Nat) : Int)] 3)) (a := ⟨w1.heap.size, 0, none⟩) (Below.heap_alloc _ _ _ (by simp))]
        have := heap_alloc_new w1 (.cells #[.int .i64 (((st + 1) % 2 : Nat) : Int)] 3)
        simp only [World.cell?]; rw [this]; rfl
      · have := heap_alloc_new (w1.alloc (.cells #[.int .i64 (((st + 1) % 2 : Nat) : Int)] 3)) (.cells #[.int .u8 (m : Int)] 5)
        rwa [World.size_alloc] at this
      · rw [List.take_zero, List.map_cons, HMU.out]; rfl
    go_wp2_with fail
    clear s1 s2 s3
    go_loopg [8, 45] m (fun r v8 i wr => ∃ k : Nat, k ≤ m ∧ r = m - k ∧ i = .int .i64 (k : Int) ∧ Hidden (BdSt w1 wr v8 (UInt8.ofNat m :: (numsB (pgs L)).take k) (((st + 1) % 2 : Nat) : Int)))
    case atStart => exact ⟨0, by omega, rfl, rfl, HST⟩
    case round =>
      obtain ⟨k, hk, rfl, rfl, hst⟩ := hrel
      by_cases hlt : k < m
      · have k0 : (0 : Int) ≤ k := by omega
        have k1 : (k : Int) < m := by omega
        have hkl : k < L.length := by rw [HLM.out]; exact hlt
        obtain ⟨pb, off, rfl, hc⟩ := HR1.out.rd k hkl
        have e0 := hc 0 _ rfl
        have e1 := hc 1 _ rfl
        rw [Nat.add_zero] at e0
        have plt := block_lt_of_cell e0
        have x0 := (hst.out.bel.cell (p := ⟨pb, off + k * 2, none⟩) plt).trans e0
        have x1 := (hst.out.bel.cell (p := ⟨pb, off + k * 2 + 1, none⟩) plt).trans e1
        have hnb := HCO.out.each (L[k].num, L[k].body) (List.mem_map.2 ⟨L[k], List.getElem_mem hkl, rfl⟩)
        have hnl : k < (numsB (pgs L)).length := by simp [numsB, HPL.out]; exact hlt
        have HS : Hidden (UInt8.ofNat m :: (numsB (pgs L)).take (k + 1) = (UInt8.ofNat m :: (numsB (pgs L)).take k) ++ [UInt8.ofNat L[k].num.toNat]) := ⟨by
          rw [List.take_succ_eq_append_getElem hnl]
          have : (numsB (pgs L))[k] = UInt8.ofNat L[k].num.toNat := by simp [numsB, pgs]
          rw [this]; rfl⟩
        have HLN : Hidden ((UInt8.ofNat m :: (numsB (pgs L)).take k).length = k + 1) := ⟨by simp; omega⟩
        generalize L[k] = x at *
        obtain ⟨num, xA, xc, body⟩ := x
        dsimp only at *
        have s5 : IntKind.u8.wrap num = num := IntWalk.u8_in _ (by omega)
        have s6 : IntKind.i64.wrap ((k : Int) + 1) = (k : Int) + 1 := IntWalk.i64_in _ (by omega)
        have HVU : Hidden (bv (UInt8.ofNat num.toNat) = .int .u8 num) := ⟨by show Value.int .u8 ((UInt8.ofNat num.toNat).toNat : Int) = _; rw [u8_small (by omega), Int.toNat_of_nonneg hnb.1]⟩
        have hal : Below wr.heap.size wr (wr.alloc (.cells #[.int .i64 num, .slice xA body.length xc] 89)) := (Below.refl _ _).alloc (Nat.le_refl _) _
        have HAL := Hidden.mk hal
        have HSZ := Hidden.mk hst.out.bel.size
        have HBS := Hidden.mk hst.out
        generalize UInt8.ofNat m :: (numsB (pgs L)).take k = bs at *
        have HOWN : Hidden (wr.ownsRow (w1.heap.size + 1) 5 1 u8 (k + 1) (bs.map bv)) := ⟨by have := hst.out.own; rwa [HLN.out] at this⟩
        have HB1 : Hidden (Below (w1.heap.size + 1) w1 w1) := ⟨Below.refl _ _⟩
        have HBW := Hidden.mk (HBS.out.bel.trans (HAL.out.mono HBS.out.bel.size))
        clear hst hc e0 e1 hnb hnl hal plt HST HB1
        go_wp2_with (at_builtin; refine wpList_append_lies _ rfl (.tmp 49) (.tmp 53) _ rfl (w1.heap.size + 1) 5 i0 _ 1 1 Tryz.underlying22 hi0 hz0 hz1 hz2 rfl (by decide) u8 (k + 1) (bs.map bv) rfl (own_below (own_below HOWN.out HAL.out) ((Below.refl _ _).alloc (Nat.le_refl _) _)) ⟨wr.heap.size + 1, 0, none⟩ 1 1 [.int .u8 num] rfl rfl (World.news_of_block (cs := #[.int .u8 num]) (t := 5) (fr := (0, 0)) (by have hq_ := heap_alloc_new ((wr.alloc (.cells #[.int .i64 num, .slice xA body.length xc] 89))) (.cells #[.int .u8 num] 5); rwa [World.size_alloc] at hq_)) (by simp [Value.oneCell']) (by omega) (by simp only [maxLen]; omega) (by omega) (by have hz_ := HBW.out.size; rw [World.size_alloc]; omega) (wr.heap.size + 1 + 1) (by simp) ?_; intro g8 cap8 w8 hown8 hg8 hat8 hlt8)
        have hgW := grown_trans' ((Below.refl (wr.alloc (.cells #[.int .i64 num, .slice xA body.length xc] 89)).heap.size (wr.alloc (.cells #[.int .i64 num, .slice xA body.length xc] 89))).alloc (Nat.le_refl _) _) hg8
        have hB8 : Below w1.heap.size w1 w8 := HBW.out.grown hgW HBW.out.size (fun q hq => Nat.le_of_succ_le (HOWN.out.lt q hq).1)
        have hab8 : w8.cell? ⟨w1.heap.size, 0, none⟩ = some (.int .i64 (((st + 1) % 2 : Nat) : Int)) := by
          have habl := block_lt_of_cell HBS.out.ab
          have h1 := HAL.out.block w1.heap.size habl
          have h2 := hgW.block w1.heap.size (Nat.lt_of_lt_of_le habl HAL.out.size) (fun hq => by have := (HOWN.out.lt _ hq.symm).1; omega)
          exact (World.cell?_of_block (w := wr) (a := ⟨w1.heap.size, 0, none⟩) (h2.trans h1)).trans HBS.out.ab
        have HF : Hidden (BdSt w1 w8 (.slice (some ⟨g8, 0, none⟩) (k + 1 + 1) cap8) (UInt8.ofNat m :: (numsB (pgs L)).take (k + 1)) (((st + 1) % 2 : Nat) : Int)) := ⟨hB8, hab8, by
          rw [HS.out, List.map_append, List.length_append, HLN.out]
          show w8.ownsRow _ _ 1 _ (k + 1 + 1) (_ ++ [bv (UInt8.ofNat num.toNat)])
          rw [HVU.out]; exact hown8⟩
        clear hgW hB8 hab8 hown8 hg8 hat8 hlt8
        go_roundg (m - (k + 1))
        case measure => omega
        case rel => exact ⟨k + 1, by omega, rfl, by go_num, HF⟩
      · obtain rfl : k = m := by omega
        have hbl : (UInt8.ofNat k :: numsB (pgs L)).length = k + 1 := by simp [numsB, HPL.out]
        have htk : (numsB (pgs L)).take k = numsB (pgs L) := List.take_of_length_le (by simp [numsB, HPL.out])
        have hb := hst.out
        rw [htk] at hb
        obtain ⟨Ab, cb, rfl, hcb, -, hrb⟩ := (show Own wr (w1.heap.size + 1) 5 u8 (UInt8.ofNat k :: numsB (pgs L)) from hb.own).slice
        rw [hbl] at hcb
        rw [hbl]
        have HBL := Hidden.mk hb.bel
        have HRB := Hidden.mk hrb
        have HAB := Hidden.mk hb.ab
        have HLB := Hidden.mk hbl
        have HMB : Hidden (markB (st + 1) (pgs L) = makeB (st + 1) (UInt8.ofNat k :: numsB (pgs L))) := ⟨by unfold markB; rw [HPL.out]⟩
        clear hst hbl htk hb hrb HST
        by_cases h4 : 4294967295 < st + 1
        · have HQ := Hidden.mk (show r = (D, 1) by rw [HV9.out, if_pos h4])
          have HE1 := Hidden.mk (make_e1 ((st : Int) + 1) Ab (k + 1) cb wr (by omega))
          clear h4 HV9
          go_wp2_with fail
          refine HE1.out.mono ?_
          rintro e w' ⟨rfl, rfl⟩
          go_wp2_with fail
          go_ret
          refine cmAns_bad ?_ ?_ ?_ (F' := F)
          · rw [HQ.out]; rfl
          · rw [HQ.out]; exact .inl (by simp)
          · rw [HQ.out]; exact (HM1.out.below HBL.out).cm (HP1.out.below HBL.out)
        · have HQ := Hidden.mk (show r = andThen (andThen (andThen (andThen (andThen (runE (areaF ((st + 1) % 2)) 0 (pgs L) D) flD) (markF ((st + 1) % 2) (markB (st + 1) (pgs L)))) flD) (runE pageF 0 (pgs L))) flD by rw [HV9.out, if_neg h4])
          have HMK := Hidden.mk (make_ok ((st : Int) + 1) Ab (k + 1) cb _ wr HLB.out (by omega) (by omega) (by omega) HRB.out)
          rw [show ((st : Int) + 1).toNat = st + 1 by omega, ← HMB.out] at HMK
          clear h4 HV9
          go_wp2_with fail
          refine HMK.out.mono ?_
          rintro e w3 ⟨g, rfl, hg, hrow, hb3⟩
          have HB3 := Hidden.mk (HBL.out.trans (hb3.mono HBL.out.size))
          have HM3 := Hidden.mk (HM1.out.below HB3.out)
          have habl := block_lt_of_cell HAB.out
          have hflt := HM1.out.dev.flt
          have hw1 := HB3.out.size
          have hwr := HBL.out.size
          dsimp only at habl
          have HRS : Hidden (Rest w3 F p d st n A L g (markB (st + 1) (pgs L)) w1.heap.size ((st + 1) % 2)) := ⟨HP1.out.below HB3.out, HR1.out.below HB3.out, hrow.rd, hrow.lt, fun hf => by have := hflt _ hf; omega, (hb3.cell (p := ⟨w1.heap.size, 0, none⟩) habl).trans HAB.out, fun hf => by have := hflt _ hf; omega⟩
          have HML : Hidden ((markB (st + 1) (pgs L)).length = 32) := ⟨by rw [HMB.out]; exact makeB_len _ _ (by rw [HLB.out]; omega)⟩
          have HNL : Hidden (∀ x ∈ L, 0 ≤ x.num ∧ x.num ≤ 1000) := ⟨fun x hx => by
            have := HCO.out.each (x.num, x.body) (List.mem_map.2 ⟨x, hx, rfl⟩)
            dsimp only at this; omega⟩
          have HLK := Hidden.mk (HLM.out)
          generalize markB (st + 1) (pgs L) = mkb at *
          generalize w1.heap.size = ab at *
          have ha2 : (st + 1) % 2 < 2 := by omega
          generalize (st + 1) % 2 = a at *
          clear hg hrow hb3 habl hflt hw1 hwr HMK HMB HRB HAB HBL
          have HW1 := Hidden.mk (pwrite1_any HM3.out.dev HRS.out.pg A k c L HLM.out hm23 HRS.out.rd HNL.out ab a ha2 HRS.out.abc HRS.out.nab)
          generalize hX1 : andThen (runE (areaF a) 0 (pgs L) D) flD = X1 at *
          clear hX1
          go_wp2_with fail
          refine HW1.out.mono ?_
          rintro e w4 ⟨rfl, F4, hm4⟩
          have HM4 := Hidden.mk (HM3.out.next hm4)
          have HR4 := Hidden.mk (HRS.out.mod hm4)
          clear hm4 HW1 HM3 HRS
          by_cases x1 : X1.2 ≠ 0
          · have HQ1 := Hidden.mk (show r = X1 by rw [HQ.out, andThen_ne x1, andThen_ne x1, andThen_ne x1, andThen_ne x1])
            have HX := Hidden.mk x1
            rw [errV_pos x1]
            clear x1 HQ
            go_wp2_with fail
            go_ret
            refine cmAns_bad ?_ ?_ ?_ (F' := F4)
            · rw [HQ1.out, errV_pos HX.out]; rfl
            · rw [HQ1.out]; exact .inl HX.out
            · rw [HQ1.out]; exact HM4.out.cm HR4.out.pg
          have x1' : X1.2 = 0 := Decidable.not_not.1 x1
          have HQ := Hidden.mk (show r = andThen (andThen (andThen (markF a mkb X1.1) flD) (runE pageF 0 (pgs L))) flD by rw [HQ.out, andThen_ok x1'])
          rw [x1', errV0]
          clear x1 x1'
          have HWR := Hidden.mk ((HM4.out.dev.below ((Below.refl _ w4).drew)).write_all (a : Int) (some ⟨g, 0, none⟩) 32 32 mkb HML.out (HR4.out.mr.drewN 1) (fun _ ad e => by obtain rfl := Option.some.inj e; exact HR4.out.ng))
          rw [show wrD X1.1 (a : Int) mkb = markF a mkb X1.1 from rfl] at HWR
          obtain ⟨y0, -, -⟩ := HR4.out.pg.cell
          have yab := HR4.out.abc
          have KY := Hidden.mk (And.intro y0 yab)
          have KS : Hidden (∀ (W : World) (F5 : Nat → Prop), Keep F4 w4.drew W → (∀ q, F5 q → F4 q ∨ w4.drew.heap.size ≤ q) → W.cell? ⟨p, 0, none⟩ = some (.pointer (some ⟨d, 0, none⟩)) ∧ W.cell? ⟨ab, 0, none⟩ = some (.int .i64 (a : Int))) := ⟨fun W F5 hk hF => ⟨(World.cell?_of_block (w := w4.drew) (a := ⟨p, 0, none⟩) (hk.block p HR4.out.pg.lt HR4.out.pg.2)).trans KY.out.1, (World.cell?_of_block (w := w4.drew) (a := ⟨ab, 0, none⟩) (hk.block ab (by have := block_lt_of_cell KY.out.2; exact this) HR4.out.nab)).trans KY.out.2⟩⟩
          clear y0 yab z0 z1 z2
          go_upto_region 22 with (fail)
          go_region_held3 (fun W => W.cell? ⟨p, 0, none⟩ = some (.pointer (some ⟨d, 0, none⟩)) ∧ W.cell? ⟨ab, 0, none⟩ = some (.int .i64 (a : Int))) (first | exact KY.out | exact KS.out _ F5 hk5 hF5)
            ((go_at_call 101; refine HWR.out.mono ?_; rintro e w5 ⟨rfl, F5, hd5, hk5, hF5⟩))
          all_goals
            have hm5 : PdM w0 w4 w5 F4 F5 d _ := ⟨hd5, (Keep.of_below (F := F4) ((Below.refl _ w4).drew)).trans hk5 (fun _ h => .inl h), fun q hq => hF5 q hq⟩
            have HM5 := Hidden.mk (HM4.out.next hm5)
            have HR5 := Hidden.mk (HR4.out.mod hm5)
            clear hd5 hk5 hF5 hm5 HWR KS KY HM4 HR4
            generalize markF a mkb X1.1 = X2 at *
            by_cases x2 : X2.2 ≠ 0
            · have HQ1 := Hidden.mk (show r = X2 by rw [HQ.out, andThen_ne x2, andThen_ne x2, andThen_ne x2])
              have HX := Hidden.mk x2
              rw [errV_pos x2]
              clear x2 HQ
              go_wp2_with fail
              go_ret
              refine cmAns_bad ?_ ?_ ?_ (F' := F5)
              · rw [HQ1.out, errV_pos HX.out]; rfl
              · rw [HQ1.out]; exact .inl HX.out
              · rw [HQ1.out]; exact HM5.out.cm HR5.out.pg
            have x2' : X2.2 = 0 := Decidable.not_not.1 x2
            have HQ := Hidden.mk (show r = andThen (andThen (flD X2.1) (runE pageF 0 (pgs L))) flD by rw [HQ.out, andThen_ok x2'])
            rw [x2', errV0]
            clear x2 x2'
            obtain ⟨y0, -, -⟩ := HR5.out.pg.cell
            have HFL := Hidden.mk HM5.out.dev.flush_all
            go_wp2_with fail
            refine HFL.out.mono ?_
            rintro e w6 ⟨rfl, hd6, hk6⟩
            have hm6 : PdM w0 w5 w6 F5 F5 d _ := ⟨hd6, hk6, fun _ h => .inl h⟩
            have HM6 := Hidden.mk (HM5.out.next hm6)
            have HR6 := Hidden.mk (HR5.out.mod hm6)
            clear hd6 hk6 hm6 HFL HM5 HR5 y0
            generalize flD X2.1 = X3 at *
            by_cases x3 : X3.2 ≠ 0
            · have HQ1 := Hidden.mk (show r = X3 by rw [HQ.out, andThen_ne x3, andThen_ne x3])
              have HX := Hidden.mk x3
              rw [errV_pos x3]
              clear x3 HQ
              go_wp2_with fail
              go_ret
              refine cmAns_bad ?_ ?_ ?_ (F' := F5)
              · rw [HQ1.out, errV_pos HX.out]; rfl
              · rw [HQ1.out]; exact .inl HX.out
              · rw [HQ1.out]; exact HM6.out.cm HR6.out.pg
            have x3' : X3.2 = 0 := Decidable.not_not.1 x3
            have HQ := Hidden.mk (show r = andThen (runE pageF 0 (pgs L) X3.1) flD by rw [HQ.out, andThen_ok x3'])
            rw [x3', errV0]
            clear x3 x3'
            have HW2 := Hidden.mk (pwrite2_any HM6.out.dev HR6.out.pg A k c L HLM.out hm23 HR6.out.rd HNL.out ab a ha2 HR6.out.abc HR6.out.nab)
            rw [← HQ.out] at HW2
            go_wp2_with fail
            refine HW2.out.mono ?_
            rintro e w7 ⟨rfl, F7, hm7⟩
            have HM7 := Hidden.mk (HM6.out.next hm7)
            have HR7 := Hidden.mk (HR6.out.mod hm7)
            clear hm7 HW2 HM6 HR6 HQ
            by_cases x4 : r.2 ≠ 0
            · have HX := Hidden.mk x4
              rw [errV_pos x4]
              clear x4
              go_wp2_with fail
              go_ret
              refine cmAns_bad ?_ ?_ ?_ (F' := F7)
              · rw [errV_pos HX.out]; rfl
              · exact .inl HX.out
              · exact HM7.out.cm HR7.out.pg
            have HX := Hidden.mk (Decidable.not_not.1 x4)
            rw [HX.out, errV0]
            clear x4
            obtain ⟨y0, y1, y2⟩ := HR7.out.pg.cell
            have ff := (three HR7.out.pg.1).2 1
            have HFIN := Hidden.mk (HM7.out.stamped HR7.out.pg H0.out (st + 1))
            rw [show (((st + 1 : Nat)) : Int) = (st : Int) + 1 by omega] at HFIN
            clear HM7 HR7
            go_wp2_with fail
            go_ret
            refine cmAns_ok ?_ HX.out ?_ HFIN.out
            · rw [HX.out]; rfl
            · rw [HLM.out]; exact HNZ.out
end
end Go.Proofs.YtbnobjlphmkgeaaGreatDoor
/- Pages: while the power stays; and what comes behind a commit that was cut. No program in sight. -/
namespace Go.Proofs.YtbnobjlphmkgeaaGreatDoor
open Go.RowKit

theorem wrD_stays {D : Dv} (h : Up D) (i : Int) (b : Bytes) : Up (wrD D i b).1 ∧ (wrD D i b).2 ≠ 9 := by
  unfold wrD
  split
  · exact ⟨h, by simp⟩
  · split
    · exact ⟨h, by simp⟩
    · rw [if_neg (by rw [h.2]; decide)]
      exact ⟨step_up (D := putD D i.toNat b) h, by rw [if_neg (by rw [h.1]; decide)]; simp⟩
theorem flD_stays {D : Dv} (h : Up D) : Up (flD D).1 ∧ (flD D).2 = 0 := by
  obtain ⟨a, b⟩ := flD_up h
  rw [a]; exact ⟨b, rfl⟩
theorem runE_stays {X : Type} {f : Nat → X → Dv → Dv × Nat} (hf : ∀ k x D, Up D → Up (f k x D).1 ∧ (f k x D).2 ≠ 9) : ∀ (l : List X) (k : Nat) (D : Dv), Up D → Up (runE f k l D).1 ∧ (runE f k l D).2 ≠ 9
  | [], _, _, h => ⟨h, by simp [runE]⟩
  | x :: r, k, D, h => by
    rw [runE_cons]
    obtain ⟨h1, h2⟩ := hf k x D h
    split
    · exact runE_stays hf r (k + 1) _ h1
    · exact ⟨h1, h2⟩
theorem andThen_stays {a : Dv × Nat} {g : Dv → Dv × Nat} (h : Up a.1 ∧ a.2 ≠ 9) (hg : ∀ D, Up D → Up (g D).1 ∧ (g D).2 ≠ 9) : Up (andThen a g).1 ∧ (andThen a g).2 ≠ 9 := by
  unfold andThen
  split
  · exact hg _ h.1
  · exact h
theorem flD_stays' (D : Dv) (h : Up D) : Up (flD D).1 ∧ (flD D).2 ≠ 9 := by
  obtain ⟨a, b⟩ := flD_stays h
  exact ⟨a, by omega⟩
theorem commit_stays {D : Dv} (h : Up D) (st n : Nat) (m : List (Int × Bytes)) : Up (commitP st n m D).1 ∧ (commitP st n m D).2 ≠ 9 := by
  unfold commitP
  split
  · rename_i h1
    refine ⟨h, ?_⟩
    show chkP n m ≠ 9
    unfold chkP
    split
    · simp
    · have : ∀ (l : List (Int × Bytes)) s, chkL n s l ≠ 9 := by
        intro l
        induction l with
        | nil => intro s; simp [chkL]
        | cons x r ih =>
          intro s
          unfold chkL
          split
          · simp
          · split
            · simp
            · split
              · simp
              · exact ih _
      exact this _ _
  · rw [if_neg (by rw [h.2]; decide)]
    split
    · exact ⟨h, by simp⟩
    · split
      · exact ⟨h, by simp⟩
      · refine andThen_stays (andThen_stays (andThen_stays (andThen_stays (andThen_stays (runE_stays (fun k x D hD => wrD_stays hD _ _) m 0 D h) flD_stays') (fun D hD => wrD_stays hD _ _)) flD_stays') (fun D hD => runE_stays (fun k x D hD => wrD_stays hD _ _) m 0 D hD)) flD_stays'
theorem open_stays {D : Dv} (h : Up D) : Up (openP D).1 ∧ (openP D).2 ≠ 9 := by
  unfold openP
  split
  · exact ⟨h, by simp⟩
  · rw [if_neg (by rw [h.2]; decide)]
    split
    · exact ⟨h, by simp⟩
    · exact andThen_stays (runE_stays (fun k x D hD => wrD_stays hD _ _) _ 0 D h) flD_stays'
section
variable {n st : Nat} {D : Dv} {l : Bytes} {pg : Nat → Bytes}
/-- other steps till the power goes -/
theorem Hold.left (h : Hold n D st l pg) (x : Int) (b : Bool) : Hold n { D with left := x, down := b } st l pg := h.same rfl fun _ _ _ _ hv => hv
theorem Full.left (h : Full n D st l pg) (x : Int) (b : Bool) : Full n { D with left := x, down := b } st l pg := ⟨h.hold.left x b, h.all⟩
theorem WfD.left (h : WfD D) (x : Int) (b : Bool) : WfD { D with left := x, down := b } := ⟨h.nd, h.lt, h.sl, h.ml⟩
theorem open_up (h : Hold n D st l pg) (hw : WfD D) (hu : Up D) : (openP D).2 = 0 ∧ Full n (openP D).1 st l pg ∧ (openP D).1.O = [] ∧ Up (openP D).1 ∧ WfD (openP D).1 ∧ (openP D).1.S.length = D.S.length := by
  obtain ⟨h1, h2⟩ := open_safe h hw
  rcases h1 with ⟨a, b, c, _, e⟩ | ⟨a, _⟩
  · exact ⟨a, b, c, (open_stays hu).1, e, h2⟩
  · exact absurd a (open_stays hu).2
end
theorem format_full (nn : Nat) (h1 : 49 ≤ nn) (_h3 : nn ≤ 300) : Full (nP (newD nn)) (formatD (newD nn)) 2 [] (fun _ => List.replicate 32 0) ∧ Up (formatD (newD nn)) ∧ WfD (formatD (newD nn)) ∧ (formatD (newD nn)).S.length = nn ∧ nP (newD nn) = min (nn - 48) 200 := by
  have hlen : (newD nn).S.length = nn := by simp [newD]
  have hu : Up (newD nn) := ⟨rfl, rfl⟩
  have hw : WfD (newD nn) := ⟨by simp [newD], fun i hi => by simp [newD] at hi, fun i hi => by
    have : i < nn := by rwa [hlen] at hi
    simp [newD, this], fun i hi => by simp [newD] at hi⟩
  have hmk : (makeB 2 []).length = 32 := makeB_len _ _ (by simp)
  obtain ⟨e1, u1⟩ := wrD_up hu (i := 0) (b := makeB 2 []) (by omega) hmk
  have w1 := wrD_wf hw ((0 : Nat) : Int) (makeB 2 [])
  rw [e1] at w1
  dsimp only at w1
  have l1 : (stepD (putD (newD nn) 0 (makeB 2 []))).S.length = nn := hlen
  obtain ⟨e2, u2⟩ := wrD_up u1 (i := 1) (b := List.replicate 32 0) (by omega) (by simp)
  have w2 := wrD_wf w1 ((1 : Nat) : Int) (List.replicate 32 0)
  rw [e2] at w2
  dsimp only at w2
  have l2 : (stepD (putD (stepD (putD (newD nn) 0 (makeB 2 []))) 1 (List.replicate 32 0))).S.length = nn := hlen
  obtain ⟨e3, u3⟩ := flD_up u2
  have w3 := flD_wf w2
  rw [e3] at w3
  have l3 := flD_len (stepD (putD (stepD (putD (newD nn) 0 (makeB 2 []))) 1 (List.replicate 32 0)))
  rw [e3, l2] at l3
  have hst : ∀ j, j < nn → Stab (formatD (newD nn)) j (if j = 1 then List.replicate 32 0 else if j = 0 then makeB 2 [] else List.replicate 32 0) := fun j hj => by
    have := stab_flushed (D := stepD (putD (stepD (putD (newD nn) 0 (makeB 2 []))) 1 (List.replicate 32 0))) (by rw [e3]) (j := j) (by omega)
    rw [e3, readD_step, readD_put, readD_step, readD_put] at this
    have hn : readD (newD nn) j = List.replicate 32 0 := by unfold readD; rw [if_neg (by simp [newD])]; simp [newD, hj]
    rw [hn] at this
    exact this
  have hnp : nP (newD nn) = min (nn - 48) 200 := by unfold nP; rw [hlen]
  have hmark : markOf (nP (newD nn)) (makeB 2 []) = (2, []) := by
    have ho : (openF (makeB 2 [])).2.2 = 0 := by decide
    have hb : bodyOf (makeB 2 []) = List.replicate 24 0 := by decide
    have hs : stampOf (makeB 2 []) = 2 := by decide
    unfold markOf
    have hm : mkL (makeB 2 []) = [] := by unfold mkL; rw [hb]; rfl
    rw [if_neg (by omega), hb, if_neg (by decide), hm, hs]
    rfl
  refine ⟨⟨⟨by unfold nP; rw [hlen]; show _ = min ((formatD (newD nn)).S.length - 48) 200; rw [show (formatD (newD nn)).S.length = nn from l3], by rw [show (formatD (newD nn)).S.length = nn from l3]; exact h1, ⟨_, hst 0 (by omega), by rw [if_neg (by decide), if_pos rfl]; exact hmark⟩, by omega, by simp, by simp, fun k hk => by simp at hk, fun i hi _ => ?_, ⟨_, hst 1 (by omega), by rw [if_pos rfl]; exact ⟨by simp, .inl (by decide)⟩⟩⟩, fun i hi => ?_⟩, u3, w3, l3, hnp⟩
  · have := hst (48 + i) (by rw [hnp] at hi; omega)
    rw [if_neg (by omega), if_neg (by omega)] at this
    exact this
  · have := hst (48 + i) (by rw [hnp] at hi; omega)
    rw [if_neg (by omega), if_neg (by omega)] at this
    exact this
end Go.Proofs.YtbnobjlphmkgeaaGreatDoor
/- A list of rows of one's own, beside a device; what is pending; booleans that came in. -/
namespace Go.Proofs.YtbnobjlphmkgeaaGreatDoor
open Go.RowKit Go.Maps Go.ChangeMaps

section
variable {w w' : World} {F F' : Nat → Prop} {go n k : Nat} {f : Nat → Bytes}
end
theorem RdB.below {w w' : World} {A : Option Addr} {l : List Bool} (h : RdB w A l) (hb : Below w.heap.size w w') : RdB w' A l := fun j hj => by
  obtain ⟨b, off, hA, hc⟩ := h j hj
  exact ⟨b, off, hA, (hb.cell (p := ⟨b, off + j, none⟩) (block_lt_of_cell hc)).trans hc⟩
end Go.Proofs.YtbnobjlphmkgeaaGreatDoor
/- Is an error nil? As equations, for a walk. -/
namespace Go.Proofs.YtbnobjlphmkgeaaGreatDoor
open Go.RowKit

end Go.Proofs.YtbnobjlphmkgeaaGreatDoor
/- Pages as a law plays with them: what a run keeps; rows that may be the argument's own. -/
namespace Go.Proofs.YtbnobjlphmkgeaaGreatDoor
open Go.RowKit Go.Maps Go.ChangeMaps

theorem pgsR_of {w w' : World} {F : Nat → Prop} {A : Option Addr} {L : List PgX} (hr : RdX pcells 2 w A L) (ho : ∀ x ∈ L, PgOk w x) (hF : ∀ k, F k → w.heap.size ≤ k) (hb : Below w.heap.size w w') : PgsR w' F A L :=
  ⟨hr.below hb, fun hl ad e hf => by have := hr.lt_ hl ad e; have := hF _ hf; omega, fun x hx => (ho x hx).rd.below hb, fun x hx h0 ad e hf => by
    obtain ⟨q, off, e2, hq⟩ := (ho x hx).rd.lt h0
    rw [e2] at e
    obtain rfl := Option.some.inj e
    have := hF _ hf
    dsimp only at this; omega⟩
section
variable {w0 w w' : World} {F F' : Nat → Prop} {p d st n : Nat} {D : Dv}
theorem pread_ok (h : DevB w0 w F d D) (hp : PgH w F p d st (nP D)) (i : Nat) (hi : i < nP D) (hd : D.down = false) :
    Calls Tryz.prog 40 #[.pointer (some ⟨p, 0, none⟩), .int .i64 (i : Int)] w fun e w' => ∃ g cap, e = .returned (.tuple #[.slice (some ⟨g, 0, none⟩) 32 cap, .nilIface]) ∧ w.heap.size ≤ g ∧ Row w' 5 g cap (readD D (48 + i)) ∧ Below w.heap.size w w' := by
  obtain ⟨c0, c1, c2⟩ := hp.cell
  have hn := nP_le D
  have h48 : 48 + i < D.S.length := by unfold nP at hi; omega
  have HR := Hidden.mk (h.read (48 + i) h48 hd)
  have e : (((48 + i : Nat)) : Int) = 48 + (i : Int) := by omega
  rw [e] at HR
  have d1 : decide ((i : Int) < 0) = false := by simp
  have d2 : decide ((nP D : Int) ≤ (i : Int)) = false := by simp; omega
  have d3 : decide (nP D ≤ i) = false := by simp; omega
  have hi2 : (i : Int) ≤ 200 := by omega
  clear h hp hi hd h48 e
  go_enter Tryz.func40, Tryz.ntmps40
  go_wp2_with fail
  refine HR.out.mono ?_
  rintro e w1 ⟨g, cap, rfl, hg, hrow, -, hb, -⟩
  have H := Hidden.mk (And.intro hg (And.intro hrow hb))
  clear hg hrow hb HR
  go_wp2_with fail
  go_ret2
  exact ⟨g, cap, rfl, H.out⟩
theorem PgH.ne_cells (h : PgH w F p d st n) {go : Nat} {cur : Array Value} {t : TypeId} (h2 : w.heap[go]? = some (.cells cur t (0, 0))) (ht : 167 ≠ t) : p ≠ go := Go.Proofs.YtbnobjlphmkgeaaGreatDoor.ne_cells h.1 h2 ht
end
theorem OpAns.uni {w0 w w' : World} {F : Nat → Prop} {d st : Nat} {D : Dv} {r : Dv × Nat} {e : Ending} (h : OpAns w0 w F d D r st e w') :
    ∃ v F', e = .returned (.tuple #[v, errV r.2]) ∧ PdM w0 w w' F F' d r.1 ∧ (r.2 = 0 → ∃ p, v = .pointer (some ⟨p, 0, none⟩) ∧ PgH w' F' p d st (nP D) ∧ w.heap.size ≤ p) := by
  obtain ⟨F', hm, ⟨h0, p, he, hp, hn⟩ | ⟨h0, he⟩⟩ := h
  · exact ⟨_, F', by rw [he, h0]; rfl, hm, fun _ => ⟨p, rfl, hp, hn⟩⟩
  · exact ⟨_, F', he, hm, fun e => absurd e h0⟩
/-- the pages are as the plain law says, and the power is there -/
structure SfP (nn n : Nat) (D : Dv) (st : Nat) (pg : Nat → Bytes) : Prop where
  full : ∃ l, Full n D st l pg
  wf : WfD D
  up : Up D
  len : D.S.length = nn
  n0 : n = nP D
theorem SfP.commit {nn n : Nat} {D : Dv} {st : Nat} {pg : Nat → Bytes} (h : SfP nn n D st pg) (m : List (Int × Bytes)) :
    ∃ pg', SfP nn n (commitP st n m D).1 (if (commitP st n m D).2 = 0 ∧ m.length ≠ 0 then st + 1 else st) pg' ∧ ((commitP st n m D).2 = 0 → pg' = updPg pg m ∧ ChkOk n m) := by
  obtain ⟨l, hl⟩ := h.full
  have H := commit_safe m hl h.wf
  have hu := commit_stays h.up st n m
  have hn0 : n = nP (commitP st n m D).1 := by
    rw [show nP (commitP st n m D).1 = nP D from by unfold nP; rw [H.len]]; exact h.n0
  by_cases h0 : (commitP st n m D).2 = 0
  · by_cases hm : m.length = 0
    · have e := H.none_ h0 hm
      have hm' : m = [] := List.eq_nil_of_length_eq_zero hm
      rw [if_neg (fun x => x.2 hm)]
      refine ⟨pg, ⟨⟨l, by rw [e]; exact hl⟩, H.wf, hu.1, H.len.trans h.len, hn0⟩, fun _ => ⟨by rw [hm']; rfl, by rw [hm']; exact ⟨by simp, by simp, by simp⟩⟩⟩
    · obtain ⟨a, b, c, e⟩ := H.done h0 hm
      rw [if_pos ⟨h0, hm⟩]
      exact ⟨_, ⟨⟨_, a⟩, H.wf, hu.1, H.len.trans h.len, hn0⟩, fun _ => ⟨rfl, e⟩⟩
  · rw [if_neg (fun x => h0 x.1)]
    exact ⟨pg, ⟨⟨l, by rw [H.bad h0 hu.2]; exact hl⟩, H.wf, hu.1, H.len.trans h.len, hn0⟩, fun x => absurd x h0⟩
theorem SfP.page {nn n : Nat} {D : Dv} {st : Nat} {pg : Nat → Bytes} (h : SfP nn n D st pg) (i : Nat) (hi : i < n) : readD D (48 + i) = pg i ∧ (pg i).length = 32 := by
  obtain ⟨l, hl⟩ := h.full
  have := (hl.all i hi).2
  refine ⟨this, ?_⟩
  rw [← this]
  refine h.wf.rd ?_
  have := hl.hold.lens
  omega
theorem SfP.commit2 {nn n : Nat} {D : Dv} {st : Nat} {pg : Nat → Bytes} (h : SfP nn n D st pg) (m : List (Int × Bytes)) :
    SfP nn n (commitP st n m D).1 (if (commitP st n m D).2 = 0 ∧ m.length ≠ 0 then st + 1 else st) (if (commitP st n m D).2 = 0 then updPg pg m else pg) ∧ ((commitP st n m D).2 = 0 → ChkOk n m) := by
  obtain ⟨l, hl⟩ := h.full
  have H := commit_safe m hl h.wf
  have hu := commit_stays h.up st n m
  have hn0 : n = nP (commitP st n m D).1 := by
    rw [show nP (commitP st n m D).1 = nP D from by unfold nP; rw [H.len]]; exact h.n0
  by_cases h0 : (commitP st n m D).2 = 0
  · by_cases hm : m.length = 0
    · have e := H.none_ h0 hm
      have hm' : m = [] := List.eq_nil_of_length_eq_zero hm
      rw [if_neg (fun x => x.2 hm), if_pos h0]
      have hup : updPg pg m = pg := by rw [hm']; rfl
      rw [hup]
      refine ⟨⟨⟨l, by rw [e]; exact hl⟩, H.wf, hu.1, H.len.trans h.len, hn0⟩, fun _ => by rw [hm']; exact ⟨by simp, by simp, by simp⟩⟩
    · obtain ⟨a, b, c, e⟩ := H.done h0 hm
      rw [if_pos ⟨h0, hm⟩, if_pos h0]
      exact ⟨⟨⟨_, a⟩, H.wf, hu.1, H.len.trans h.len, hn0⟩, fun _ => e⟩
  · rw [if_neg (fun x => h0 x.1), if_neg h0]
    exact ⟨⟨⟨l, by rw [H.bad h0 hu.2]; exact hl⟩, H.wf, hu.1, H.len.trans h.len, hn0⟩, fun x => absurd x h0⟩
section
variable {w0 w w' : World} {F F' : Nat → Prop} {go n : Nat} {f : Nat → Bytes}
end
end Go.Proofs.YtbnobjlphmkgeaaGreatDoor
/- Laid: library functions whose contracts are proved over whatever program: the table of numbers, and a field a function or a type. -/
namespace Go.Proofs.YtbnobjlphmkgeaaGreatDoor
open Go.Shelf
end Go.Proofs.YtbnobjlphmkgeaaGreatDoor
/- Package view: Len, has, All. -/
namespace Go.Proofs.YtbnobjlphmkgeaaGreatDoor
open Go.RowKit Go.Maps Go.ChangeMaps

/-- all bytes of n pages -/
def allB (D : Dv) (n : Nat) : Bytes := (List.range n).flatMap fun i => readD D (48 + i)
theorem allB_succ (D : Dv) (n : Nat) : allB D (n + 1) = allB D n ++ readD D (48 + n) := by
  unfold allB
  rw [List.range_succ, List.flatMap_append]
  simp
theorem allB_len {D : Dv} (n : Nat) (h : ∀ i, i < n → (readD D (48 + i)).length = 32) : (allB D n).length = 32 * n := by
  induction n with
  | zero => rfl
  | succ n ih => rw [allB_succ, List.length_append, ih (fun i hi => h i (by omega)), h n (by omega)]; omega
section
variable {w0 w : World} {F : Nat → Prop} {p d st : Nat} {D : Dv}
set_option maxRecDepth 100000 in
theorem vall_ok (h : DevB w0 w F d D) (hp : PgH w F p d st (nP D)) (hd : D.down = false) (hl : ∀ i, i < nP D → (readD D (48 + i)).length = 32) (n : Nat) (hn : n = nP D) :
    Calls Tryz.prog 165 #[.pointer (some ⟨p, 0, none⟩)] w fun e w' => ∃ v, e = .returned (.tuple #[v, .nilIface]) ∧ w'.ownsRow w.heap.size 5 1 v (32 * n) ((allB D n).map bv) ∧ Below w.heap.size w w' := by
  obtain ⟨ib, hi0, hz0, hz1, hz2⟩ := info_parts byte_info
  have hn2 : n ≤ 200 := by rw [hn]; exact (nP_le D).1
  have H := Hidden.mk h
  have HP := Hidden.mk hp
  rw [← hn] at HP
  have HL := Hidden.mk hl
  have HN := Hidden.mk hn
  have HRA : Hidden (∀ W, Below w.heap.size w W → ∀ i, i < n → Calls Tryz.prog 40 #[.pointer (some ⟨p, 0, none⟩), .int .i64 (i : Int)] W fun e w' => ∃ g cap, e = .returned (.tuple #[.slice (some ⟨g, 0, none⟩) 32 cap, .nilIface]) ∧ W.heap.size ≤ g ∧ Row w' 5 g cap (readD D (48 + i)) ∧ Below W.heap.size W w') :=
    ⟨fun W hW i hi => pread_ok (h.below hW) (hp.below hW) i (by rw [← hn]; exact hi) hd⟩
  clear h hp hl hn
  go_enter Tryz.func165, Tryz.ntmps165
  go_wp2_with fail
  refine (plen_any HP.out).mono ?_
  rintro e w' ⟨rfl, rfl⟩
  go_wp2_with fail
  go_loopg [4, 10] n (fun m s i wr => ∃ k : Nat, k ≤ n ∧ m = n - k ∧ i = .int .i64 (k : Int) ∧ Hidden (wr.ownsRow w.heap.size 5 1 s (32 * k) ((allB D k).map bv) ∧ Below w.heap.size w wr))
  case atStart => exact ⟨0, by omega, rfl, rfl, ⟨World.ownsRow_nil _ _ _ _, Below.refl _ _⟩⟩
  case round =>
    obtain ⟨k, hk, rfl, rfl, hs⟩ := hrel
    by_cases hlt : k < n
    · have i0 : (0 : Int) ≤ k := by omega
      have i1 : (k : Int) < n := by omega
      have s1 : IntKind.i64.wrap ((k : Int) + 1) = (k : Int) + 1 := IntWalk.i64_in _ (by omega)
      have HS := Hidden.mk hs.out
      have hlen := HL.out k (by rw [← HN.out]; exact hlt)
      have HLT := Hidden.mk hlt
      clear hs hlt
      go_wp2_with fail
      refine (HRA.out _ HS.out.2 k HLT.out).mono ?_
      rintro e w5 ⟨g, cap, rfl, hg5, hr5, hb5⟩
      have hsrc := Src.of_rd hr5.rd
      rw [hlen] at hsrc
      have hown := own_below HS.out.1 hb5
      have hbw := HS.out.2.trans (hb5.mono HS.out.2.size)
      have HSZ := Hidden.mk hbw.size
      go_wp2_with (at_builtin; go_loud (refine wpList_append_src _ rfl (.tmp 22) (.tmp 23) _ rfl w.heap.size 5 ib _ 1 1 Tryz.underlying22 hi0 hz0 hz1 hz2 rfl (by decide) _ (32 * k) _ rfl hown _ 32 cap _ rfl hsrc (by simp [Value.oneCell']) (by simp only [maxLen]; omega) (by omega) HSZ.out ?_); intro v1 w1 hown1 hg1 hnn)
      have hB := hbw.grown hg1 hbw.size (fun q hq => (hown.lt q hq).1)
      have hown2 : w1.ownsRow w.heap.size 5 1 v1 (32 * (k + 1)) ((allB D (k + 1)).map bv) := by
        rw [allB_succ, List.map_append, Nat.mul_add]
        exact hown1
      have HO := Hidden.mk (And.intro hown2 hB)
      clear hown1 hown2 hB hg1 hnn hown hbw hsrc hg5 hr5 hb5
      go_wp2_with fail
      go_roundg (n - (k + 1))
      case measure => omega
      case rel => exact ⟨k + 1, by omega, rfl, by go_num, HO⟩
    · obtain rfl : n = k := by omega
      have t4 : decide ((n : Int) < n) = false := by simp
      go_wp2_with fail
      go_ret2
      exact ⟨_, rfl, hs.out.1, hs.out.2⟩
end
end Go.Proofs.YtbnobjlphmkgeaaGreatDoor
/- Package view: New. -/
namespace Go.Proofs.YtbnobjlphmkgeaaGreatDoor
open Go.RowKit Go.Maps Go.ChangeMaps

/-- an own row of bytes that is not empty, as a row -/
theorem row_of_owns {w : World} {base n : Nat} {v : Value} {l : Bytes} (h : w.ownsRow base 5 1 v n (l.map bv)) (hl : l.length = n) (hn : 0 < n) : ∃ g cap, v = .slice (some ⟨g, 0, none⟩) n cap ∧ base ≤ g ∧ Row w 5 g cap l := by
  obtain ⟨-, ⟨_, h0⟩ | ⟨g, cap, cur, rfl, hb, hg, h1, h2, h3, h4⟩⟩ := h
  · omega
  · exact ⟨g, cap, rfl, hb, cur, hg, by omega, h2, by omega, by simpa [hl] using h4⟩
section
variable {w0 w : World} {F : Nat → Prop} {p d st : Nat} {D : Dv}
end
end Go.Proofs.YtbnobjlphmkgeaaGreatDoor
/- Package view: Len, has, Read. -/
namespace Go.Proofs.YtbnobjlphmkgeaaGreatDoor
open Go.RowKit Go.Maps Go.ChangeMaps

theorem four {w : World} {p : Nat} {a b c d : Value} {t : TypeId} (h : w.heap[p]? = some (.cells #[a, b, c, d] t (0, 0))) :
    w.cell? ⟨p, 0, none⟩ = some a ∧ w.cell? ⟨p, 1, none⟩ = some b ∧ w.cell? ⟨p, 2, none⟩ = some c ∧ w.cell? ⟨p, 3, none⟩ = some d :=
  ⟨by rw [cell_of_row w p 0 _ _ _ h]; rfl, by rw [cell_of_row w p 1 _ _ _ h]; rfl, by rw [cell_of_row w p 2 _ _ _ h]; rfl, by rw [cell_of_row w p 3 _ _ _ h]; rfl⟩
section
variable {w : World} {G : Nat → Prop} {v p cnt : Nat} {K N : Bytes} {f : Nat → Option Value}
end
end Go.Proofs.YtbnobjlphmkgeaaGreatDoor
/- Laid: library functions whose contracts are proved over whatever program: the table of numbers, and a field a function or a type. -/
namespace Go.Proofs.YtbnobjlphmkgeaaGreatDoor
open Go.Shelf
def sortI_ren : Go.Shelf.Ren := ⟨fun | 5 => 206 | 8 => 156 | 7 => 226 | 19 => 204 | 20 => 205 | 10 => 239 | 11 => 240 | 12 => 241 | 13 => 242 | 14 => 243 | 15 => 244 | 16 => 245 | 17 => 246 | 18 => 247 | 30 => 261 | 31 => 222 | 32 => 223 | 33 => 262 | 34 => 263 | 35 => 157 | 40 => 269 | n => n, fun | 23 => 54 | 25 => 3 | 3 => 3 | 32 => 213 | 22 => 54 | 0 => 0 | 44 => 272 | 46 => 274 | 4 => 4 | 36 => 266 | 35 => 265 | 41 => 217 | 5 => 5 | 9 => 9 | 53 => 296 | 57 => 300 | 63 => 310 | 64 => 58 | n => n, fun | n => n⟩
theorem sortI : Go.Proofs.SlLaysM.n5 Tryz.prog sortI_ren := {
  mixed := by kernel_rfl
  f5 := ⟨Tryz.f206.name, by decide, Tryz.func206.trans (congrArg some (by kernel_rfl))⟩
  f7 := ⟨Tryz.f226.name, by decide, Tryz.func226.trans (congrArg some (by kernel_rfl))⟩
  f8 := Tryz.func156.trans (congrArg some (by kernel_rfl))
  f10 := ⟨Tryz.f239.name, by decide, Tryz.func239.trans (congrArg some (by kernel_rfl))⟩
  f11 := ⟨Tryz.f240.name, by decide, Tryz.func240.trans (congrArg some (by kernel_rfl))⟩
  f12 := ⟨Tryz.f241.name, by decide, Tryz.func241.trans (congrArg some (by kernel_rfl))⟩
  f13 := ⟨Tryz.f242.name, by decide, Tryz.func242.trans (congrArg some (by kernel_rfl))⟩
  f14 := ⟨Tryz.f243.name, by decide, Tryz.func243.trans (congrArg some (by kernel_rfl))⟩
  f15 := ⟨Tryz.f244.name, by decide, Tryz.func244.trans (congrArg some (by kernel_rfl))⟩
  f16 := ⟨Tryz.f245.name, by decide, Tryz.func245.trans (congrArg some (by kernel_rfl))⟩
  f17 := ⟨Tryz.f246.name, by decide, Tryz.func246.trans (congrArg some (by kernel_rfl))⟩
  f18 := ⟨Tryz.f247.name, by decide, Tryz.func247.trans (congrArg some (by kernel_rfl))⟩
  f19 := Tryz.func204.trans (congrArg some (by kernel_rfl))
  f20 := Tryz.func205.trans (congrArg some (by kernel_rfl))
  f30 := ⟨Tryz.f261.name, by decide, Tryz.func261.trans (congrArg some (by kernel_rfl))⟩
  f31 := Tryz.func222.trans (congrArg some (by kernel_rfl))
  f32 := Tryz.func223.trans (congrArg some (by kernel_rfl))
  f33 := ⟨Tryz.f262.name, by decide, Tryz.func262.trans (congrArg some (by kernel_rfl))⟩
  f34 := ⟨Tryz.f263.name, by decide, Tryz.func263.trans (congrArg some (by kernel_rfl))⟩
  f35 := ⟨Tryz.f157.name, by decide, Tryz.func157.trans (congrArg some (by kernel_rfl))⟩
  f40 := ⟨Tryz.f269.name, by decide, Tryz.func269.trans (congrArg some (by kernel_rfl))⟩
  t0 := Tryz.underlying0
  a0 := Tryz.isAgg0
  z0 := Tryz.sizeOf0
  v0 := Tryz.zeroValue0
  t3 := Tryz.underlying3
  a3 := Tryz.isAgg3
  z3 := Tryz.sizeOf3
  v3 := Tryz.zeroValue3
  t4 := Tryz.underlying4
  a4 := Tryz.isAgg4
  z4 := Tryz.sizeOf4
  v4 := Tryz.zeroValue4
  t5 := Tryz.underlying5
  a5 := Tryz.isAgg5
  z5 := Tryz.sizeOf5
  v5 := Tryz.zeroValue5
  t9 := Tryz.underlying9
  a9 := Tryz.isAgg9
  z9 := Tryz.sizeOf9
  v9 := Tryz.zeroValue9
  t22 := Tryz.underlying54
  a22 := Tryz.isAgg54
  z22 := Tryz.sizeOf54
  v22 := Tryz.zeroValue54
  t23 := Tryz.underlying54
  a23 := Tryz.isAgg54
  z23 := Tryz.sizeOf54
  v23 := Tryz.zeroValue54
  t25 := Tryz.underlying3
  a25 := Tryz.isAgg3
  z25 := Tryz.sizeOf3
  v25 := Tryz.zeroValue3
  t32 := Tryz.underlying213
  a32 := Tryz.isAgg213
  z32 := Tryz.sizeOf213
  v32 := Tryz.zeroValue213
  t35 := Tryz.underlying265
  a35 := Tryz.isAgg265
  z35 := Tryz.sizeOf265
  v35 := Tryz.zeroValue265
  t36 := Tryz.underlying266
  a36 := Tryz.isAgg266
  z36 := Tryz.sizeOf266
  v36 := Tryz.zeroValue266
  t41 := Tryz.underlying217
  a41 := Tryz.isAgg217
  z41 := Tryz.sizeOf217
  v41 := Tryz.zeroValue217
  t44 := Tryz.underlying272
  a44 := Tryz.isAgg272
  z44 := Tryz.sizeOf272
  v44 := Tryz.zeroValue272
  t46 := Tryz.underlying274
  a46 := Tryz.isAgg274
  z46 := Tryz.sizeOf274
  v46 := Tryz.zeroValue274
  t53 := Tryz.underlying296
  a53 := Tryz.isAgg296
  z53 := Tryz.sizeOf296
  v53 := Tryz.zeroValue296
  t57 := Tryz.underlying300
  a57 := Tryz.isAgg300
  z57 := Tryz.sizeOf300
  v57 := Tryz.zeroValue300
  t63 := Tryz.underlying310
  a63 := Tryz.isAgg310
  z63 := Tryz.sizeOf310
  v63 := Tryz.zeroValue310
  t64 := Tryz.underlying58
  a64 := Tryz.isAgg58
  z64 := Tryz.sizeOf58
  v64 := Tryz.zeroValue58 }
end Go.Proofs.YtbnobjlphmkgeaaGreatDoor
/- slices.Sorted(maps.Keys(m)) of maps from numbers to booleans. -/
namespace Go.Proofs.YtbnobjlphmkgeaaGreatDoor
open Go.RowKit Go.Maps Go.ChangeMaps Go.Sort Go.Shelf

section
variable {P : Program} {K : TypeId} {w : World} {b cnt : Nat} {f : Nat → Option Value}
/-- the keys of a map that is told by a function -/
theorem IM.keys (h : IM P K natL w b f cnt) (hK : P.underlying K = some (.int .i64)) :
    ∃ D : DataW Value, w.ownsMap P K heldR b cnt D ∧ Maps.size D = cnt ∧ (intKeys D).Nodup ∧ (∀ x ∈ intKeys D, ∃ k : Nat, x = k ∧ (f k).isSome = true) ∧ ∀ k, (f k).isSome = true → (k : Int) ∈ intKeys D := by
  obtain ⟨D, hown, hs, hh⟩ := h
  have hK2 := Go.Maps.int_keyed hK
  refine ⟨D, hown, hs, ?_⟩
  obtain ⟨L, hD, hp, _⟩ := hown.entries hK2
  obtain ⟨L', hD', hko⟩ := hown.keysOf
  obtain rfl : L = L' := by rw [hD] at hD'; simpa using hD'
  subst hD
  have hint : ∀ p ∈ L, ∃ x, p.1 = .int .i64 x := fun p hp => by
    obtain ⟨v, hv⟩ := hko p hp
    obtain ⟨x, _, hx, _⟩ := Maps.keyOf_i64 hK hv
    exact ⟨x, hx⟩
  clear hown hD'
  have hmem : ∀ x : Int, x ∈ intKeys (.map L) ↔ has (.map L) (.int .i64 x) = true := fun x => by
    rw [has_eq, List.any_eq_true]
    show x ∈ L.map (fun p => Go.intOf p.1) ↔ _
    rw [List.mem_map]
    constructor
    · rintro ⟨p, hp', rfl⟩
      obtain ⟨a, ha⟩ := hint p hp'
      exact ⟨p, hp', by rw [ha]; simp [Lit.sameKey, Go.intOf]⟩
    · rintro ⟨p, hp', hs'⟩
      obtain ⟨a, ha⟩ := hint p hp'
      rw [ha] at hs'
      exact ⟨p, hp', by rw [ha]; simpa [Lit.sameKey, Go.intOf] using hs'⟩
  refine ⟨?_, fun x hx => ?_, fun k hk => ?_⟩
  · show (L.map fun p => Go.intOf p.1).Nodup
    refine List.pairwise_map.2 (hp.imp_of_mem fun {p q} hp' hq' hne e => hne ?_)
    obtain ⟨a, ha⟩ := hint p hp'
    obtain ⟨c, hc⟩ := hint q hq'
    rw [ha, hc] at e ⊢
    exact congrArg _ e
  · obtain ⟨k, e, hk⟩ := hh.2 _ ((hmem x).1 hx)
    unfold natL at e
    injection e with _ e
    exact ⟨k, e, hk⟩
  · obtain ⟨v, hv⟩ := Option.isSome_iff_exists.1 hk
    exact (hmem k).2 ((hh.1 k).2 v hv).1
end
/-- a list of numbers that rises, with just the keys of f -/
structure KeysOf (f : Nat → Option Value) (S : List Nat) : Prop where
  up : S.Pairwise (· < ·)
  mem : ∀ k, k ∈ S ↔ (f k).isSome = true
end Go.Proofs.YtbnobjlphmkgeaaGreatDoor
/- Package view: Dirty. -/
namespace Go.Proofs.YtbnobjlphmkgeaaGreatDoor
open Go.RowKit Go.Maps Go.ChangeMaps

section
variable {w : World} {G : Nat → Prop} {v p cnt : Nat} {K N : Bytes} {f : Nat → Option Value}
end
end Go.Proofs.YtbnobjlphmkgeaaGreatDoor
/- Package view: the clone of a map that is told by a function. -/
namespace Go.Proofs.YtbnobjlphmkgeaaGreatDoor
open Go.RowKit Go.Maps Go.ChangeMaps

end Go.Proofs.YtbnobjlphmkgeaaGreatDoor
/- Package view: the plain words: what a write makes of the bytes and of the dirty pages. -/
namespace Go.Proofs.YtbnobjlphmkgeaaGreatDoor
open Go.RowKit Go.Maps Go.ChangeMaps

end Go.Proofs.YtbnobjlphmkgeaaGreatDoor
/- Package view: Write where it changes nothing. -/
namespace Go.Proofs.YtbnobjlphmkgeaaGreatDoor
open Go.RowKit Go.Maps Go.ChangeMaps

section
variable {w : World} {G : Nat → Prop} {v p cnt : Nat} {K N : Bytes} {f : Nat → Option Value}
end
end Go.Proofs.YtbnobjlphmkgeaaGreatDoor
/- Plain facts on changes of bytes. No program in sight. -/
namespace Go.Proofs.YtbnobjlphmkgeaaGreatDoor

end Go.Proofs.YtbnobjlphmkgeaaGreatDoor
/- The region of diff.Diff that appends a change: in whatever order. -/
namespace Go.Proofs.YtbnobjlphmkgeaaGreatDoor
open Go.RowKit

theorem Row.grown {w w' : World} {e g cap : Nat} {l : Bytes} {r : Option Nat} (h : Row w e g cap l) (hg : w.grownBy w' r) (hr : r ≠ some g) : Row w' e g cap l := by
  obtain ⟨cur, h0, h1⟩ := h
  exact ⟨cur, (hg.block g (Array.getElem?_eq_some_iff.1 h0).1 (fun e => hr e.symm)).trans h0, h1⟩
end Go.Proofs.YtbnobjlphmkgeaaGreatDoor
/- The contract of diff.Diff. -/
namespace Go.Proofs.YtbnobjlphmkgeaaGreatDoor
open Go.RowKit

end Go.Proofs.YtbnobjlphmkgeaaGreatDoor
/- Plain facts on where changes lie. No program in sight. -/
namespace Go.Proofs.YtbnobjlphmkgeaaGreatDoor

/-- what was put at a place changes no byte but there -/
theorem splice_same (l x : Bytes) (o p : Nat) (h : o + x.length ≤ l.length) (hp : p < o ∨ o + x.length ≤ p) : l[p]? = (splice l o x)[p]? := by
  unfold splice
  have hl : (l.take o).length = o := by simp; omega
  rcases hp with hp | hp
  · rw [List.getElem?_append_left (by omega), List.getElem?_take, if_pos hp]
  · rw [List.getElem?_append_right (by omega), hl, List.getElem?_append_right (by omega), List.getElem?_drop]
    congr 1; omega
theorem splice_get (l x : Bytes) (o q : Nat) (h : o + x.length ≤ l.length) (hq : q < x.length) : (splice l o x)[o + q]? = x[q]? := by
  unfold splice
  have hl : (l.take o).length = o := by simp; omega
  rw [List.getElem?_append_right (by omega), hl, List.getElem?_append_left (by omega)]
  congr 1; omega
end Go.Proofs.YtbnobjlphmkgeaaGreatDoor
/- Reading what diff.Diff gave. -/
namespace Go.Proofs.YtbnobjlphmkgeaaGreatDoor
open Go.RowKit

end Go.Proofs.YtbnobjlphmkgeaaGreatDoor
/- Plain facts on applying changes, and turning them. No program in sight. -/
namespace Go.Proofs.YtbnobjlphmkgeaaGreatDoor

end Go.Proofs.YtbnobjlphmkgeaaGreatDoor
/- The contract of diff.Apply. -/
namespace Go.Proofs.YtbnobjlphmkgeaaGreatDoor
open Go.RowKit

end Go.Proofs.YtbnobjlphmkgeaaGreatDoor
/- The contract of diff.Pages. -/
namespace Go.Proofs.YtbnobjlphmkgeaaGreatDoor
open Go.RowKit Go.Maps Go.ChangeMaps

/-- a set of numbers, as a map has it -/
def setF (S : Nat → Bool) (q : Nat) : Option Value := if S q = true then some (.bool true) else none
theorem IM.size_le {P : Program} {K : TypeId} {w : World} {b cnt : Nat} {f : Nat → Option Value} (h : IM P K natL w b f cnt) (hK : P.underlying K = some (.int .i64)) (n : Nat) (hn : ∀ k, (f k).isSome = true → k < n) : cnt ≤ n := by
  obtain ⟨D, hown, hs, hnd, h1, _⟩ := h.keys hK
  have hl : (intKeys D).length = cnt := by
    obtain ⟨L, hD, _⟩ := hown.entries (Go.Maps.int_keyed hK)
    subst hD
    rw [← hs]; simp [intKeys, Maps.size]
  have hm : ((intKeys D).map Int.toNat).Nodup := by
    refine List.pairwise_map.2 (hnd.imp_of_mem fun {a b} ha hb hne e => hne ?_)
    obtain ⟨x, rfl, _⟩ := h1 a ha
    obtain ⟨y, rfl, _⟩ := h1 b hb
    simp only [Int.toNat_natCast] at e
    rw [e]
  have := nodup_le n ((intKeys D).map Int.toNat) hm (fun x hx => by
    obtain ⟨y, hy, rfl⟩ := List.mem_map.1 hx
    obtain ⟨z, rfl, hz⟩ := h1 y hy
    exact hn z hz)
  rw [List.length_map, hl] at this
  exact this
end Go.Proofs.YtbnobjlphmkgeaaGreatDoor
/- Contracts of package image: the small ones, and New. -/
namespace Go.Proofs.YtbnobjlphmkgeaaGreatDoor
open Go.RowKit

def rightB (n : Int) : Bool := decide (288 ≤ n) && decide (n ≤ 6400)
theorem rightB_true {n : Int} : rightB n = true ↔ 288 ≤ n ∧ n ≤ 6400 := by simp [rightB]
theorem right_any (n : Int) (w : World) : Calls Tryz.prog 99 #[.int .i64 n] w fun e w' => e = .returned (.bool (rightB n)) ∧ w = w' := by
  by_cases h1 : 288 ≤ n
  · go_enter Tryz.func99, Tryz.ntmps99
    go_wp2
    go_ret
    exact ⟨ret_bool (by simp [rightB]; intros; omega), rfl⟩
  · go_enter Tryz.func99, Tryz.ntmps99
    go_wp2
    go_ret
    exact ⟨ret_bool (by symm; simp [rightB]; omega), rfl⟩
def handleB (n : Int) : Bool := decide (1 ≤ n) && decide (n ≤ 40)
theorem handleB_true {n : Int} : handleB n = true ↔ 1 ≤ n ∧ n ≤ 40 := by simp [handleB]
theorem handle_any (n : Int) (w : World) : Calls Tryz.prog 180 #[.int .i64 n] w fun e w' => e = .returned (.bool (handleB n)) ∧ w = w' := by
  by_cases h1 : 1 ≤ n
  · go_enter Tryz.func180, Tryz.ntmps180
    go_wp2
    go_ret
    exact ⟨ret_bool (by simp [handleB]; intros; omega), rfl⟩
  · go_enter Tryz.func180, Tryz.ntmps180
    go_wp2
    go_ret
    exact ⟨ret_bool (by symm; simp [handleB]; omega), rfl⟩
def tagB (n : Int) : Bool := decide (0 ≤ n) && decide (n ≤ 15)
theorem tagB_true {n : Int} : tagB n = true ↔ 0 ≤ n ∧ n ≤ 15 := by simp [tagB]
theorem tag_any (n : Int) (w : World) : Calls Tryz.prog 65 #[.int .i64 n] w fun e w' => e = .returned (.bool (tagB n)) ∧ w = w' := by
  by_cases h1 : 0 ≤ n
  · go_enter Tryz.func65, Tryz.ntmps65
    go_wp2
    go_ret
    exact ⟨ret_bool (by simp [tagB]; intros; omega), rfl⟩
  · go_enter Tryz.func65, Tryz.ntmps65
    go_wp2
    go_ret
    exact ⟨ret_bool (by symm; simp [tagB]; omega), rfl⟩
def lenB (n : Int) : Bool := decide (1 ≤ n) && decide (n ≤ 1000)
theorem lenB_true {n : Int} : lenB n = true ↔ 1 ≤ n ∧ n ≤ 1000 := by simp [lenB]
theorem len_any (n : Int) (w : World) : Calls Tryz.prog 64 #[.int .i64 n] w fun e w' => e = .returned (.bool (lenB n)) ∧ w = w' := by
  by_cases h1 : 1 ≤ n
  · go_enter Tryz.func64, Tryz.ntmps64
    go_wp2
    go_ret
    exact ⟨ret_bool (by simp [lenB]; intros; omega), rfl⟩
  · go_enter Tryz.func64, Tryz.ntmps64
    go_wp2
    go_ret
    exact ⟨ret_bool (by symm; simp [lenB]; omega), rfl⟩
def withinB (n at_ len : Int) : Bool := decide (288 ≤ at_) && decide (len ≤ n) && decide (at_ ≤ n - len)
theorem withinB_true {n a l : Int} : withinB n a l = true ↔ 288 ≤ a ∧ l ≤ n ∧ a ≤ n - l := by simp [withinB, and_assoc]
theorem within_any (n at_ len : Int) (w : World) (hn0 : 0 ≤ n) (hn : n ≤ 1000000) (hl : 0 ≤ len) (hl2 : len ≤ 1000000) :
    Calls Tryz.prog 173 #[.int .i64 n, .agg #[.int .i64 at_, .int .i64 len]] w fun e w' => e = .returned (.bool (withinB n at_ len)) ∧ Below w.heap.size w w' := by
  have hB : ∀ o, Below w.heap.size w (w.alloc o) := fun o => (Below.refl _ _).alloc (Nat.le_refl _) o
  by_cases h1 : 288 ≤ at_
  · by_cases h2 : len ≤ n
    · go_enter Tryz.func173, Tryz.ntmps173
      go_wp2
      go_ret
      exact ⟨ret_bool (by rw [Bool.eq_iff_iff]; simp [withinB]; omega), hB _⟩
    · go_enter Tryz.func173, Tryz.ntmps173
      go_wp2
      go_ret
      exact ⟨ret_bool (by rw [Bool.eq_iff_iff]; simp [withinB]; omega), hB _⟩
  · go_enter Tryz.func173, Tryz.ntmps173
    go_wp2
    go_ret
    exact ⟨ret_bool (by rw [Bool.eq_iff_iff]; simp [withinB]; omega), hB _⟩

theorem check_e1 (A : Option Addr) (n c : Nat) (h : Int) (w : World) (hr : rightB n = true) (hh : handleB h = false) :
    Calls Tryz.prog 144 #[.slice A n c, .int .i64 h] w fun e w' => e = .returned (.iface 111 (.int .i64 1)) ∧ w = w' := by
  go_enter Tryz.func144, Tryz.ntmps144
  go_wp2_with fail
  refine (right_any _ _).mono ?_
  rintro e w' ⟨rfl, rfl⟩
  rw [hr]
  go_wp2_with fail
  refine (handle_any _ _).mono ?_
  rintro e w' ⟨rfl, rfl⟩
  rw [hh]
  go_wp2
  go_ret
  exact ⟨rfl, rfl⟩
theorem check_ok (A : Option Addr) (n c : Nat) (h : Int) (w : World) (hr : rightB n = true) (hh : handleB h = true) :
    Calls Tryz.prog 144 #[.slice A n c, .int .i64 h] w fun e w' => e = .returned .nilIface ∧ w = w' := by
  go_enter Tryz.func144, Tryz.ntmps144
  go_wp2_with fail
  refine (right_any _ _).mono ?_
  rintro e w' ⟨rfl, rfl⟩
  rw [hr]
  go_wp2_with fail
  refine (handle_any _ _).mono ?_
  rintro e w' ⟨rfl, rfl⟩
  rw [hh]
  go_wp2
  go_ret
  exact ⟨rfl, rfl⟩

end Go.Proofs.YtbnobjlphmkgeaaGreatDoor
/- The contract of image.Put. -/
namespace Go.Proofs.YtbnobjlphmkgeaaGreatDoor
open Go.RowKit

theorem splice_join (l x y : Bytes) (o : Nat) (h : o + x.length + y.length ≤ l.length) : splice (splice l o x) (o + x.length) y = splice l o (x ++ y) := by
  unfold splice
  have h1 : (l.take o).length = o := by simp; omega
  rw [List.take_append, h1, List.take_of_length_le (by omega), List.take_append, show o + x.length - o = x.length from by omega, List.take_of_length_le (Nat.le_refl _), Nat.sub_self, List.take_zero, List.append_nil]
  rw [List.drop_append, h1, List.drop_of_length_le (by omega), List.nil_append, List.drop_append, List.drop_of_length_le (by omega), List.nil_append, List.drop_drop]
  simp only [List.append_assoc, List.length_append]
  congr 4
  omega
/-- the five bytes of an entry -/
def entB (at_ len tag : Nat) : Bytes := UInt8.ofNat (tag + 1) :: (numB at_ 2 ++ numB len 2)
theorem entB_len (at_ len tag : Nat) : (entB at_ len tag).length = 5 := by simp [entB, numB_length]
def entO (h : Int) : Nat := (5 * (h - 1)).toNat

theorem raw_any (A : Option Addr) (n c : Nat) (h : Int) (w : World) (h1 : 1 ≤ h) (h2 : h ≤ 40) (hn : 200 ≤ n) (hc : n ≤ c) :
    Calls Tryz.prog 148 #[.slice A n c, .int .i64 h] w fun e w' => e = .returned (.slice (A.map (·.add (entO h))) 5 (c - entO h)) ∧ w = w' := by
  obtain ⟨k, rfl⟩ : ∃ k : Nat, h = (k : Int) + 1 := ⟨(h - 1).toNat, by omega⟩
  have he : Hidden (entO ((k : Int) + 1) = 5 * k) := ⟨by unfold entO; omega⟩
  have hk : k < 40 := by omega
  go_enter Tryz.func148, Tryz.ntmps148
  go_wp2
  go_ret
  rw [he.out]
  refine ⟨?_, rfl⟩
  show Ending.returned (.slice (A.map (·.add (k * 5))) ((k + 1) * 5 - k * 5) (c - k * 5)) = _
  rw [Nat.mul_comm k 5, show (k + 1) * 5 - 5 * k = 5 from by omega]

/-- an entry as a value -/
abbrev entV (h at_ len tag : Int) : Value := .agg #[.int .i64 h, .int .i64 at_, .int .i64 len, .int .i64 tag]
/-- a block of an entry's four cells -/
structure EntAt (w : World) (p : Nat) (h at_ len tag : Int) : Prop where
  c0 : w.cell? ⟨p, 0, none⟩ = some (.int .i64 h)
  c1 : w.cell? ⟨p, 1, none⟩ = some (.int .i64 at_)
  c2 : w.cell? ⟨p, 2, none⟩ = some (.int .i64 len)
  c3 : w.cell? ⟨p, 3, none⟩ = some (.int .i64 tag)
theorem EntAt.new (w : World) (h at_ len tag : Int) (t : TypeId) : EntAt (w.alloc (.cells #[.int .i64 h, .int .i64 at_, .int .i64 len, .int .i64 tag] t)) w.heap.size h at_ len tag :=
  ⟨World.cell?_alloc_mark w _ t (0, 0) 0, World.cell?_alloc_mark w _ t (0, 0) 1, World.cell?_alloc_mark w _ t (0, 0) 2, World.cell?_alloc_mark w _ t (0, 0) 3⟩
theorem EntAt.keep {w w' : World} {p : Nat} {h at_ len tag : Int} (e : EntAt w p h at_ len tag) (hk : w'.heap[p]? = w.heap[p]?) : EntAt w' p h at_ len tag :=
  ⟨(World.cell?_of_block (w := w) hk).trans e.c0, (World.cell?_of_block (w := w) hk).trans e.c1, (World.cell?_of_block (w := w) hk).trans e.c2, (World.cell?_of_block (w := w) hk).trans e.c3⟩

/-- an image with an entry -/
def putEnt (l : Bytes) (h at_ len tag : Int) : Bytes := splice l (entO h) (entB at_.toNat len.toNat tag.toNat)
theorem putEnt_len (l : Bytes) (h at_ len tag : Int) (h1 : 1 ≤ h) (h2 : h ≤ 40) (hl : 200 ≤ l.length) : (putEnt l h at_ len tag).length = l.length := by
  unfold putEnt; refine splice_len _ _ _ ?_; rw [entB_len]; unfold entO; omega

set_option maxRecDepth 100000 in
set_option maxHeartbeats 1000000 in
theorem iput_ok (A : Option Addr) (n c : Nat) (l : Bytes) (h at_ len tag : Int) (w : World) (hn : l.length = n) (_hnc : n ≤ c) (hrd : Rd w A l) (hr : rightB n = true) (hx : handleB h = true) (hy : tagB tag = true) (hz : lenB len = true) (hw : withinB n at_ len = true) :
    Calls Tryz.prog 126 #[.slice A n c, entV h at_ len tag] w fun e w' => ∃ g cap, e = .returned (.tuple #[.slice (some ⟨g, 0, none⟩) n cap, .nilIface]) ∧ w.heap.size ≤ g ∧ Row w' 5 g cap (putEnt l h at_ len tag) ∧ Below w.heap.size w w' := by
  have hrb := rightB_true.1 hr
  have hlb := lenB_true.1 hz
  have hhb := handleB_true.1 hx
  have htb := tagB_true.1 hy
  have hwb := withinB_true.1 hw
  obtain ⟨a, rfl⟩ := Int.eq_ofNat_of_zero_le (show 0 ≤ at_ by omega)
  obtain ⟨m, rfl⟩ := Int.eq_ofNat_of_zero_le (show 0 ≤ len by omega)
  obtain ⟨t, rfl⟩ := Int.eq_ofNat_of_zero_le htb.1
  have heo : entO h + 5 ≤ 200 := by unfold entO; omega
  have hB0 : Below w.heap.size w (w.alloc (.cells #[.int .i64 h, .int .i64 a, .int .i64 m, .int .i64 t] 66)) := (Below.refl _ _).alloc (Nat.le_refl _) _
  have he0 := EntAt.new w h a m t 66
  obtain ⟨p0, off0, rfl, hlt0⟩ := hrd.lt (by omega)
  go_enter Tryz.func126, Tryz.ntmps126
  go_wp2_with fail
  refine (check_ok _ _ _ _ _ hr hx).mono ?_
  rintro e w' ⟨rfl, rfl⟩
  go_wp2_with fail
  refine (tag_any _ _).mono ?_
  rintro e w' ⟨rfl, rfl⟩
  rw [hy]
  go_wp2_with fail
  refine (len_any _ _).mono ?_
  rintro e w' ⟨rfl, rfl⟩
  rw [hz]
  go_wp2_with fail
  refine (within_any _ _ _ _ (by omega) (by omega) (by omega) (by omega)).mono ?_
  rintro e w1 ⟨rfl, hb1⟩
  rw [hw]
  have hB1 : Below w.heap.size w w1 := hB0.trans (hb1.mono hB0.size)
  have he1 := he0.keep (hb1.block w.heap.size (by simp))
  clear he0 hb1 hB0
  go_wp2_with fail
  refine (clone_some _ _ _ l _ hn (by omega) (hrd.below hB1)).mono ?_
  rintro e w2 ⟨g, cap, rfl, hg, hrow, hb2⟩
  have hB2 : Below w.heap.size w w2 := hB1.trans (hb2.mono hB1.size)
  have hlt1 : w.heap.size < w1.heap.size := block_lt_of_cell he1.c0
  have he2 := he1.keep (hb2.block w.heap.size hlt1)
  have hgw : w.heap.size ≤ g := Nat.le_trans hB1.size hg
  have hgne : w.heap.size ≠ g := by omega
  have hlc := hrow.le
  have hc0 := he2.c0
  clear he1 hb2 hB1
  go_wp2_with fail
  refine (raw_any (some ⟨g, 0, none⟩) n cap h _ hhb.1 hhb.2 (by omega) (by omega)).mono ?_
  rintro e w3 ⟨rfl, rfl⟩
  simp only [Option.map_some, Addr.add_lit, Nat.zero_add]
  have hrow' := hrow
  obtain ⟨cur, hcur, hcl, hcm, hcs, hct⟩ := hrow'
  generalize ho : entO h = o at *
  have HO := Hidden.mk ho
  clear ho
  have hcell : w2.cell? ⟨g, o, none⟩ = some (cur[o]'(by omega)) := by
    rw [cell_of_row w2 g _ _ _ _ hcur]; exact Array.getElem?_eq_getElem (by omega)
  have hfr : w2.frozen? ⟨g, o, none⟩ = false := frozen_of_row w2 g _ _ _ hcur
  generalize cur[o]'(by omega) = u0 at hcell
  have hc3 := he2.c3
  have hst : w2.setCell ⟨g, o, none⟩ (.int .u8 ((t : Int) + 1)) = w2.setRow g (setB cur o ([UInt8.ofNat (t + 1)].map bv)) := by
    rw [setCell_eq_setRow w2 g _ _ _ _ _ hcur]
    have := setB_snoc cur o [] (bv (UInt8.ofNat (t + 1))) (by simp; omega)
    rw [setB_nil] at this
    simp only [List.length_nil, Nat.add_zero, List.nil_append] at this
    rw [List.map_cons, List.map_nil, ← this]
    congr 2
    simp only [bv, UInt8.toNat_ofNat']
    congr 1
    omega
  have he3 : EntAt (w2.setCell ⟨g, o, none⟩ (.int .u8 ((t : Int) + 1))) w.heap.size h a m t := by rw [hst]; exact he2.keep (setRow_other w2 g _ _ hgne)
  have hB3 : Below w.heap.size w (w2.setCell ⟨g, o, none⟩ (.int .u8 ((t : Int) + 1))) := hB2.setCell hgw _
  have hrow3 : Row (w2.setCell ⟨g, o, none⟩ (.int .u8 ((t : Int) + 1))) 5 g cap (splice l o [UInt8.ofNat (t + 1)]) := by rw [hst]; exact hrow.set_ o _ (by simp; omega) cur hcur
  have hw3 : ∃ w3, w2.setCell ⟨g, o, none⟩ (.int .u8 ((t : Int) + 1)) = w3 := ⟨_, rfl⟩
  have hc1 := he3.c1
  clear hst
  go_wp2_with fail
  generalize w2.setCell ⟨g, o, none⟩ (.int .u8 ((t : Int) + 1)) = w3 at *
  clear hcell hfr hcur hcs hct hcl hcm hrow hB2 he2 hc0 hc1 hc3 hw3
  obtain ⟨cur3, hcur3, _, hcm3, hcs3, _⟩ := id hrow3
  refine (set_any g o 5 (cap - o) 5 cur3 1 a 2 _ hcur3 (by omega) (by omega) (by simp [maxLen]) (by omega)).mono ?_
  rintro e w4 ⟨rfl, hw4⟩
  have hl3 : (splice l o [UInt8.ofNat (t + 1)]).length = l.length := splice_len _ _ _ (by simp; omega)
  have hrow4 := hrow3.set_ (o + 1) (numB a 2) (by rw [hl3, numB_length]; omega) cur3 hcur3
  rw [← hw4] at hrow4
  have he4 : EntAt w4 w.heap.size h a m t := by rw [hw4]; exact he3.keep (setRow_other w3 g _ _ hgne)
  have hB4 : Below w.heap.size w w4 := by rw [hw4]; exact below_setRow hB3 hgw _
  have hc2 := he4.c2
  clear hw4 hcur3 hcm3 hcs3 he3 hB3 hrow3
  go_wp2_with fail
  clear hc2
  obtain ⟨cur4, hcur4, _, hcm4, hcs4, _⟩ := id hrow4
  refine (set_any g o 5 (cap - o) 5 cur4 3 m 2 _ hcur4 (by omega) (by omega) (by simp [maxLen]) (by omega)).mono ?_
  rintro e w5 ⟨rfl, rfl⟩
  have hl4 : (splice (splice l o [UInt8.ofNat (t + 1)]) (o + 1) (numB a 2)).length = l.length := by rw [splice_len _ _ _ (by rw [hl3, numB_length]; omega), hl3]
  have hrow5 := hrow4.set_ (o + 3) (numB m 2) (by rw [hl4, numB_length]; omega) cur4 hcur4
  have hB5 : Below w.heap.size w (w4.setRow g (setB cur4 (o + 3) ((numB m 2).map bv))) := below_setRow hB4 hgw _
  generalize w4.setRow g (setB cur4 (o + 3) ((numB m 2).map bv)) = w5 at *
  clear hcur4 hcs4
  go_wp2_with fail
  go_ret2
  refine ⟨g, cap, rfl, hgw, ?_, hB5⟩
  have e1 := splice_join l [UInt8.ofNat (t + 1)] (numB a 2) o (by simp [numB_length]; omega)
  have e2 := splice_join l ([UInt8.ofNat (t + 1)] ++ numB a 2) (numB m 2) o (by simp [numB_length]; omega)
  simp only [List.length_append, List.length_cons, List.length_nil, numB_length] at e1 e2
  have : putEnt l h a m t = splice l o (([UInt8.ofNat (t + 1)] ++ numB a 2) ++ numB m 2) := by
    unfold putEnt; rw [HO.out]; rfl
  rw [this, ← e2, ← e1]
  exact hrow5

end Go.Proofs.YtbnobjlphmkgeaaGreatDoor
