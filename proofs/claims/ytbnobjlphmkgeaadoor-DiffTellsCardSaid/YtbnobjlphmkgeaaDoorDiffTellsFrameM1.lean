/- Contracts and plain laws, put together: Base, DiffP, DiffQ, DiffA, RefDP, DiffTP, Num1, Num2, Num3, Mem, App, MapI, Keep, Dev0, Dev1, Dev2, Dev3, Dev4, Dev5, Dev6, Dev7, Open, Open2, Dev8, RowSet, Num4, Str1, Str2, Str3, Stamp1, Stamp2, RefS, NumLow1, NumBack1, StampRow1, PagesP, DevA, Diff0, Diff1, Diff2, DiffA1, DiffAn, RefM, RefAp1, RefDf0, RefDf1, LayK, Keys1, Diff3, ErrI, Img1, Img2, Img3, CheckP, Img4, Heap1, Chk1, Chk2, Chk3, Chk4, Chk5, Chk6, Img5, Img6, GoodP, Chk7, Rows2, Ext1, SortP, LayX, Ext2, Ext3, Heap2, Heap3, Heap4, Heap5, Ext4. -/
import Derived.WalkKit
import Derived.WalkSpells
import Derived.Deep.QuietTactic
import Derived.BigQuiet
import Derived.Deep.Draws
import Derived.Laws.CopyOwn
import Derived.Test.YtbnobjlphmkgeaaDoorChecked
import Derived.Laws.MakeOwn
import Derived.Maps.AppendAt
import Derived.Deep.AppendLies
import Derived.OwnWalk
import Derived.Maps.Own
import Derived.Maps.OwnSet
import Derived.Maps.RangeWalk
import Derived.Deep.RegionHeld3
import Derived.Deep.LoopGhost
import Derived.Deep.RegionLaw
import Derived.ProofKit
import Derived.OpenShut
import Derived.ShutString
import Derived.ChangeOld
import Derived.SizedLaws
import Derived.Lib.SmallJoins
import Derived.Deep.Slices
import Derived.Deep.Fields
import Derived.Lib.ConvBytes
import Derived.StillTailTactics
import Derived.Deep.DeepCutAuto
import Derived.Deep.CutBlock
import Derived.Laws.OwnMore
import Derived.Shelf.SlGeneric
import Derived.Shelf.SlIterI.Nil
import Derived.Shelf.SortM.Plain
import Derived.Shelf.SortM.SortNone
import Derived.Ground.GgzProg
import Derived.Ground.SlgmProg
import Derived.Shelf.SlSortCmp.WholeK
import Derived.Ground.SlsfProg
import Derived.Shelf.SlSortCmp.NoneTotal
/- Words for memory that the other texts use: slices of bytes as lists; no program in sight. -/
namespace Go.Proofs.YtbnobjlphmkgeaaDoor
open Go.RowKit

/-- a fact that the walk does not see -/
structure Hidden (p : Prop) : Prop where
  out : p
abbrev Bytes := List UInt8
/-- a byte as a cell -/
abbrev bv (c : UInt8) : Value := .int .u8 (c.toNat : Int)

/-- a text as a value -/
abbrev sv (l : Bytes) : Value := .string ⟨l.toArray⟩

/-- the slice that begins at A reads as the bytes l -/
def Rd (w : World) (A : Option Addr) (l : Bytes) : Prop :=
  ∀ j (h : j < l.length), ∃ b off, A = some ⟨b, off, none⟩ ∧ w.cell? ⟨b, off + j, none⟩ = some (bv l[j])

section
variable {w w' : World} {A : Option Addr} {l : Bytes}
theorem Rd.nil_ : Rd w A [] := fun j h => absurd h (by simp)
theorem Rd.below (h : Rd w A l) (hb : Below w.heap.size w w') : Rd w' A l := fun j hj => by
  obtain ⟨b, off, hA, hc⟩ := h j hj
  exact ⟨b, off, hA, (hb.cell (block_lt_of_cell hc)).trans hc⟩
theorem Rd.drewN (h : Rd w A l) (n : Nat) : Rd (w.drewN n) A l := h
theorem Rd.lt (h : Rd w A l) (hl : 0 < l.length) : ∃ b off, A = some ⟨b, off, none⟩ ∧ b < w.heap.size := by
  obtain ⟨b, off, hA, hc⟩ := h 0 hl
  exact ⟨b, off, hA, block_lt_of_cell hc⟩
theorem Rd.cut (h : Rd w A l) (a s : Nat) (hs : a + s ≤ l.length) : Rd w (A.map (·.add a)) ((l.drop a).take s) := fun j hj => by
  have hj' : j < s := by simp at hj; omega
  obtain ⟨b, off, rfl, hc⟩ := h (a + j) (by omega)
  refine ⟨b, off + a, by simp [Addr.add_lit], ?_⟩
  rw [Nat.add_assoc, hc]
  simp
theorem Rd.cutIf (h : Rd w A l) (a s c : Nat) (hs : a + s ≤ l.length) (hc : l.length ≤ c) : Rd w (if c = a then A else A.map (·.add a)) ((l.drop a).take s) := by
  by_cases hca : c = a
  · have : s = 0 := by omega
    subst this
    simpa using Rd.nil_
  · rw [if_neg hca]; exact h.cut a s hs
theorem Rd.take (h : Rd w A l) (s : Nat) (hs : s ≤ l.length) : Rd w A (l.take s) := fun j hj => by
  obtain ⟨b, off, rfl, hc⟩ := h j (by simp at hj; omega)
  refine ⟨b, off, rfl, ?_⟩
  rw [hc]; simp
theorem Rd.at_ {b off : Nat} (h : Rd w (some ⟨b, off, none⟩) l) (j : Nat) (hj : j < l.length) : w.cell? ⟨b, off + j, none⟩ = some (bv l[j]) := by
  obtain ⟨b', off', hA, hc⟩ := h j hj
  injection hA with hA
  injection hA with h1 h2
  subst h1 h2
  exact hc
theorem Rd.cells {ad : Addr} (h : Rd w (some ad) l) (j : Nat) (u : Value) (hu : (l.map bv)[j]? = some u) : w.cell? (ad.add j) = some u := by
  have hj : j < l.length := by
    have := (List.getElem?_eq_some_iff.1 hu).1
    simpa using this
  obtain ⟨b, off, hA, hc⟩ := h j hj
  injection hA with hA
  subst hA
  rw [Addr.add_lit, hc, ← hu]
  simp [hj]
end
theorem one_bv {l : Bytes} : ∀ u ∈ l.map bv, u.oneCell' = true := by
  intro u hu
  obtain ⟨c, _, rfl⟩ := List.mem_map.1 hu
  rfl

/-- the slice v is the call's own (blocks from base on), and reads as l; e: the number of the type byte -/
def Own (w : World) (base e : Nat) (v : Value) (l : Bytes) : Prop := w.ownsRow base e 1 v l.length (l.map bv)

theorem Own.slice {w : World} {base e : Nat} {v : Value} {l : Bytes} (h : Own w base e v l) : ∃ A c, v = .slice A l.length c ∧ l.length ≤ c ∧ c ≤ maxLen ∧ Rd w A l := by
  rcases h.2 with ⟨rfl, h0⟩ | ⟨g, cap, cur, rfl, _, hh, hc, hm, hz, ht⟩
  · rw [h0]
    have : l = [] := List.eq_nil_of_length_eq_zero h0
    subst this
    exact ⟨none, 0, rfl, by simp, by simp, Rd.nil_⟩
  · refine ⟨_, cap, rfl, hc, hm, fun j hj => ⟨g, 0, rfl, ?_⟩⟩
    rw [Nat.zero_add, cell_of_row w g j cur e (0, 0) hh]
    have h1 : (l.map bv)[j]? = some (bv l[j]) := by simp [hj]
    rw [← ht, List.getElem?_take, if_pos (by omega)] at h1
    simpa using h1
theorem below_drewN {B : Nat} {a w : World} (h : Below B a w) (n : Nat) : Below B a (w.drewN n) := ⟨h.os, h.tape, h.output, h.size, h.block⟩
theorem grown_below {a w : World} (h : Below a.heap.size a w) (row : Option Nat) : a.grownBy w row := ⟨h.os, h.tape, h.output, h.size, fun i hi _ => h.block i hi⟩
theorem own_below {w w' : World} {base : Nat} {e : TypeId} {size : Nat} {v : Value} {n : Nat} {xs : List Value} (h : w.ownsRow base e size v n xs) (hb : Below w.heap.size w w') : w'.ownsRow base e size v n xs :=
  h.kept (grown_below hb none) (by cases hv : v.ownBlock <;> simp)
theorem grown_trans' {a b c : World} {row : Option Nat} (h : Below a.heap.size a b) (k : b.grownBy c row) : a.grownBy c row :=
  ⟨k.os.trans h.os, k.tape.trans h.tape, k.output.trans h.output, Nat.le_trans h.size k.size, fun i hi hne => (k.block i (Nat.lt_of_lt_of_le hi h.size) hne).trans (h.block i hi)⟩
end Go.Proofs.YtbnobjlphmkgeaaDoor
/- Plain facts on changes of bytes. No program in sight. -/
namespace Go.Proofs.YtbnobjlphmkgeaaDoor

/-- a change: where, what stood there, what stands there then -/
structure Chg where
  at_ : Int
  old : Bytes
  new : Bytes

/-- how far two lists differ, from the first place on -/
def diffRun : Bytes → Bytes → Nat
  | x :: a, y :: b => if x = y then 0 else diffRun a b + 1
  | _, _ => 0
theorem diffRun_le (a b : Bytes) : diffRun a b ≤ a.length ∧ diffRun a b ≤ b.length := by
  induction a generalizing b with
  | nil => simp [diffRun]
  | cons x a ih =>
    cases b with
    | nil => simp [diffRun]
    | cons y b =>
      simp only [diffRun]
      have := ih b
      split <;> simp <;> omega
theorem diffRun_at (k : Nat) : ∀ (a b : Bytes), (∀ j, j < k → a[j]? ≠ b[j]?) → k ≤ a.length → k ≤ b.length → (k = a.length ∨ k = b.length ∨ a[k]? = b[k]?) → diffRun a b = k := by
  induction k with
  | zero =>
    intro a b _ _ _ h
    cases a with
    | nil => simp [diffRun]
    | cons x a =>
      cases b with
      | nil => simp [diffRun]
      | cons y b => simp at h; simp [diffRun, h]
  | succ k ih =>
    intro a b hne ha hb h
    cases a with
    | nil => simp at ha
    | cons x a =>
      cases b with
      | nil => simp at hb
      | cons y b =>
        have h0 := hne 0 (by omega)
        simp at h0
        have := ih a b (fun j hj => by have := hne (j + 1) (by omega); simpa using this) (by simpa using ha) (by simpa using hb) (by simpa using h)
        simp [diffRun, h0, this]
theorem diffRun_ne (a b : Bytes) (j : Nat) (h : j < diffRun a b) : a[j]? ≠ b[j]? := by
  induction a generalizing b j with
  | nil => simp [diffRun] at h
  | cons x a ih =>
    cases b with
    | nil => simp [diffRun] at h
    | cons y b =>
      simp only [diffRun] at h
      split at h
      · omega
      · rename_i hne
        cases j with
        | zero => simpa using hne
        | succ j => simpa using ih b j (by omega)
theorem diffRun_stop (a b : Bytes) (hl : a.length = b.length) (h : diffRun a b < a.length) : a[diffRun a b]? = b[diffRun a b]? := by
  induction a generalizing b with
  | nil => simp at h
  | cons x a ih =>
    cases b with
    | nil => simp at hl
    | cons y b =>
      simp only [diffRun] at h ⊢
      split
      · rename_i he; simp [he]
      · rename_i hne
        rw [if_neg hne] at h
        simpa using ih b (by simpa using hl) (by simpa using h)

/-- the run that begins at i -/
def runAt (a b : Bytes) (i : Nat) : Nat := diffRun (a.drop i) (b.drop i)
/-- the changes from i on; f: fuel -/
def diffF (a b : Bytes) : Nat → Nat → List Chg
  | 0, _ => []
  | f + 1, i =>
    if i < a.length then
      (if 0 < runAt a b i then [⟨i, (a.drop i).take (runAt a b i), (b.drop i).take (runAt a b i)⟩] else []) ++ diffF a b f (i + runAt a b i + 1)
    else []
theorem diffF_fuel (a b : Bytes) (f : Nat) : ∀ g i, a.length - i ≤ f → a.length - i ≤ g → diffF a b f i = diffF a b g i := by
  induction f with
  | zero =>
    intro g i hf hg
    cases g with
    | zero => rfl
    | succ g => simp only [diffF]; rw [if_neg (by omega)]
  | succ f ih =>
    intro g i hf hg
    cases g with
    | zero => simp only [diffF]; rw [if_neg (by omega)]
    | succ g =>
      simp only [diffF]
      split
      · rw [ih g _ (by omega) (by omega)]
      · rfl
/-- all changes -/
def diffL (a b : Bytes) : List Chg := diffF a b a.length 0
theorem diffF_step (a b : Bytes) (i : Nat) (h : i < a.length) : diffF a b (a.length - i) i =
    (if 0 < runAt a b i then [⟨i, (a.drop i).take (runAt a b i), (b.drop i).take (runAt a b i)⟩] else []) ++ diffF a b (a.length - (i + runAt a b i + 1)) (i + runAt a b i + 1) := by
  obtain ⟨f, hf⟩ : ∃ f, a.length - i = f + 1 := ⟨a.length - i - 1, by omega⟩
  rw [hf, diffF, if_pos h, diffF_fuel a b f (a.length - (i + runAt a b i + 1)) _ (by omega) (by omega)]
theorem runAt_le (a b : Bytes) (i : Nat) (hl : a.length = b.length) (hi : i ≤ a.length) : i + runAt a b i ≤ a.length := by
  have := (diffRun_le (a.drop i) (b.drop i)).1
  simp at this
  unfold runAt; omega
theorem runAt_ne (a b : Bytes) (i j : Nat) (h1 : i ≤ j) (h2 : j < i + runAt a b i) : a[j]? ≠ b[j]? := by
  have := diffRun_ne (a.drop i) (b.drop i) (j - i) (by unfold runAt at h2; omega)
  rw [List.getElem?_drop, List.getElem?_drop, show i + (j - i) = j from by omega] at this
  exact this
theorem runAt_stop (a b : Bytes) (i : Nat) (hl : a.length = b.length) (h : i + runAt a b i < a.length) : a[i + runAt a b i]? = b[i + runAt a b i]? := by
  have := diffRun_stop (a.drop i) (b.drop i) (by simp [hl]) (by unfold runAt at h; simp; omega)
  rw [List.getElem?_drop, List.getElem?_drop] at this
  exact this
/-- a walk that came to k has found the run -/
theorem runAt_at (a b : Bytes) (i k : Nat) (hl : a.length = b.length) (hik : i ≤ k) (hk : k ≤ a.length) (hne : ∀ j, i ≤ j → j < k → a[j]? ≠ b[j]?) (hstop : k = a.length ∨ a[k]? = b[k]?) : runAt a b i = k - i := by
  unfold runAt
  refine diffRun_at (k - i) _ _ (fun j hj => ?_) (by simp; omega) (by simp; omega) ?_
  · rw [List.getElem?_drop, List.getElem?_drop]; exact hne (i + j) (by omega) (by omega)
  · rcases hstop with h | h
    · left; simp; omega
    · right; right
      rw [List.getElem?_drop, List.getElem?_drop, show i + (k - i) = k from by omega]; exact h
end Go.Proofs.YtbnobjlphmkgeaaDoor
/- Plain facts on where changes lie. No program in sight. -/
namespace Go.Proofs.YtbnobjlphmkgeaaDoor

end Go.Proofs.YtbnobjlphmkgeaaDoor
/- Plain facts on applying changes, and turning them. No program in sight. -/
namespace Go.Proofs.YtbnobjlphmkgeaaDoor

/-- one change applied: a number of an error, or the bytes -/
def apply1 (b : Bytes) (c : Chg) : Except Int Bytes :=
  if c.at_ < 0 ∨ (b.length : Int) < c.at_ ∨ (b.length : Int) - c.at_ < c.old.length then .error 1
  else if c.old.length ≠ c.new.length then .error 3
  else if (b.drop c.at_.toNat).take c.old.length ≠ c.old then .error 6
  else .ok (splice b c.at_.toNat c.new)
/-- changes applied, one after the other -/
def applyL : Bytes → List Chg → Except Int Bytes
  | b, [] => .ok b
  | b, c :: L => match apply1 b c with
    | .error e => .error e
    | .ok b' => applyL b' L
end Go.Proofs.YtbnobjlphmkgeaaDoor
/- The reference's Diff, plainly: it tells the program's changes. No program in sight. -/
namespace Go.Proofs.YtbnobjlphmkgeaaDoor

/-- a place at which the two differ, behind changes -/
def addD (out : List Chg) (i : Nat) (x y : UInt8) : List Chg := match out.getLast? with
  | some h => if h.at_ + h.old.length = i then out.dropLast ++ [⟨h.at_, h.old ++ [x], h.new ++ [y]⟩] else out ++ [⟨i, [x], [y]⟩]
  | none => out ++ [⟨i, [x], [y]⟩]
def goD (a b : Bytes) (acc : List Chg) (i : Nat) : Nat → List Chg
  | 0 => acc
  | m + 1 => if a[i + m]? = b[i + m]? then goD a b acc i m else addD (goD a b acc i m) (i + m) (a.getD (i + m) 0) (b.getD (i + m) 0)
theorem goD_add (a b : Bytes) (acc : List Chg) (i m : Nat) : ∀ k, goD a b acc i (m + k) = goD a b (goD a b acc i m) (i + m) k
  | 0 => rfl
  | k + 1 => by
    rw [← Nat.add_assoc, goD, goD, goD_add a b acc i m k, Nat.add_assoc]
theorem goD_same (a b : Bytes) (acc : List Chg) (i : Nat) : ∀ m, (∀ j, j < m → a[i + j]? = b[i + j]?) → goD a b acc i m = acc
  | 0, _ => rfl
  | m + 1, h => by rw [goD, if_pos (h m (by omega)), goD_same a b acc i m (fun j hj => h j (by omega))]
/-- the last change ends ahead of i -/
def EndsD (acc : List Chg) (i : Nat) : Prop := ∀ h, acc.getLast? = some h → h.at_ + h.old.length < i
theorem drop_take_snoc (a : Bytes) (i m : Nat) (h : i + m < a.length) : (a.drop i).take (m + 1) = (a.drop i).take m ++ [a.getD (i + m) 0] := by
  have hl : m < (a.drop i).length := by simp; omega
  rw [List.take_succ_eq_append_getElem hl, List.getElem_drop, List.getD_eq_getElem?_getD, List.getElem?_eq_getElem h]
  rfl
theorem goD_ne (a b : Bytes) (acc : List Chg) (i : Nat) (he : EndsD acc i) : ∀ m, (∀ j, j < m + 1 → a[i + j]? ≠ b[i + j]?) → i + m < a.length → i + m < b.length → goD a b acc i (m + 1) = acc ++ [⟨i, (a.drop i).take (m + 1), (b.drop i).take (m + 1)⟩]
  | 0, h, ha, hb => by
    rw [goD, goD, if_neg (h 0 (by omega)), drop_take_snoc a i 0 ha, drop_take_snoc b i 0 hb]
    unfold addD
    cases hl : acc.getLast? with
    | none => simp
    | some x =>
      have := he x hl
      simp only
      rw [if_neg (by omega)]; simp
  | m + 1, h, ha, hb => by
    rw [goD, if_neg (h (m + 1) (by omega)), goD_ne a b acc i he m (fun j hj => h j (by omega)) (by omega) (by omega), drop_take_snoc a i (m + 1) ha, drop_take_snoc b i (m + 1) hb]
    unfold addD
    rw [List.getLast?_append]
    simp only [List.getLast?_singleton, Option.or]
    rw [if_pos (by simp; omega), List.dropLast_concat]
theorem goD_diff (a b : Bytes) (hl : a.length = b.length) : ∀ (f i : Nat) (acc : List Chg), a.length - i ≤ f → i ≤ a.length → EndsD acc i → goD a b acc i (a.length - i) = acc ++ diffF a b f i
  | 0, i, acc, hf, hi, _ => by
    rw [show a.length - i = 0 by omega]
    simp [goD, diffF]
  | f + 1, i, acc, hf, hi, he => by
    rw [diffF]
    by_cases h : i < a.length
    · rw [if_pos h]
      have hr := runAt_le a b i hl (by omega)
      have s1 : goD a b acc i (runAt a b i) = acc ++ (if 0 < runAt a b i then [⟨i, (a.drop i).take (runAt a b i), (b.drop i).take (runAt a b i)⟩] else []) := by
        by_cases h0 : 0 < runAt a b i
        · obtain ⟨m, hm⟩ : ∃ m, runAt a b i = m + 1 := ⟨runAt a b i - 1, by omega⟩
          have hne : ∀ j, j < m + 1 → a[i + j]? ≠ b[i + j]? := fun j hj => runAt_ne a b i (i + j) (by omega) (by omega)
          rw [if_pos h0, hm, goD_ne a b acc i he m hne (by omega) (by omega)]
        · rw [show runAt a b i = 0 by omega]; simp [goD]
      have hends : EndsD (acc ++ (if 0 < runAt a b i then [⟨i, (a.drop i).take (runAt a b i), (b.drop i).take (runAt a b i)⟩] else [])) (i + runAt a b i + 1) := by
        intro h hh
        by_cases h0 : 0 < runAt a b i
        · rw [if_pos h0, List.getLast?_append] at hh
          simp only [List.getLast?_singleton, Option.or, Option.some.injEq] at hh
          subst hh
          simp; omega
        · rw [if_neg h0, List.append_nil] at hh
          have := he h hh; omega
      by_cases hend : i + runAt a b i < a.length
      · rw [show a.length - i = runAt a b i + (1 + (a.length - (i + runAt a b i + 1))) by omega, goD_add, s1, goD_add, goD_same a b _ (i + runAt a b i) 1 (fun j hj => by
          rw [show j = 0 by omega, Nat.add_zero]; exact runAt_stop a b i hl hend)]
        rw [goD_diff a b hl f (i + runAt a b i + 1) _ (by omega) (by omega) hends, List.append_assoc]
      · have hd : diffF a b f (i + runAt a b i + 1) = [] := by
          cases f with
          | zero => rfl
          | succ f => rw [diffF, if_neg (by omega)]
        rw [show a.length - i = runAt a b i by omega, s1, hd, List.append_nil]
    · rw [if_neg h, show a.length - i = 0 by omega]
      simp [goD]
theorem goD_all (a b : Bytes) (hl : a.length = b.length) : goD a b [] 0 a.length = diffL a b := by
  have := goD_diff a b hl a.length 0 [] (by omega) (by omega) (fun h hh => by cases hh)
  rw [Nat.sub_zero, List.nil_append] at this
  exact this
end Go.Proofs.YtbnobjlphmkgeaaDoor
/- DiffTells: what changes make of bytes, in one form: the fault, and the bytes. No program in sight. -/
namespace Go.Proofs.YtbnobjlphmkgeaaDoor

/-- the fault of changes that are applied -/
def apN (b : Bytes) (L : List Chg) : Nat := if 200 < L.length then 4 else match applyL b L with
  | .error e => e.toNat
  | .ok _ => 0
/-- what is there then -/
def apB (b : Bytes) (L : List Chg) : Bytes := if 200 < L.length then [] else match applyL b L with
  | .error _ => []
  | .ok b' => b'
theorem apply1_err {b : Bytes} {c : Chg} {e : Int} (h : apply1 b c = .error e) : e = 1 ∨ e = 3 ∨ e = 6 := by
  unfold apply1 at h
  split at h
  · injection h with h; omega
  · split at h
    · injection h with h; omega
    · split at h
      · injection h with h; omega
      · cases h
theorem applyL_err : ∀ (L : List Chg) (b : Bytes) {e : Int}, applyL b L = .error e → e = 1 ∨ e = 3 ∨ e = 6
  | [], b, e, h => by cases h
  | c :: L, b, e, h => by
    rw [applyL] at h
    cases h1 : apply1 b c with
    | error x =>
      rw [h1] at h
      injection h with h
      subst h
      exact apply1_err h1
    | ok b' =>
      rw [h1] at h
      exact applyL_err L b' h
theorem ap_long {b : Bytes} {L : List Chg} (h : 200 < L.length) : apN b L = 4 ∧ apB b L = [] := by
  unfold apN apB; rw [if_pos h, if_pos h]; exact ⟨rfl, rfl⟩
theorem ap_bad {b : Bytes} {L : List Chg} {e : Int} (h : L.length ≤ 200) (he : applyL b L = .error e) : (apN b L : Int) = e ∧ apN b L ≠ 0 ∧ apB b L = [] := by
  have := applyL_err L b he
  unfold apN apB
  rw [if_neg (by omega), if_neg (by omega), he]
  dsimp only
  refine ⟨by omega, by omega, rfl⟩
theorem ap_ok {b b' : Bytes} {L : List Chg} (h : L.length ≤ 200) (he : applyL b L = .ok b') : apN b L = 0 ∧ apB b L = b' := by
  unfold apN apB
  rw [if_neg (by omega), if_neg (by omega), he]
  exact ⟨rfl, rfl⟩
/-- one more change is applied, or it is the fault -/
theorem applyL_step {b cur : Bytes} {L : List Chg} {k : Nat} (hk : k < L.length) (h : applyL cur (L.drop k) = applyL b L) : applyL b L = match apply1 cur L[k] with
    | .error e => .error e
    | .ok b' => applyL b' (L.drop (k + 1)) := by
  rw [← h, List.drop_eq_getElem_cons hk]; rfl
end Go.Proofs.YtbnobjlphmkgeaaDoor
/- The contracts of package num and of what it calls in package slices, over bytes. -/
namespace Go.Proofs.YtbnobjlphmkgeaaDoor
open Go.RowKit

end Go.Proofs.YtbnobjlphmkgeaaDoor
/- The contract of num.Set: it writes the bytes of a number into a block. -/
namespace Go.Proofs.YtbnobjlphmkgeaaDoor
open Go.RowKit

/-- a row in which other values stand from i on -/
def setB (cur : Array Value) (i : Nat) (l : List Value) : Array Value := (splice cur.toList i l).toArray
theorem setB_size (cur : Array Value) (i : Nat) (l : List Value) (h : i + l.length ≤ cur.size) : (setB cur i l).size = cur.size := by
  simp only [setB, List.size_toArray]; rw [length_splice _ _ _ (by simpa using h)]; simp
theorem setB_nil (cur : Array Value) (i : Nat) : setB cur i [] = cur := by simp [setB, splice]
theorem setB_at (cur : Array Value) (i : Nat) (l : List Value) (j : Nat) (h : i + l.length ≤ cur.size) :
    (setB cur i l)[j]? = if i ≤ j ∧ j < i + l.length then l[j - i]? else cur[j]? := by
  obtain ⟨cur⟩ := cur
  simp only [List.size_toArray] at h
  simp only [setB, splice, List.getElem?_toArray]
  have hl : (cur.take i).length = i := by simp; omega
  by_cases h1 : j < i
  · rw [if_neg (by omega), List.getElem?_append_left (by omega), List.getElem?_take, if_pos h1]
  · rw [List.getElem?_append_right (by omega), hl]
    by_cases h2 : j < i + l.length
    · rw [if_pos (by omega), List.getElem?_append_left (by omega)]
    · rw [if_neg (by omega), List.getElem?_append_right (by omega), List.getElem?_drop]
      congr 1; omega

/-- block g is a row of bytes of which the first are l; cap: how many cells; e: the type byte -/
def Row (w : World) (e g cap : Nat) (l : Bytes) : Prop :=
  ∃ cur, w.heap[g]? = some (.cells cur e (0, 0)) ∧ l.length ≤ cap ∧ cap ≤ maxLen ∧ cur.size = cap ∧ cur.toList.take l.length = l.map bv
section
variable {w w' : World} {e g cap : Nat} {l : Bytes}
theorem Row.own (h : Row w e g cap l) {base : Nat} (hb : base ≤ g) : Own w base e (.slice (some ⟨g, 0, none⟩) l.length cap) l := by
  obtain ⟨cur, hg, h1, h2, h3, h4⟩ := h
  exact ⟨by simp, .inr ⟨g, cap, cur, rfl, hb, hg, h1, h2, by omega, by simpa using h4⟩⟩
theorem Row.of_own {base : Nat} {v : Value} (h : Own w base e v l) (hn : v ≠ .slice none 0 0) : ∃ g cap, v = .slice (some ⟨g, 0, none⟩) l.length cap ∧ base ≤ g ∧ Row w e g cap l := by
  rcases h.2 with ⟨rfl, _⟩ | ⟨g, cap, cur, rfl, hb, hg, h1, h2, h3, h4⟩
  · exact absurd rfl hn
  · exact ⟨g, cap, rfl, hb, cur, hg, h1, h2, by omega, by simpa using h4⟩
theorem Row.cell (h : Row w e g cap l) (j : Nat) (hj : j < l.length) : w.cell? ⟨g, j, none⟩ = some (bv l[j]) := by
  obtain ⟨cur, hg, h1, h2, h3, h4⟩ := h
  rw [cell_of_row w g j cur e (0, 0) hg]
  have h5 : (l.map bv)[j]? = some (bv l[j]) := by simp [hj]
  rw [← h4, List.getElem?_take, if_pos (by omega)] at h5
  simpa using h5
theorem Row.rd (h : Row w e g cap l) : Rd w (some ⟨g, 0, none⟩) l := fun j hj => ⟨g, 0, rfl, by rw [Nat.zero_add]; exact h.cell j hj⟩
theorem Row.below {B : Nat} (h : Row w e g cap l) (hb : Below B w w') (hg : g < B) : Row w' e g cap l := by
  obtain ⟨cur, h0, h1⟩ := h
  exact ⟨cur, (hb.block g hg).trans h0, h1⟩
theorem Row.lt (h : Row w e g cap l) : g < w.heap.size := by
  obtain ⟨cur, h0, _⟩ := h
  exact (Array.getElem?_eq_some_iff.1 h0).1
theorem Row.le (h : Row w e g cap l) : l.length ≤ cap ∧ cap ≤ maxLen := by
  obtain ⟨cur, _, h1, h2, _⟩ := h
  exact ⟨h1, h2⟩
theorem splice_len (l bs : Bytes) (i : Nat) (h : i + bs.length ≤ l.length) : (splice l i bs).length = l.length := length_splice l i bs h
theorem Row.set_ (h : Row w e g cap l) (i : Nat) (bs : Bytes) (hi : i + bs.length ≤ l.length) (cur : Array Value) (hc : w.heap[g]? = some (.cells cur e (0, 0))) :
    Row (w.setRow g (setB cur i (bs.map bv))) e g cap (splice l i bs) := by
  obtain ⟨cur', hg, h1, h2, h3, h4⟩ := h
  rw [hc] at hg
  injection hg with hg
  injection hg with hg
  subst hg
  refine ⟨_, setRow_heap w g cur _ e _ hc, by rw [splice_len _ _ _ hi]; exact h1, h2, by rw [setB_size _ _ _ (by simp; omega)]; exact h3, ?_⟩
  have hlen := splice_len l bs i hi
  apply List.ext_getElem?
  intro j
  rw [hlen, List.getElem?_take]
  by_cases hj : j < l.length
  · rw [if_pos hj]
    have h5 : cur[j]? = (l.map bv)[j]? := by rw [← h4, List.getElem?_take, if_pos hj]; simp
    have h6 : (setB cur i (bs.map bv)).toList[j]? = (setB cur i (bs.map bv))[j]? := by simp
    rw [h6, setB_at _ _ _ _ (by simp; omega), h5]
    simp only [splice, List.length_map]
    have hl : (l.take i).length = i := by simp; omega
    rw [List.getElem?_map, List.getElem?_map, List.getElem?_map]
    by_cases h7 : j < i
    · rw [if_neg (by omega), List.getElem?_append_left (by omega), List.getElem?_take, if_pos h7]
    · rw [List.getElem?_append_right (by omega), hl]
      by_cases h8 : j < i + bs.length
      · rw [if_pos (by omega), List.getElem?_append_left (by omega)]
      · rw [if_neg (by omega), List.getElem?_append_right (by omega), List.getElem?_drop]
        congr 2; omega
  · rw [if_neg hj, List.getElem?_eq_none (by simp; omega)]
end

end Go.Proofs.YtbnobjlphmkgeaaDoor
/- The contracts of num.Get, slices.Clone and num.Put. -/
namespace Go.Proofs.YtbnobjlphmkgeaaDoor
open Go.RowKit

/-- an error of the program: nil, or a number of api.Errno -/
def errV (n : Nat) : Value := if n = 0 then .nilIface else .iface 69 (.int .i64 n)
theorem byte_info : (Tryd.prog.info? 5).map (fun i => (i.zero, i.size, i.bytes)) = some (some (.int .u8 0), 1, 1) := by kernel_rfl

/-- slices.Clone of bytes: nil stays nil, else the call's own -/
theorem clone_nil (n c : Nat) (w : World) : Calls Tryd.prog 50 #[.slice none n c] w fun e w' => e = .returned (.slice none 0 0) ∧ w = w' := by
  have he := fun W => Lib.run_eql_slice_nil (P := Tryd.prog) W 41 5 none n c 0 0 Tryd.underlying41
  go_enter Tryd.func50, Tryd.ntmps50
  go_wp2
  go_ret
  exact ⟨rfl, rfl⟩
theorem clone_some (ad : Addr) (n c : Nat) (l : Bytes) (w : World) (hn : l.length = n) (hl : n ≤ 140737488351232) (hr : Rd w (some ad) l) :
    Calls Tryd.prog 50 #[.slice (some ad) n c] w fun e w' => ∃ g cap, e = .returned (.slice (some ⟨g, 0, none⟩) n cap) ∧ w.heap.size ≤ g ∧ Row w' 5 g cap l ∧ Below w.heap.size w w' := by
  subst hn
  have he := fun W => Lib.run_eql_slice_nil (P := Tryd.prog) W 41 5 (some ad) l.length c 0 0 Tryd.underlying41
  obtain ⟨i0, hi0, hz0, hz1, hz2⟩ := info_parts byte_info
  go_enter Tryd.func50, Tryd.ntmps50
  have hown := World.ownsRow_lit (base := w.heap.size) (e := 5) (size := 1) w #[] 0 (Nat.le_refl _) (by simp) rfl
  have hr1 : Rd (w.alloc (.cells #[] 5)) (some ad) l := hr.below ((Below.refl _ _).alloc (Nat.le_refl _) _)
  go_wp2_with (at_builtin; refine wpList_append_own _ rfl (.tmp 5) (.tmp 6) _ rfl w.heap.size 5 i0 _ 1 1 Tryd.underlying41 hi0 hz0 hz1 hz2 rfl (by decide) (.slice (some ⟨w.heap.size, 0, none⟩) 0 0) 0 [] rfl hown ad l.length c (l.map bv) rfl (by simp) hr1.cells one_bv (by simp only [maxLen]; omega) (by omega) (by simp) ?_; intro v1 w1 hown1 hg1 hnn)
  go_ret
  have hnn' : v1 ≠ .slice none 0 0 := fun h => by have := hnn.1 h; simp at this
  obtain ⟨g, cap, rfl, hbg, hrow⟩ := Row.of_own (l := l) (by simpa [Own] using hown1) hnn'
  refine ⟨g, cap, rfl, hbg, hrow, ?_⟩
  · exact ((Below.refl _ _).alloc (Nat.le_refl _) _).grown hg1 (by simp) (fun k hk => by simp [Value.ownBlock] at hk; omega)

end Go.Proofs.YtbnobjlphmkgeaaDoor
/- Runs of make and copy over bytes, as equations for a walk. -/
namespace Go.Proofs.YtbnobjlphmkgeaaDoor
open Go.RowKit

/-- copy of bytes into a row -/
theorem run_copy_rd (w : World) (g o dLen dCap n c k : Nat) (A : Option Addr) (l : Bytes) (cur : Array Value) (T : Nat) (hg : w.heap[g]? = some (.cells cur T (0, 0))) (hn : l.length = n) (hr : Rd w A l)
    (hk : k = Nat.min n dLen) (hfit : o + k ≤ cur.size) (ty : TypeId) :
    (Builtin.copy_ #[41, 41] ty #[.slice (some ⟨g, o, none⟩) dLen dCap, .slice A n c]).run Tryd.prog w = .ok (.int .i64 (k : Int)) (w.setRow g (setB cur o ((l.take k).map bv))) := by
  subst hn
  obtain ⟨i0, hi0, hz0, hz1, hz2⟩ := info_parts byte_info
  have hkl : k ≤ l.length := by rw [hk]; exact Nat.min_le_left _ _
  have hlen : ((l.take k).map bv).length = k := by simp; omega
  rcases A with _ | ad
  · have h0 : l = [] := by
      cases l with
      | nil => rfl
      | cons x r => obtain ⟨b, off, h, _⟩ := hr 0 (by simp); cases h
    subst h0
    have hk0 : k = 0 := by simp at hkl; exact hkl
    subst hk0
    simp only [List.take_nil, List.map_nil, setB_nil, setRow_self w g cur T _ hg]
    simp [Builtin.copy_, run_underlying Tryd.underlying41, Builtin.lenOf, Builtin.firstCells, sizeOf, typeInfo, hi0, goInt, storeCells]
  · have hr2 := run_copy_row (P := Tryd.prog) w 41 41 ty 5 g o dLen dCap ad l.length c cur T ((l.take k).map bv) Tryd.underlying41 (by rw [hi0]; simp [hz1]) hg (by rw [hlen, hk])
      (fun j v hj => (hr.take k hkl).cells j v hj) (by rw [hlen]; exact hfit) one_bv
    have he : ∀ X : List Value, (cur.toList.take o ++ X ++ cur.toList.drop (o + X.length)).toArray = setB cur o X := fun X => by simp [setB, splice]
    rw [he] at hr2
    rw [hr2, hlen]
    rfl
end Go.Proofs.YtbnobjlphmkgeaaDoor
/- append of whatever slice onto one of the call's own; clear of a part of a row of bytes. -/
namespace Go.Proofs.YtbnobjlphmkgeaaDoor
open Go.RowKit

/-- the slice that begins at A has these cells, each element of so many -/
structure Src (w : World) (size : Nat) (A : Option Addr) (m : Nat) (news : List Value) : Prop where
  len : news.length = m * size
  cells : ∀ j u, news[j]? = some u → ∃ ad, A = some ad ∧ w.cell? (ad.add j) = some u
theorem Src.of_own {w : World} {base e size n : Nat} {v : Value} {xs : List Value} (h : w.ownsRow base e size v n xs) : ∃ A c, v = .slice A n c ∧ n ≤ c ∧ Src w size A n xs := by
  rcases h.2 with ⟨rfl, rfl⟩ | ⟨g, cap, cur, rfl, _, hh, hc, hm, hz, ht⟩
  · have hx : xs = [] := List.eq_nil_of_length_eq_zero (by have := h.1; simpa using this)
    subst hx
    exact ⟨none, 0, rfl, Nat.le_refl _, by simp, fun j u hu => by simp at hu⟩
  · exact ⟨_, cap, rfl, hc, h.1, fun j u hu => ⟨_, rfl, h.cells (g := g) rfl j u hu⟩⟩
theorem Src.below {w w' : World} {size : Nat} {A : Option Addr} {m : Nat} {news : List Value} (h : Src w size A m news) (hb : Below w.heap.size w w') : Src w' size A m news :=
  ⟨h.len, fun j u hu => by
    obtain ⟨ad, hA, hc⟩ := h.cells j u hu
    exact ⟨ad, hA, (hb.cell (p := ad.add j) (World.block_lt_of_cell? w _ hc)).trans hc⟩⟩
theorem Src.of_rd {w : World} {A : Option Addr} {l : Bytes} (h : Rd w A l) : Src w 1 A l.length (l.map bv) :=
  ⟨by simp, fun j u hu => by
    have hj : j < l.length := by
      have := (List.getElem?_eq_some_iff.1 hu).1
      simpa using this
    obtain ⟨b, off, rfl, hc⟩ := h j hj
    refine ⟨_, rfl, ?_⟩
    rw [Addr.add_lit, hc, ← hu]
    simp [hj]⟩
section
variable {P : Program}
theorem run_append_src (w : World) (base : Nat) (t ty e : TypeId) (i : TypeInfo) (z : Value) (size bytes : Nat) (ht : P.underlying t = some (.slice e)) (hi : P.info? e = some i) (hz : i.zero = some z)
    (hsize : i.size = size) (hby : i.bytes = bytes) (hzs : z.cells.size = size) (hsz : 0 < size)
    (v : Value) (n : Nat) (xs : List Value) (hown : w.ownsRow base e size v n xs) (A : Option Addr) (m c : Nat) (news : List Value) (hr : Src w size A m news) (h1 : ∀ u ∈ news, u.oneCell' = true)
    (h63 : n + m ≤ maxLen) (hbytes : (n + m) * bytes ≤ 140737488355328) (hbase : base ≤ w.heap.size) :
    ∃ v' w', (Builtin.append_ #[t, t] ty #[v, .slice A m c]).run P w = .ok v' w' ∧ w'.ownsRow base e size v' (n + m) (xs ++ news) ∧ w.grownBy w' v.ownBlock ∧ (v'.ownBlock = v.ownBlock ∨ v'.ownBlock = some w.heap.size) := by
  rcases A with _ | ad
  · have hx : news = [] := by
      cases news with
      | nil => rfl
      | cons u r => obtain ⟨ad, h, _⟩ := hr.cells 0 u (by simp); cases h
    subst hx
    have hm : m = 0 := by
      have h2 := hr.len
      rcases Nat.eq_zero_or_pos m with h0 | h0
      · exact h0
      · have := Nat.mul_pos h0 hsz
        simp only [List.length_nil] at h2
        omega
    subst hm
    refine ⟨v, w, ?_, by simpa using hown, World.grownBy.refl w _, .inl rfl⟩
    rcases hown.2 with ⟨rfl, rfl⟩ | ⟨g, cap, cur, rfl, _, _, hnc, _⟩
    · simp [Builtin.append_, run_underlying ht, sizeOf, typeInfo, hi, Builtin.lenOf, Builtin.firstCells]
    · simp [Builtin.append_, run_underlying ht, sizeOf, typeInfo, hi, Builtin.lenOf, Builtin.firstCells, hnc, storeCells]
  · have hcells : ∀ j u, news[j]? = some u → w.cell? (ad.add j) = some u := fun j u hu => by
      obtain ⟨ad', h, hc⟩ := hr.cells j u hu
      injection h with h
      subst h
      exact hc
    obtain ⟨v', w', hrun, h2, h3, _, h5⟩ := run_append_own_at (P := P) w base t ty e i z size bytes ht hi hz hsize hby hzs hsz v n xs hown ad m c news hr.len hcells h1 h63 hbytes hbase
    exact ⟨v', w', hrun, h2, h3, h5⟩
theorem wp_append_src (w : World) {o : Oper} {a : Act} {K : Act → World → Prop} {Q : Exit → Act → World → Prop} (s x : Operand) (t : TypeId)
    (ho : o.op = .call { callee := .builtin .append, args := #[s, x], argTypes := #[t, t] })
    (base : Nat) (e : TypeId) (i : TypeInfo) (z : Value) (size bytes : Nat) (ht : P.underlying t = some (.slice e)) (hi : P.info? e = some i) (hz : i.zero = some z)
    (hsize : i.size = size) (hby : i.bytes = bytes) (hzs : z.cells.size = size) (hsz : 0 < size)
    (v : Value) (n : Nat) (xs : List Value) (hs : a.eval s = v) (hown : w.ownsRow base e size v n xs) (A : Option Addr) (m c : Nat) (news : List Value) (hx : a.eval x = .slice A m c) (hr : Src w size A m news) (h1 : ∀ u ∈ news, u.oneCell' = true)
    (h63 : n + m ≤ maxLen) (hbytes : (n + m) * bytes ≤ 140737488355328) (hbase : base ≤ w.heap.size)
    (h : ∀ v' w', w'.ownsRow base e size v' (n + m) (xs ++ news) → w.grownBy w' v.ownBlock → (v'.ownBlock = v.ownBlock ∨ v'.ownBlock = some w.heap.size) → K (a.put o.dst v') w') : o.wp P a w K Q := by
  obtain ⟨v', w', hrun, h2, h3, h4⟩ := run_append_src (P := P) w base t o.type e i z size bytes ht hi hz hsize hby hzs hsz v n xs hown A m c news hr h1 h63 hbytes hbase
  unfold Oper.wp execOp
  simp only [ho, resolve, invoke, builtin, Sem.run_bind, Sem.run_pure, Result.andThen_ok, List.map_toArray, List.map_cons, List.map_nil, hs, hx, hrun]
  exact h v' w' h2 h3 h4
theorem wpList_append_src (w : World) {ops : Array Oper} {rest : List Oper} {o : Oper} {a : Act} {Q : Exit → Act → World → Prop} (hgd : o.guard = none) (s x : Operand) (t : TypeId)
    (ho : o.op = .call { callee := .builtin .append, args := #[s, x], argTypes := #[t, t] })
    (base : Nat) (e : TypeId) (i : TypeInfo) (z : Value) (size bytes : Nat) (ht : P.underlying t = some (.slice e)) (hi : P.info? e = some i) (hz : i.zero = some z)
    (hsize : i.size = size) (hby : i.bytes = bytes) (hzs : z.cells.size = size) (hsz : 0 < size)
    (v : Value) (n : Nat) (xs : List Value) (hs : a.eval s = v) (hown : w.ownsRow base e size v n xs) (A : Option Addr) (m c : Nat) (news : List Value) (hx : a.eval x = .slice A m c) (hr : Src w size A m news) (h1 : ∀ u ∈ news, u.oneCell' = true)
    (h63 : n + m ≤ maxLen) (hbytes : (n + m) * bytes ≤ 140737488355328) (hbase : base ≤ w.heap.size)
    (h : ∀ v' w', w'.ownsRow base e size v' (n + m) (xs ++ news) → w.grownBy w' v.ownBlock → (v'.ownBlock = v.ownBlock ∨ v'.ownBlock = some w.heap.size) → wpList P ops Q rest (a.put o.dst v') w') : wpList P ops Q (o :: rest) a w :=
  wpList_plain hgd fun _ hK => wp_append_src w s x t ho base e i z size bytes ht hi hz hsize hby hzs hsz v n xs hs hown A m c news hx hr h1 h63 hbytes hbase fun v' w' h2 h3 h4 => hK _ _ (h v' w' h2 h3 h4)
end

end Go.Proofs.YtbnobjlphmkgeaaDoor
/- Maps told by a function from keys to values: lookup, store, len, clear as equations; over whatever program. -/
namespace Go.Proofs.YtbnobjlphmkgeaaDoor
open Go.RowKit Go.Maps Go.ChangeMaps

/-- any value, as it stands -/
def heldR (v : Value) : Option (DataW Value × List MemPlace) := some (.held v, [])
section
variable {P : Program} {T K E : TypeId} {κ : Type} {kl : κ → Lit} {w w' : World} {b cnt : Nat} {f : κ → Option Value}
/-- what a datum has at each key -/
def Has (kl : κ → Lit) (D : DataW Value) (f : κ → Option Value) : Prop := (∀ k, (f k = none → Maps.has D (kl k) = false) ∧ ∀ v, f k = some v → Maps.has D (kl k) = true ∧ ∀ z, D.atKey (kl k) z = .held v) ∧ ∀ l, Maps.has D l = true → ∃ k, l = kl k ∧ (f k).isSome = true
/-- block b is a map of cnt entries: at each key what f says -/
def IM (P : Program) (K : TypeId) (kl : κ → Lit) (w : World) (b : Nat) (f : κ → Option Value) (cnt : Nat) : Prop :=
  ∃ D : DataW Value, w.ownsMap P K heldR b cnt D ∧ Maps.size D = cnt ∧ Has kl D f
theorem ownsMap_tight {D : DataW Value} {n : Nat} (h : w.ownsMap P K heldR b n D) : w.ownsMap P K heldR b (Maps.size D) D := by
  obtain ⟨es, clock, hb, F, _, rfl⟩ := h
  refine ⟨es, clock, hb, F, ?_, rfl⟩
  simp [Maps.size, length_sorted]
theorem IM.made (w : World) : IM P K kl (w.alloc (.map #[] 0)) w.heap.size (fun _ => none) 0 :=
  ⟨_, World.ownsMap_made w P K heldR, rfl, fun k => ⟨fun _ => rfl, fun v h => by cases h⟩, fun l h => by cases h⟩
theorem IM.block (h : IM P K kl w b f cnt) (hb : w'.heap[b]? = w.heap[b]?) : IM P K kl w' b f cnt := by
  obtain ⟨D, ⟨es, clock, h1, h2⟩, h3⟩ := h
  exact ⟨D, ⟨es, clock, hb.trans h1, h2⟩, h3⟩
theorem IM.lt (h : IM P K kl w b f cnt) : b < w.heap.size := by
  obtain ⟨D, h, _⟩ := h
  exact h.lt
theorem IM.isMap (h : IM P K kl w b f cnt) : ∃ es clock, w.heap[b]? = some (.map es clock) := by
  obtain ⟨D, ⟨es, clock, hb, _⟩, _⟩ := h
  exact ⟨es, clock, hb⟩
/-- f with another value at one key -/
def upd [DecidableEq κ] (f : κ → Option Value) (k : κ) (v : Value) : κ → Option Value := fun x => if x = k then some v else f x
theorem IM.store [DecidableEq κ] (h : IM P K kl w b f cnt) (KL : Keyed P K) (hinj : ∀ x y, kl x = kl y → x = y) (ht : P.underlying T = some (.map K E)) (hn : cnt < maxLen) {key : Value} {k : κ} (hkey : keyOf P K key = some (kl k)) (v : Value) :
    ∃ w', (Instr.mapUpdate T (.map (some b)) key v).run P w = .ok () w' ∧ IM P K kl w' b (upd f k v) (if (f k).isSome then cnt else cnt + 1) ∧ w.grownBy w' (some b) ∧ w'.heap.size = w.heap.size := by
  obtain ⟨D, h, hs, hh⟩ := h
  obtain ⟨w', hrun, h', ht'⟩ := h.store KL ht hn (d := .held v) (ps := []) hkey rfl
  obtain ⟨w2, hrun2, _, hg⟩ := h.update KL ht hn (d := .held v) (ps := []) hkey rfl
  have e : w' = w2 := by
    rw [hrun] at hrun2
    injection hrun2
  subst e
  have hik : WideAt.IsKeyLit (kl k) := KL.key hkey
  have hsz : Maps.size (D.put (kl k) (.held v)) = if (f k).isSome then cnt else cnt + 1 := by
    rw [size_put (h.tidy KL), hs]
    cases hf : f k with
    | none => rw [(hh.1 k).1 hf]; simp
    | some u => rw [((hh.1 k).2 u hf).1]; simp
  refine ⟨w', hrun, ⟨_, ?_, hsz, fun x => ?_, fun l hl => ?_⟩, hg, ?_⟩
  · rw [← hsz]; exact ownsMap_tight h'
  · unfold upd
    by_cases hx : x = k
    · subst hx
      rw [if_pos rfl]
      refine ⟨(fun h => by cases h), fun u hu => ?_⟩
      obtain rfl := Option.some.inj hu
      exact ⟨has_put_same h.isMap hik _, fun z => atKey_put_same h.isMap hik _ z⟩
    · rw [if_neg hx]
      have hne : kl x ≠ kl k := fun e => hx (hinj _ _ e)
      refine ⟨fun h0 => by rw [has_put_other hne]; exact (hh.1 x).1 h0, fun u hu => ?_⟩
      rw [has_put_other hne]
      exact ⟨((hh.1 x).2 u hu).1, fun z => by rw [atKey_put_other hne]; exact ((hh.1 x).2 u hu).2 z⟩
  · by_cases hx : l = kl k
    · exact ⟨k, hx, by unfold upd; rw [if_pos rfl]; rfl⟩
    · rw [has_put_other hx] at hl
      obtain ⟨x, hx', hfx⟩ := hh.2 l hl
      refine ⟨x, hx', ?_⟩
      unfold upd
      split
      · rfl
      · exact hfx
  · obtain ⟨es, clock, es', clock', _, hw⟩ := ht'
    rw [hw]; simp [setBlock]
end
end Go.Proofs.YtbnobjlphmkgeaaDoor
/- What stays: all but the blocks of a set. No program in sight. -/
namespace Go.Proofs.YtbnobjlphmkgeaaDoor
open Go.RowKit

/-- all that is not in F is as it was; F: the blocks that a device takes -/
structure Keep (F : Nat → Prop) (w w' : World) : Prop where
  os : w'.os = w.os
  tape : w'.tape = w.tape
  output : w'.output = w.output
  size : w.heap.size ≤ w'.heap.size
  block : ∀ k, k < w.heap.size → ¬ F k → w'.heap[k]? = w.heap[k]?
theorem Keep.refl (F : Nat → Prop) (w : World) : Keep F w w := ⟨rfl, rfl, rfl, Nat.le_refl _, fun _ _ _ => rfl⟩
theorem Keep.trans {F F' : Nat → Prop} {a b c : World} (h : Keep F a b) (k : Keep F' b c) (hF : ∀ x, F' x → F x ∨ a.heap.size ≤ x) : Keep F a c :=
  ⟨k.os.trans h.os, k.tape.trans h.tape, k.output.trans h.output, Nat.le_trans h.size k.size, fun x hx hn =>
    (k.block x (Nat.lt_of_lt_of_le hx h.size) (fun hf => by rcases hF x hf with h' | h'; exact hn h'; omega)).trans (h.block x hx hn)⟩
theorem Keep.below {F : Nat → Prop} {B : Nat} {w w' : World} (h : Keep F w w') (hB : B ≤ w.heap.size) (hF : ∀ k, F k → B ≤ k) : Below B w w' :=
  ⟨h.os, h.tape, h.output, h.size, fun k hk => h.block k (by omega) (fun hf => by have := hF k hf; omega)⟩
theorem Keep.rd {F : Nat → Prop} {w w' : World} {A : Option Addr} {l : Bytes} (h : Keep F w w') (hr : Rd w A l) (hA : ∀ ad, A = some ad → ¬ F ad.block) : Rd w' A l := fun j hj => by
  obtain ⟨b, off, rfl, hc⟩ := hr j hj
  exact ⟨b, off, rfl, (World.cell?_of_block (w := w) (h.block b (block_lt_of_cell hc) (hA _ rfl))).trans hc⟩
theorem Keep.row {F : Nat → Prop} {w w' : World} {e g cap : Nat} {l : Bytes} (h : Keep F w w') (hr : Row w e g cap l) (hg : ¬ F g) : Row w' e g cap l := by
  obtain ⟨cur, h0, h1⟩ := hr
  exact ⟨cur, (h.block g (Array.getElem?_eq_some_iff.1 h0).1 hg).trans h0, h1⟩
theorem Keep.drewN {F : Nat → Prop} {w w' : World} (h : Keep F w w') (n : Nat) : Keep F w (w'.drewN n) := ⟨h.os, h.tape, h.output, h.size, h.block⟩

section
variable {w w' : World}
theorem Row.block {e g cap : Nat} {l : Bytes} (h : Row w e g cap l) (hb : w'.heap[g]? = w.heap[g]?) : Row w' e g cap l := by
  obtain ⟨cur, h0, h1⟩ := h
  exact ⟨cur, hb.trans h0, h1⟩
end
theorem heap_setK {w : World} {d k : Nat} {cur : Array Value} {t : TypeId} (h : w.heap[d]? = some (.cells cur t (0, 0))) (v : Value) : (w.setCell ⟨d, k, none⟩ v).heap[d]? = some (.cells (cur.setIfInBounds k v) t (0, 0)) := by
  rw [setCell_eq_setRow w d k cur t _ _ h]
  exact setRow_heap w d cur _ t _ h
end Go.Proofs.YtbnobjlphmkgeaaDoor
/- A device in memory: what lies where. -/
namespace Go.Proofs.YtbnobjlphmkgeaaDoor
open Go.RowKit

/-- what a device is -/
structure Dv where
  S : List Bytes
  O : List Nat
  M : Nat → Bytes
  left : Int
  down : Bool
/-- where it lies -/
structure Lay where
  gs : Nat
  cs : Nat
  gm : Nat
  vo : Value
  sb : Nat → Nat
  sc : Nat → Nat
  mb : Nat → Nat
  mc : Nat → Nat
def natL (k : Nat) : Lit := .int .i64 k
theorem natL_inj (x y : Nat) (h : natL x = natL y) : x = y := by
  unfold natL at h; injection h with _ h; omega
section
variable {w w' : World} {F F' : Nat → Prop} {d : Nat} {D : Dv} {Y : Lay} {live : Nat → Prop}
end
end Go.Proofs.YtbnobjlphmkgeaaDoor
/- The contracts of package device: Len, Down, step, Fail, forget. -/
namespace Go.Proofs.YtbnobjlphmkgeaaDoor
open Go.RowKit

theorem Keep.setCell {F : Nat → Prop} {w w' : World} (h : Keep F w w') {p : Addr} (hp : F p.block ∨ w.heap.size ≤ p.block) (u : Value) : Keep F w (w'.setCell p u) :=
  ⟨h.os, h.tape, h.output, by simpa using h.size, fun k hk hn => by
    have : k ≠ p.block := fun e => by rcases hp with h' | h'; exact hn (e ▸ h'); omega
    exact (Below.heap_setCell w' p u k this).trans (h.block k hk hn)⟩
end Go.Proofs.YtbnobjlphmkgeaaDoor
/- The contracts of package device: Read and Write. -/
namespace Go.Proofs.YtbnobjlphmkgeaaDoor
open Go.RowKit Go.Maps Go.ChangeMaps

theorem wf_nat {n : Nat} (hn : n ≤ 100000) : (Lit.int .i64 (n : Int)).wf = true := by
  have : (-9223372036854775808 : Int) ≤ n ∧ (n : Int) ≤ 9223372036854775807 := by omega
  simpa [Lit.wf, IntKind.min, IntKind.max, IntKind.bits, IntKind.signed] using this
theorem int_key {n : Nat} (hn : n ≤ 100000) : keyOf Tryd.prog 3 (.int .i64 (n : Int)) = some (natL n) := keyOf_int_mk Tryd.underlying3 (wf_nat hn)
theorem int_keyed : Go.Maps.Keyed Tryd.prog 3 := Go.Maps.int_keyed Tryd.underlying3
end Go.Proofs.YtbnobjlphmkgeaaDoor
/- The contract of Write. -/
namespace Go.Proofs.YtbnobjlphmkgeaaDoor
open Go.RowKit Go.Maps Go.ChangeMaps

section
variable {P : Program} {T K E : TypeId} {κ : Type} [DecidableEq κ] {kl : κ → Lit} {b cnt : Nat} {f : κ → Option Value}
end
theorem nodup_le : ∀ (n : Nat) (l : List Nat), l.Nodup → (∀ x ∈ l, x < n) → l.length ≤ n
  | 0, l, _, h => by
    cases l with
    | nil => simp
    | cons x r => have := h x (by simp); omega
  | n + 1, l, hd, h => by
    by_cases hm : n ∈ l
    · have h1 := nodup_le n (l.erase n) (hd.erase n) (fun x hx => by
        have h2 := (hd.mem_erase_iff).1 hx
        have := h x h2.2
        omega)
      rw [List.length_erase_of_mem hm] at h1
      omega
    · have h1 := nodup_le n l hd (fun x hx => by
        have := h x hx
        have : x ≠ n := fun e => hm (e ▸ hx)
        omega)
      omega
end Go.Proofs.YtbnobjlphmkgeaaDoor
/- The contracts of package device: Flush. -/
namespace Go.Proofs.YtbnobjlphmkgeaaDoor
open Go.RowKit Go.Maps Go.ChangeMaps

end Go.Proofs.YtbnobjlphmkgeaaDoor
/- The contracts of package device: New, Pending. -/
namespace Go.Proofs.YtbnobjlphmkgeaaDoor
open Go.RowKit Go.Maps Go.ChangeMaps

end Go.Proofs.YtbnobjlphmkgeaaDoor
/- The contract of Crash. -/
namespace Go.Proofs.YtbnobjlphmkgeaaDoor
open Go.RowKit Go.Maps Go.ChangeMaps

end Go.Proofs.YtbnobjlphmkgeaaDoor
/- A device that a call has made: the contracts once more, with what they leave of the rest. -/
namespace Go.Proofs.YtbnobjlphmkgeaaDoor
open Go.RowKit Go.Maps Go.ChangeMaps

section
variable {w0 w : World} {F : Nat → Prop} {d : Nat} {D : Dv}
end
end Go.Proofs.YtbnobjlphmkgeaaDoor
/- What comes in: arguments opened to the words of the text Base. No program in sight. -/
namespace Go.Proofs.YtbnobjlphmkgeaaDoor
open Go.RowKit Go.ChangeShapes Go.WideShapes Go.ChangeAt
open Go.ChangeMaps (open_string shut_string)

section
variable {H : Type} {enc : TypeId × Value → H} {P : Program} {w : World}
theorem wf_u8 {n : Int} (h : (Lit.int .u8 n).wf = true) : 0 ≤ n ∧ n ≤ 255 := by
  simpa [Lit.wf, IntKind.min, IntKind.max, IntKind.bits, IntKind.signed] using h
theorem wf_i64' {n : Int} (h : (Lit.int .i64 n).wf = true) : -9223372036854775808 ≤ n ∧ n ≤ 9223372036854775807 := by
  simpa [Lit.wf, IntKind.min, IntKind.max, IntKind.bits, IntKind.signed] using h

def toBytes (zs : List Int) : Bytes := zs.map fun z => UInt8.ofNat z.toNat
theorem toBytes_at {zs : List Int} (hz : ∀ n ∈ zs, (Lit.int .u8 n).wf = true) (j : Nat) (hj : j < zs.length) : .int .u8 (zs.getD j 0) = bv ((toBytes zs)[j]'(by simpa [toBytes] using hj)) := by
  have h1 : zs.getD j 0 = zs[j] := by simp [hj]
  have h2 := wf_u8 (hz _ (List.getElem_mem hj))
  have h3 : (zs[j].toNat % 256 : Nat) = zs[j].toNat := Nat.mod_eq_of_lt (by omega)
  rw [h1]
  simp only [toBytes, List.getElem_map, bv]
  congr 1
  rw [UInt8.toNat_ofNat', show 2 ^ 8 = 256 from rfl, h3]
  omega

/-- a slice of bytes that came in -/
theorem open_bytes {t e : TypeId} {v : Value} {d : DataW H} {ps : List MemPlace} {base : Nat} {r : Reach} (ht : P.underlying t = some (.slice e)) (he : P.underlying e = some (.int .u8)) (hc : P.cellsOf e = 1) (hb : P.bytesOf e = 1)
    (hv : Value.okWide P w r base t v) (h : DataW.Trod enc P w 0 (fun _ => true) true t v d ps) (hz : (d.weights P t).all (· ≤ reachBytes) = true) :
    ∃ (A : Option Addr) (c : Nat) (l : Bytes), v = .slice A l.length c ∧ l.length ≤ c ∧ c ≤ 140737488351232 ∧ Rd w A l := by
  obtain ⟨a0, len0, cap0, rfl⟩ := okWide_slice ht hv
  obtain ⟨fuel, hf⟩ := h
  rcases open_ints ht he hc hf with ⟨hcs, _⟩ | ⟨x, l, c, zs, hcs, _, hl, hm, hlen, hx, hcell, hwz⟩
  · simp [Value.cells] at hcs
    obtain ⟨rfl, rfl, rfl⟩ := hcs
    exact ⟨none, 0, [], rfl, by simp, by omega, Rd.nil_⟩
  · simp [Value.cells] at hcs
    obtain ⟨rfl, rfl, rfl⟩ := hcs
    simp only [Prod.mk.injEq] at hx
    obtain ⟨rfl, rfl⟩ := hx
    have hlen' : zs.length = cap0 := by simpa using hlen
    have hreach : cap0 ≤ 140737488351232 := by
      have := List.all_eq_true.1 hz ((zs.take len0).length * 1 + (zs.drop len0).length * 1) (by
        simp [DataW.weights, ht, hb, lits, Nat.mul_one, hlen'])
      have h2 := of_decide_eq_true this
      simp [hlen'] at h2
      have h3 : reachBytes = 140737488351232 := by decide
      omega
    have hlt : len0 ≤ zs.length := by omega
    refine ⟨some x, cap0, (toBytes zs).take len0, ?_, ?_, hreach, ?_⟩
    · simp [toBytes]; omega
    · simp [toBytes]; omega
    · intro j hj
      have hj' : j < len0 := by simp [toBytes] at hj; omega
      have hc0 := hcell j (by omega)
      obtain ⟨b, off, spot⟩ := x
      have hs : spot = none := by
        have hc1 := hcell 0 (by omega)
        simpa [Addr.add] using World.cell?_spot hc1
      subst hs
      refine ⟨b, off, rfl, ?_⟩
      rw [Addr.add_lit] at hc0
      rw [hc0, toBytes_at hwz j (by omega)]
      simp
end
end Go.Proofs.YtbnobjlphmkgeaaDoor
/- What comes in: slices of structs, of booleans. No program in sight. -/
namespace Go.Proofs.YtbnobjlphmkgeaaDoor
open Go.RowKit Go.ChangeShapes Go.WideShapes Go.ChangeAt

/-- the slice at A has these elements, C cells each -/
def RdX {X : Type} (cells : X → List Value) (C : Nat) (w : World) (A : Option Addr) (L : List X) : Prop :=
  ∀ i (h : i < L.length), ∃ b off, A = some ⟨b, off, none⟩ ∧ ∀ q u, (cells L[i])[q]? = some u → w.cell? ⟨b, off + i * C + q, none⟩ = some u
section
variable {X : Type} {cells : X → List Value} {C : Nat} {w w' : World} {A : Option Addr} {L : List X}
theorem RdX.block (h : RdX cells C w A L) (hb : ∀ ad, A = some ad → ad.block < w.heap.size → w'.heap[ad.block]? = w.heap[ad.block]?) : RdX cells C w' A L := fun i hi => by
  obtain ⟨b, off, hA, hc⟩ := h i hi
  exact ⟨b, off, hA, fun q u hq => (World.cell?_of_block (w := w) (a := ⟨b, off + i * C + q, none⟩) (hb ⟨b, off, none⟩ hA (show b < w.heap.size from block_lt_of_cell (hc q u hq)))).trans (hc q u hq)⟩
theorem RdX.below (h : RdX cells C w A L) (hb : Below w.heap.size w w') : RdX cells C w' A L := h.block fun _ _ hlt => hb.block _ hlt
end
section
variable {H : Type} {enc : TypeId × Value → H} {P : Program} {w : World}
theorem weights_all {e : TypeId} : ∀ (l : List (DataW H)) (n : Nat), (DataW.weightsAll P e l).all (· ≤ n) = true → ∀ d ∈ l, (d.weights P e).all (· ≤ n) = true
  | [], _, _, d, hd => by simp at hd
  | x :: r, n, h, d, hd => by
    rw [DataW.weightsAll, List.all_append, Bool.and_eq_true] at h
    rcases List.mem_cons.1 hd with rfl | hd
    · exact h.1
    · exact weights_all r n h.2 d hd
theorem open_seq {X : Type} [Inhabited X] (cells : X → List Value) (C : Nat) (ok : World → X → Prop) {t e : TypeId} {v : Value} {d : DataW H} {ps : List MemPlace} {base : Nat} {r : Reach} (ht : P.underlying t = some (.slice e)) (hC : P.cellsOf e = C) (hC0 : 0 < C) (hb : 1 ≤ P.bytesOf e)
    (hel : ∀ n cs x, cs.length = C → DataW.trod enc P w 0 (fun _ => true) true n e cs = some x → (x.1.weights P e).all (· ≤ reachBytes) = true → ∃ y : X, cs = cells y ∧ ok w y)
    (hv : Value.okWide P w r base t v) (h : DataW.Trod enc P w 0 (fun _ => true) true t v d ps) (hz : (d.weights P t).all (· ≤ reachBytes) = true) :
    ∃ (A : Option Addr) (c : Nat) (L : List X), v = .slice A L.length c ∧ L.length ≤ c ∧ c ≤ 140737488351232 ∧ (∀ x ∈ L, ok w x) ∧ RdX cells C w A L := by
  obtain ⟨a0, len0, cap0, rfl⟩ := okWide_slice ht hv
  obtain ⟨fuel, hf⟩ := h
  rcases Go.Deep.open_slice ht hf with ⟨hcs, _⟩ | ⟨a, len, cap, m, n, D, Pl, hcs, _, hl, hm, hmm, hx, hi⟩
  · simp [Value.cells] at hcs
    obtain ⟨rfl, rfl, rfl⟩ := hcs
    exact ⟨none, 0, [], rfl, by simp, by omega, fun x hx => by simp at hx, fun i hi => by simp at hi⟩
  · simp [Value.cells] at hcs
    obtain ⟨rfl, rfl, rfl⟩ := hcs
    simp only [if_true] at hmm
    subst hmm
    simp only [Prod.mk.injEq] at hx
    obtain ⟨rfl, rfl⟩ := hx
    rw [DataW.weights, ht] at hz
    simp only [List.all_cons, List.all_append, Bool.and_eq_true, decide_eq_true_eq, List.length_map, List.length_range] at hz
    have hreach : m ≤ 140737488351232 := by
      have h3 : reachBytes = 140737488351232 := by decide
      have h4 := hz.1
      rw [h3] at h4
      have h5 : (len0 + (m - len0)) * 1 ≤ (len0 + (m - len0)) * P.bytesOf e := Nat.mul_le_mul_left _ hb
      omega
    have hex : ∀ i, i < len0 → ∃ y : X, ok w y ∧ w.cells? 0 (a.add (i * C)) C = some (cells y) := fun i hil => by
      obtain ⟨cs', h1, h2⟩ := hi i (by omega)
      obtain ⟨y, hy, hok⟩ := hel n cs' _ (by rw [← hC]; exact (World.cells?_some h1).2.1) h2 (weights_all _ _ hz.2.1 _ (List.mem_map.2 ⟨i, List.mem_range.2 hil, rfl⟩))
      refine ⟨y, hok, ?_⟩
      rw [← hy, ← hC]; exact h1
    obtain ⟨Y, hY⟩ := Go.Deep.choose_lt (α := X) (p := fun i y => ok w y ∧ w.cells? 0 (a.add (i * C)) C = some (cells y)) hex
    have hlen : ((List.range len0).map Y).length = len0 := by simp
    refine ⟨some a, m, (List.range len0).map Y, by rw [hlen], by rw [hlen]; exact hl, hreach, fun x hx => ?_, fun i hil => ?_⟩
    · obtain ⟨i, hi', rfl⟩ := List.mem_map.1 hx
      exact (hY i (List.mem_range.1 hi')).1
    · rw [hlen] at hil
      obtain ⟨_, h2⟩ := hY i hil
      obtain ⟨_, hcl, hat⟩ := World.cells?_some h2
      have hYi : ((List.range len0).map Y)[i]'(by rw [hlen]; exact hil) = Y i := by simp
      rw [hYi]
      obtain ⟨b, off, spot⟩ := a
      have hcell : ∀ q u, (cells (Y i))[q]? = some u → w.cell? ((⟨b, off, spot⟩ : Addr).add (i * C + q)) = some u := fun q u hq => by
        have hql : q < C := by have := (List.getElem?_eq_some_iff.1 hq).1; omega
        rw [← Go.Deep.add_add, hat q hql, hq]
      have hs : spot = none := by
        obtain ⟨_, h20⟩ := hY 0 (by omega)
        obtain ⟨_, hcl0, hat0⟩ := World.cells?_some h20
        have h0 := hat0 0 hC0
        rw [List.getElem?_eq_getElem (by omega), Nat.zero_mul] at h0
        simpa [Addr.add] using World.cell?_spot h0
      subst hs
      refine ⟨b, off, rfl, fun q u hq => ?_⟩
      have := hcell q u hq
      rw [Addr.add_lit, ← Nat.add_assoc] at this
      exact this
/-- bytes within something else -/
theorem open_bytes_in {t e : TypeId} {v : Value} {y : DataW H × List MemPlace} {n : Nat} (ht : P.underlying t = some (.slice e)) (he : P.underlying e = some (.int .u8)) (hc : P.cellsOf e = 1) (hb : P.bytesOf e = 1)
    (h : DataW.trod enc P w 0 (fun _ => true) true n t [v] = some y) (hz : (y.1.weights P t).all (· ≤ reachBytes) = true) :
    ∃ (A : Option Addr) (c : Nat) (l : Bytes), v = .slice A l.length c ∧ l.length ≤ c ∧ c ≤ 140737488351232 ∧ Rd w A l := by
  rcases open_ints ht he hc h with ⟨hcs, _⟩ | ⟨x, l, c, zs, hcs, _, hl, hm, hlen, hx, hcell, hwz⟩
  · simp at hcs
    exact ⟨none, 0, [], by simpa using hcs, by simp, by omega, Rd.nil_⟩
  · simp at hcs
    subst hcs
    have hd := congrArg Prod.fst hx
    simp only at hd
    rw [hd] at hz
    have hlen' : zs.length = c := by simpa using hlen
    have hreach : c ≤ 140737488351232 := by
      have := List.all_eq_true.1 hz ((zs.take l).length * 1 + (zs.drop l).length * 1) (by
        simp [DataW.weights, ht, hb, lits, Nat.mul_one, hlen'])
      have h2 := of_decide_eq_true this
      simp [hlen'] at h2
      have h3 : reachBytes = 140737488351232 := by decide
      omega
    refine ⟨some x, c, (toBytes zs).take l, ?_, ?_, hreach, ?_⟩
    · simp [toBytes]; omega
    · simp [toBytes]; omega
    · intro j hj
      have hj' : j < l := by simp [toBytes] at hj; omega
      have hc0 := hcell j (by omega)
      obtain ⟨b, off, spot⟩ := x
      have hs : spot = none := by
        have hc1 := hcell 0 (by omega)
        simpa [Addr.add] using World.cell?_spot hc1
      subst hs
      refine ⟨b, off, rfl, ?_⟩
      rw [Addr.add_lit] at hc0
      rw [hc0, toBytes_at hwz j (by omega)]
      simp
end
end Go.Proofs.YtbnobjlphmkgeaaDoor
/- A device under whatever writes: the plain words, and Write of whatever page. -/
namespace Go.Proofs.YtbnobjlphmkgeaaDoor
open Go.RowKit Go.Maps Go.ChangeMaps

section
variable {w0 w : World} {F : Nat → Prop} {d : Nat} {D : Dv}
end
end Go.Proofs.YtbnobjlphmkgeaaDoor
/- A byte stored into a row; the bytes of a number one by one. -/
namespace Go.Proofs.YtbnobjlphmkgeaaDoor
open Go.RowKit

theorem Row.store {w : World} {e g cap : Nat} {l : Bytes} (h : Row w e g cap l) (p : Nat) (_hp : p < l.length) (x : UInt8) :
    Row (w.setCell ⟨g, p, none⟩ (bv x)) e g cap (l.set p x) := by
  obtain ⟨cur, hg, h1, h2, h3, h4⟩ := h
  rw [setCell_eq_setRow w g p cur e _ _ hg]
  refine ⟨_, setRow_heap w g cur _ e _ hg, by simpa using h1, h2, by simpa using h3, ?_⟩
  rw [Array.toList_setIfInBounds, List.length_set, List.take_set, h4, List.map_set]
theorem Row.frozen {w : World} {e g cap : Nat} {l : Bytes} (h : Row w e g cap l) (p : Nat) : w.frozen? ⟨g, p, none⟩ = false := by
  obtain ⟨cur, hg, _⟩ := h
  exact frozen_of_row w g p cur e hg
theorem splice_rd (l x : Bytes) (o p : Nat) (h : o + x.length ≤ l.length) : (splice l o x)[p]? = if o ≤ p ∧ p < o + x.length then x[p - o]? else l[p]? := by
  unfold splice
  have hl : (l.take o).length = o := by simp; omega
  by_cases h1 : p < o
  · rw [if_neg (by omega), List.getElem?_append_left (by omega), List.getElem?_take, if_pos h1]
  · rw [List.getElem?_append_right (by omega), hl]
    by_cases h2 : p < o + x.length
    · rw [if_pos (by omega), List.getElem?_append_left (by omega)]
    · rw [if_neg (by omega), List.getElem?_append_right (by omega), List.getElem?_drop]
      congr 1; omega
end Go.Proofs.YtbnobjlphmkgeaaDoor
/- The contract of num.Same. -/
namespace Go.Proofs.YtbnobjlphmkgeaaDoor
open Go.RowKit

end Go.Proofs.YtbnobjlphmkgeaaDoor
/- Contracts over strings and bytes: slices.IndexFunc and ContainsFunc at whatever pure predicate. -/
namespace Go.Proofs.YtbnobjlphmkgeaaDoor
open Go.RowKit

end Go.Proofs.YtbnobjlphmkgeaaDoor
/- The contracts of num.name, PutName, GetName. -/
namespace Go.Proofs.YtbnobjlphmkgeaaDoor
open Go.RowKit

end Go.Proofs.YtbnobjlphmkgeaaDoor
/- The contract of num.GetName. -/
namespace Go.Proofs.YtbnobjlphmkgeaaDoor
open Go.RowKit

/-- bytes as a text -/
theorem conv_text (w : World) (A : Option Addr) (n c : Nat) (l : Bytes) (hn : l.length = n) (hr : Rd w A l) : (convert 41 9 (.slice A n c)).run Tryd.prog w = .ok (sv l) w := by
  subst hn
  rcases A with _ | ad
  · have h0 : l = [] := by
      cases l with
      | nil => rfl
      | cons x r => obtain ⟨b, off, h, _⟩ := hr 0 (by simp); cases h
    subst h0
    have he := Tryd.underlying5
    simp [convert, run_underlying Tryd.underlying41, run_underlying Tryd.underlying9, run_underlying he, Conv.bytesToString]
    rfl
  · exact run_convert_bytes_back w _ _ _ ad c l Tryd.underlying41 Tryd.underlying5 Tryd.underlying9 (fun j hj => by
      have := hr.cells j (bv l[j]) (by simp [hj])
      exact this)

end Go.Proofs.YtbnobjlphmkgeaaDoor
/- The contracts of stamp.Make and bytes.Equal. -/
namespace Go.Proofs.YtbnobjlphmkgeaaDoor
open Go.RowKit

/-- bytes.Equal -/
theorem equal_any (A B : Option Addr) (n m c d : Nat) (a b : Bytes) (w : World) (hn : a.length = n) (hm : b.length = m) (ha : Rd w A a) (hb : Rd w B b) :
    Calls Tryd.prog 51 #[.slice A n c, .slice B m d] w fun e w' => e = .returned (.bool (a == b)) ∧ w = w' := by
  have c1 := conv_text w A n c a hn ha
  have c2 := conv_text w B m d b hm hb
  go_enter Tryd.func51, Tryd.ntmps51
  go_wp2
  go_ret
  exact ⟨rfl, rfl⟩
end Go.Proofs.YtbnobjlphmkgeaaDoor
/- The contracts of stamp.Open and vaultref1.Zero. -/
namespace Go.Proofs.YtbnobjlphmkgeaaDoor
open Go.RowKit

end Go.Proofs.YtbnobjlphmkgeaaDoor
/- The contracts of the reference's Number, Make and Open. -/
namespace Go.Proofs.YtbnobjlphmkgeaaDoor
open Go.RowKit

end Go.Proofs.YtbnobjlphmkgeaaDoor
/- NumLow: plain facts on numbers as bytes; the contract of pow. -/
namespace Go.Proofs.YtbnobjlphmkgeaaDoor
open Go.RowKit

end Go.Proofs.YtbnobjlphmkgeaaDoor
/- NumBack: the walk. -/
namespace Go.Proofs.YtbnobjlphmkgeaaDoor
open Go.RowKit

end Go.Proofs.YtbnobjlphmkgeaaDoor
/- StampRow: the walk. -/
namespace Go.Proofs.YtbnobjlphmkgeaaDoor
open Go.RowKit

end Go.Proofs.YtbnobjlphmkgeaaDoor
/- Pages: the plain words: what a device becomes while pages are opened, committed; what is safe. -/
namespace Go.Proofs.YtbnobjlphmkgeaaDoor
open Go.RowKit

def andThen (a : Dv × Nat) (g : Dv → Dv × Nat) : Dv × Nat := if a.2 = 0 then g a.1 else a
end Go.Proofs.YtbnobjlphmkgeaaDoor
/- A device: Write, Flush, Read of whatever, in one form each. -/
namespace Go.Proofs.YtbnobjlphmkgeaaDoor
open Go.RowKit Go.Maps Go.ChangeMaps

theorem errV_pos {n : Nat} (h : n ≠ 0) : errV n = .iface 69 (.int .i64 n) := by unfold errV; rw [if_neg h]
/-- what a call says that hands back bytes of its own, or a fault -/
def SlAns (w : World) (l : Bytes) (k : Nat) (e : Ending) (w' : World) : Prop :=
  ∃ A c, e = .returned (.tuple #[.slice A l.length c, errV k]) ∧ l.length ≤ c ∧ Rd w' A l ∧ (∀ ad, A = some ad → w.heap.size ≤ ad.block) ∧ Below w.heap.size w w'
theorem SlAns.mk {w w' : World} {l : Bytes} {k : Nat} {e : Ending} (h : ∃ A c, e = .returned (.tuple #[.slice A l.length c, errV k]) ∧ l.length ≤ c ∧ Rd w' A l ∧ (∀ ad, A = some ad → w.heap.size ≤ ad.block) ∧ Below w.heap.size w w') : SlAns w l k e w' := h
theorem SlAns.none_ {w : World} {k : Nat} {e : Ending} (h : e = .returned (.tuple #[.slice none 0 0, errV k])) : SlAns w [] k e w := ⟨none, 0, h, Nat.le_refl _, Rd.nil_, (fun ad e => by cases e), Below.refl _ _⟩
section
variable {w0 w : World} {F : Nat → Prop} {d : Nat} {D : Dv}
end
end Go.Proofs.YtbnobjlphmkgeaaDoor
/- The region of diff.Diff that appends a change: in whatever order. -/
namespace Go.Proofs.YtbnobjlphmkgeaaDoor
open Go.RowKit

theorem Row.grown {w w' : World} {e g cap : Nat} {l : Bytes} {r : Option Nat} (h : Row w e g cap l) (hg : w.grownBy w' r) (hr : r ≠ some g) : Row w' e g cap l := by
  obtain ⟨cur, h0, h1⟩ := h
  exact ⟨cur, (hg.block g (Array.getElem?_eq_some_iff.1 h0).1 (fun e => hr e.symm)).trans h0, h1⟩
theorem change_info : (Tryd.prog.info? 98).map (fun i => (i.zero, i.size, i.bytes)) = some (some (.agg #[.int .i64 0, .slice none 0 0, .slice none 0 0]), 3, 56) := by kernel_rfl

/-- the region with a number, in a body -/
def findReg (id : Nat) : Code → Option Code
  | .region i ops d => if i = id then some (.region i ops d) else none
  | .seq a b => match findReg id a with
    | some c => some c
    | none => findReg id b
  | .cond _ a b => match findReg id a with
    | some c => some c
    | none => findReg id b
  | .block _ c => findReg id c
  | .loop c => findReg id c
  | .scope c => findReg id c
  | _ => none
noncomputable def diffReg : Code := ((Tryd.f23.body.bind (findReg 12)).getD .skip)

set_option maxRecDepth 100000 in
set_option maxHeartbeats 1000000 in
theorem diff_region (Q : Exit → Act → World → Prop) (p off q off2 n c d i k : Nat) (v : Value) (m : Nat) (xs : List Value) (base : Nat) (a b : Bytes) (w : World) (u2 u3 u4 u5 u9 u10 u11 u12 u13 u14 u15 u16 u17 u18 u19 u20 u21 u22 u23 u24 u25 u26 u27 u28 u29 u30 u31 u32 u33 u34 u35 u36 u37 u38 u39 u40 u41 u42 u43 u44 u45 u46 u47 u48 u49 u50 u51 u52 u53 u54 u55 u56 u57 u58 u59 u60 u61 u62 u63 : Value)
    (han : a.length = n) (hbn : b.length = n) (ha : Rd w (some ⟨p, off, none⟩) a) (hb : Rd w (some ⟨q, off2, none⟩) b) (hik : i < k) (hkn : k ≤ n) (hn : n ≤ 6400) (hkc : k ≤ c) (hkd : k ≤ d) (hci : ¬ c = i) (hdi : ¬ d = i)
    (hown : w.ownsRow base 98 3 v m xs) (hbase : base ≤ w.heap.size) (hm : m ≤ 100000)
    (h : ∀ v' w' g1 c1 g2 c2 (x46 x47 x48 x49 x50 x51 x52 x53 x54 x55 x56 x57 x58 x59 x60 : Value), w'.ownsRow base 98 3 v' (m + 1) (xs ++ [.int .i64 i, .slice (some ⟨g1, 0, none⟩) (k - i) c1, .slice (some ⟨g2, 0, none⟩) (k - i) c2]) →
      w.heap.size ≤ g1 → w.heap.size ≤ g2 → Row w' 5 g1 c1 ((a.drop i).take (k - i)) → Row w' 5 g2 c2 ((b.drop i).take (k - i)) → w.grownBy w' v.ownBlock → Q .normal ⟨#[.slice (some ⟨p, off, none⟩) n c, .slice (some ⟨q, off2, none⟩) n d, u2, u3, u4, u5, v', .int .i64 i, .int .i64 k, u9, u10, u11, u12, u13, u14, u15, u16, u17, u18, u19, u20, u21, u22, u23, u24, u25, u26, u27, u28, u29, u30, u31, u32, u33, u34, u35, u36, u37, u38, u39, u40, u41, u42, u43, u44, u45, x46, x47, x48, x49, x50, x51, x52, x53, x54, x55, x56, x57, x58, x59, x60, u61, u62, u63], []⟩ w') :
    Code.wp Tryd.prog diffReg Q ⟨#[.slice (some ⟨p, off, none⟩) n c, .slice (some ⟨q, off2, none⟩) n d, u2, u3, u4, u5, v, .int .i64 i, .int .i64 k, u9, u10, u11, u12, u13, u14, u15, u16, u17, u18, u19, u20, u21, u22, u23, u24, u25, u26, u27, u28, u29, u30, u31, u32, u33, u34, u35, u36, u37, u38, u39, u40, u41, u42, u43, u44, u45, u46, u47, u48, u49, u50, u51, u52, u53, u54, u55, u56, u57, u58, u59, u60, u61, u62, u63], []⟩ w := by
  obtain ⟨i0, hi0, hz0, hz1, hz2⟩ := info_parts change_info
  have cA : ∀ W, Below w.heap.size w W → Calls Tryd.prog 50 #[.slice (some ⟨p, off + i, none⟩) (k - i) (c - i)] W fun e w' => ∃ g cap, e = .returned (.slice (some ⟨g, 0, none⟩) (k - i) cap) ∧ W.heap.size ≤ g ∧ Row w' 5 g cap ((a.drop i).take (k - i)) ∧ Below W.heap.size W w' := fun W hW =>
    clone_some _ (k - i) _ ((a.drop i).take (k - i)) W (by simp; omega) (by omega) (by have := (ha.below hW).cut i (k - i) (by omega); simpa [Addr.add_lit] using this)
  have cB : ∀ W, Below w.heap.size w W → Calls Tryd.prog 50 #[.slice (some ⟨q, off2 + i, none⟩) (k - i) (d - i)] W fun e w' => ∃ g cap, e = .returned (.slice (some ⟨g, 0, none⟩) (k - i) cap) ∧ W.heap.size ≤ g ∧ Row w' 5 g cap ((b.drop i).take (k - i)) ∧ Below W.heap.size W w' := fun W hW =>
    clone_some _ (k - i) _ ((b.drop i).take (k - i)) W (by simp; omega) (by omega) (by have := (hb.below hW).cut i (k - i) (by omega); simpa [Addr.add_lit] using this)
  have HA := Hidden.mk cA
  have HB := Hidden.mk cB
  have hik' : i ≤ k := by omega
  clear cA cB ha hb han hbn
  conv => arg 2; whnf
  go_region_held3 (fun _ => True) (first | trivial)
    (first
      | (go_at_call 50; refine (HA.out _ (by exact (Below.refl _ _).drew)).mono ?_; rintro e w1 ⟨g1, cap1, rfl, hg1, hrow1, hb1⟩)
      | (go_at_call 50; refine (HB.out w1 (by exact ((Below.refl _ _).drew).trans hb1)).mono ?_; rintro e w2 ⟨g2, cap2, rfl, hg2, hrow2, hb2⟩; have hB2 : Below w.heap.size w w2 := (((Below.refl _ _).drew).trans hb1).trans (hb2.mono hb1.size))
      | (refine step_append_lies _ (by rfl) _ _ _ (by rfl) base 98 i0 _ 3 56 Tryd.underlying56 hi0 hz0 hz1 hz2 rfl (by omega) v m xs (by rfl) (own_below hown (hB2.alloc hB2.size _))
          ⟨w2.heap.size, 0, none⟩ 1 1 [.int .i64 i, .slice (some ⟨g1, 0, none⟩) (k - i) cap1, .slice (some ⟨g2, 0, none⟩) (k - i) cap2] (by rfl) (by rfl) (World.news_of_block (cs := #[.int .i64 i, .slice (some ⟨g1, 0, none⟩) (k - i) cap1, .slice (some ⟨g2, 0, none⟩) (k - i) cap2]) (t := 98) (fr := (0, 0)) (heap_alloc_new w2 _)) (by simp [Value.oneCell'])
          (by omega) (by simp only [maxLen]; omega) (by omega) (by simp; have := hB2.size; omega) (w2.heap.size + 1) (by simp) ?_; intro gg cap w3 hown3 hgrow hat hlt))
  have hal : Below w2.heap.size w2 (w2.alloc (.cells #[.int .i64 i, .slice (some ⟨g1, 0, none⟩) (k - i) cap1, .slice (some ⟨g2, 0, none⟩) (k - i) cap2] 98)) := (Below.refl _ _).alloc (Nat.le_refl _) _
  have hg1' : w.heap.size ≤ g1 := hg1
  have hg2' : w.heap.size ≤ g2 := Nat.le_trans hb1.size hg2
  have hne1 : v.ownBlock ≠ some g1 := fun e => by have := (hown.lt _ e).2; omega
  have hne2 : v.ownBlock ≠ some g2 := fun e => by have := (hown.lt _ e).2; omega
  refine h _ _ g1 cap1 g2 cap2 _ _ _ _ _ _ _ _ _ _ _ _ _ _ _ hown3 hg1' hg2' (((hrow1.below hb2 hrow1.lt).below hal (Nat.lt_of_lt_of_le hrow1.lt hb2.size)).grown hgrow hne1) ((hrow2.below hal hrow2.lt).grown hgrow hne2) (grown_trans' (hB2.trans (hal.mono hB2.size)) hgrow)
end Go.Proofs.YtbnobjlphmkgeaaDoor
/- The contract of diff.Diff. -/
namespace Go.Proofs.YtbnobjlphmkgeaaDoor
open Go.RowKit

/-- one change, as it lies in a row of the call's own -/
def ChAt (w : World) (base : Nat) (xs : List Value) (i : Nat) (c : Chg) : Prop :=
  ∃ go co gn cn, base ≤ go ∧ base ≤ gn ∧ xs[3 * i]? = some (.int .i64 c.at_) ∧ xs[3 * i + 1]? = some (.slice (some ⟨go, 0, none⟩) c.old.length co) ∧ xs[3 * i + 2]? = some (.slice (some ⟨gn, 0, none⟩) c.new.length cn) ∧
    Row w 5 go co c.old ∧ Row w 5 gn cn c.new
/-- the slice v is the call's own, and has the changes L -/
def OwnC (w : World) (base : Nat) (v : Value) (L : List Chg) : Prop :=
  ∃ xs, w.ownsRow base 98 3 v L.length xs ∧ ∀ i (h : i < L.length), ChAt w base xs i L[i]

theorem own_row_ne {w : World} {base : Nat} {e e' : TypeId} {size : Nat} {v : Value} {n : Nat} {xs : List Value} {g cap : Nat} {l : Bytes} (h : w.ownsRow base e size v n xs) (hr : Row w e' g cap l) (hne : e ≠ e') : v.ownBlock ≠ some g := by
  rcases h.2 with ⟨rfl, _⟩ | ⟨g', cap', cur, rfl, _, hh, _⟩
  · simp [Value.ownBlock]
  · intro he
    have : g' = g := by simpa [Value.ownBlock] using he
    subst this
    obtain ⟨cur', h0, _⟩ := hr
    rw [hh] at h0
    injection h0 with h0
    injection h0 with _ ht
    exact hne ht
theorem OwnC.snoc {w w' : World} {base : Nat} {v v' : Value} {L : List Chg} {xs : List Value} {at_ : Int} {g1 c1 g2 c2 n m : Nat} {old new : Bytes} (h : w.ownsRow base 98 3 v L.length xs) (hat : ∀ i (h : i < L.length), ChAt w base xs i L[i])
    (h' : w'.ownsRow base 98 3 v' (L.length + 1) (xs ++ [.int .i64 at_, .slice (some ⟨g1, 0, none⟩) n c1, .slice (some ⟨g2, 0, none⟩) m c2])) (hg : w.grownBy w' v.ownBlock)
    (hr1 : Row w' 5 g1 c1 old) (hr2 : Row w' 5 g2 c2 new) (ho : old.length = n) (hn : new.length = m) (hb1 : base ≤ g1) (hb2 : base ≤ g2) : OwnC w' base v' (L ++ [⟨at_, old, new⟩]) := by
  subst ho hn
  have hlen : xs.length = L.length * 3 := h.1
  refine ⟨_, by simpa using h', fun i hi => ?_⟩
  rw [List.length_append, List.length_singleton] at hi
  by_cases hlt : i < L.length
  · obtain ⟨go, co, gn, cn, h1, h2, e0, e1, e2, r1, r2⟩ := hat i hlt
    rw [List.getElem_append_left hlt]
    refine ⟨go, co, gn, cn, h1, h2, ?_, ?_, ?_, r1.grown hg (own_row_ne h r1 (by decide)), r2.grown hg (own_row_ne h r2 (by decide))⟩
    · rw [List.getElem?_append_left (by omega)]; exact e0
    · rw [List.getElem?_append_left (by omega)]; exact e1
    · rw [List.getElem?_append_left (by omega)]; exact e2
  · obtain rfl : i = L.length := by omega
    rw [List.getElem_append_right (Nat.le_refl _)]
    refine ⟨g1, c1, g2, c2, hb1, hb2, ?_, ?_, ?_, by simpa using hr1, by simpa using hr2⟩
    · rw [List.getElem?_append_right (by omega), show 3 * L.length - xs.length = 0 from by omega]; simp
    · rw [List.getElem?_append_right (by omega), show 3 * L.length + 1 - xs.length = 1 from by omega]; simp
    · rw [List.getElem?_append_right (by omega), show 3 * L.length + 2 - xs.length = 2 from by omega]; simp

theorem diff_e3 (A B : Option Addr) (n m c d : Nat) (w : World) (h : n ≠ m) :
    Calls Tryd.prog 23 #[.slice A n c, .slice B m d] w fun e w' => e = .returned (.tuple #[.slice none 0 0, .iface 69 (.int .i64 3)]) ∧ w = w' := by
  have h' : ((n : Int) != (m : Int)) = true := by simp; omega
  clear h
  go_enter Tryd.func23, Tryd.ntmps23
  go_wp2
  go_ret2
  exact ⟨rfl, rfl⟩
theorem diff_e4 (A B : Option Addr) (n c d : Nat) (w : World) (h : 6400 < n) :
    Calls Tryd.prog 23 #[.slice A n c, .slice B n d] w fun e w' => e = .returned (.tuple #[.slice none 0 0, .iface 69 (.int .i64 4)]) ∧ w = w' := by
  go_enter Tryd.func23, Tryd.ntmps23
  go_wp2
  go_ret2
  exact ⟨rfl, rfl⟩

set_option maxRecDepth 100000 in
theorem diff_ok (A B : Option Addr) (n c d : Nat) (a b : Bytes) (w : World) (hn : a.length = n) (hm : b.length = n) (hle : n ≤ 6400) (hc : n ≤ c) (hd : n ≤ d) (ha : Rd w A a) (hb : Rd w B b) :
    Calls Tryd.prog 23 #[.slice A n c, .slice B n d] w fun e w' => ∃ v, e = .returned (.tuple #[v, .nilIface]) ∧ OwnC w' w.heap.size v (diffL a b) ∧ Below w.heap.size w w' := by
  subst hn
  obtain ⟨i0, hi0, hz0, hz1, hz2⟩ := info_parts change_info
  go_enter Tryd.func23, Tryd.ntmps23
  go_wp2_with fail
  go_loopw [6, 7] (fun v i wr => ∃ (k : Nat) (L : List Chg), k ≤ a.length + 1 ∧ i = .int .i64 k ∧ Below w.heap.size w wr ∧ OwnC wr w.heap.size v L ∧ L.length ≤ k ∧ Hidden (L ++ diffF a b (a.length - k) k = diffL a b)) (fun _ i _ => a.length + 1 - (intOf i).toNat)
  case atStart => exact ⟨0, [], by omega, rfl, Below.refl _ _, ⟨[], World.ownsRow_nil _ _ _ _, by simp⟩, by simp, ⟨by simp [diffL]⟩⟩
  case round =>
    obtain ⟨i, L, hi, rfl, hbel, hown, hLi, HL⟩ := hrel
    by_cases hlt : i < a.length
    · have hrl := runAt_le a b i hm.symm (by omega)
      have hstep := diffF_step a b i hlt
      obtain ⟨wo, rfl⟩ : ∃ wo : World, wo = wr := ⟨_, rfl⟩
      have ha1 := ha.below hbel
      have hb1 := hb.below hbel
      obtain ⟨p, off, rfl, _⟩ := ha1 i hlt
      obtain ⟨q, off2, rfl, _⟩ := hb1 i (by omega)
      have HS := Hidden.mk hstep
      have HI := Hidden.mk hi
      clear hstep
      go_wp2_with fail
      go_loopw [8] (fun kk w2 => (∃ nq, w2 = wo.drewN nq) ∧ ∃ k : Nat, i ≤ k ∧ k ≤ a.length ∧ kk = .int .i64 k ∧ Hidden (∀ j, i ≤ j → j < k → a[j]? ≠ b[j]?)) (fun kk _ => a.length - (intOf kk).toNat)
      case atStart => exact ⟨⟨0, rfl⟩, i, by omega, by omega, rfl, ⟨fun j h1 h2 => by omega⟩⟩
      case round =>
        obtain ⟨⟨nq, rfl⟩, k, hik, hk, rfl, hne⟩ := hrel
        by_cases hk2 : k < a.length
        · have hcp := ha1.at_ k hk2
          have hcq := hb1.at_ k (by omega)
          by_cases he : a[k] = b[k]
          · have hbq : ((a[k].toNat : Int) != (b[k].toNat : Int)) = false := by simp [he]
            have HR : Hidden (runAt a b i = k - i) := ⟨runAt_at a b i k hm.symm hik hk hne.out (.inr (by rw [List.getElem?_eq_getElem hk2, List.getElem?_eq_getElem (by omega), he]))⟩
            clear hne
            go_wp2_with fail
            go_quiet (fail)
            by_cases hki : i < k
            · obtain ⟨xs, hxs, hat⟩ := hown
              go_wp2_with fail
              refine diff_region _ p off q off2 a.length c d i k u6 L.length xs w.heap.size a b _ _ _ _ _ _ _ _ _ _ _ _ _ _ _ _ _ _ _ _ _ _ _ _ _ _ _ _ _ _ _ _ _ _ _ _ _ _ _ _ _ _ _ _ _ _ _ _ _ _ _ _ _ _ _ _ _ _ _ _ rfl hm ha1 hb1 hki hk hle (by omega) (by omega) (by omega) (by omega) hxs hbel.size (by omega) ?_
              intro v' w3 g1 c1 g2 c2 x46 x47 x48 x49 x50 x51 x52 x53 x54 x55 x56 x57 x58 x59 x60 hown3 hg1 hg2 hrow1 hrow2 hgrow
              have hrun := HR.out
              have hst := HS.out
              rw [hrun, if_pos (by omega), show i + (k - i) + 1 = k + 1 from by omega] at hst
              have HL2 : Hidden ((L ++ [⟨i, (a.drop i).take (k - i), (b.drop i).take (k - i)⟩]) ++ diffF a b (a.length - (k + 1)) (k + 1) = diffL a b) := ⟨by rw [List.append_assoc, ← hst]; exact HL.out⟩
              have hOC : OwnC w3 w.heap.size v' (L ++ [⟨i, (a.drop i).take (k - i), (b.drop i).take (k - i)⟩]) := OwnC.snoc (w := wo.drewN _) hxs hat hown3 hgrow hrow1 hrow2 (by simp; omega) (by simp; omega) (Nat.le_trans hbel.size hg1) (Nat.le_trans hbel.size hg2)
              have hB3 : Below w.heap.size w w3 := hbel.trans ((below_drewN (Below.refl _ _) _).grown hgrow hbel.size (fun q hq => (hxs.lt q hq).1))
              clear hrun hst HR HS HL hgrow hown3
              go_wp2_with fail
              go_roundw
              case rel => exact ⟨k + 1, _, by omega, by go_num, hB3, hOC, by simp; omega, HL2⟩
              case measure => simp [intOf]; omega
            · obtain rfl : k = i := by omega
              have hrun : runAt a b k = 0 := by have := HR.out; omega
              have hst := HS.out
              rw [hrun, if_neg (by omega), show k + 0 + 1 = k + 1 from by omega, List.nil_append] at hst
              have HL2 : Hidden (L ++ diffF a b (a.length - (k + 1)) (k + 1) = diffL a b) := ⟨by rw [← hst]; exact HL.out⟩
              have hOC : ∀ N, OwnC (wo.drewN N) w.heap.size u6 L := fun _ => hown
              clear hrun hst HR HS HL
              go_wp2_with fail
              go_roundw
              case rel => exact ⟨k + 1, L, by omega, by go_num, below_drewN hbel _, hOC _, by omega, HL2⟩
              case measure => simp [intOf]; omega
          · have hbq : ((a[k].toNat : Int) != (b[k].toNat : Int)) = true := by
              simp only [bne_iff_ne, ne_eq]; intro h; apply he; rw [← UInt8.toNat_inj]; omega
            have hnk : Hidden (∀ j, i ≤ j → j < k + 1 → a[j]? ≠ b[j]?) := ⟨fun j h1 h2 => by
              rcases Nat.lt_or_ge j k with h | h
              · exact hne.out j h1 h
              · obtain rfl : j = k := by omega
                rw [List.getElem?_eq_getElem hk2, List.getElem?_eq_getElem (by omega)]
                simpa using he⟩
            clear he hne
            go_wp2_with fail
            go_quiet (fail)
            go_wp2_with fail
            go_roundw
            case rel => exact ⟨⟨_, rfl⟩, k + 1, by omega, by omega, by go_num, hnk⟩
            case measure => simp [intOf]; omega
        · have hk2' : decide ((k : Int) < a.length) = false := by simp; omega
          have HR : Hidden (runAt a b i = k - i) := ⟨runAt_at a b i k hm.symm hik hk hne.out (.inl (by omega))⟩
          clear hne
          go_wp2_with fail
          go_quiet (fail)
          by_cases hki : i < k
          · obtain ⟨xs, hxs, hat⟩ := hown
            go_wp2_with fail
            refine diff_region _ p off q off2 a.length c d i k u6 L.length xs w.heap.size a b _ _ _ _ _ _ _ _ _ _ _ _ _ _ _ _ _ _ _ _ _ _ _ _ _ _ _ _ _ _ _ _ _ _ _ _ _ _ _ _ _ _ _ _ _ _ _ _ _ _ _ _ _ _ _ _ _ _ _ _ rfl hm ha1 hb1 hki hk hle (by omega) (by omega) (by omega) (by omega) hxs hbel.size (by omega) ?_
            intro v' w3 g1 c1 g2 c2 x46 x47 x48 x49 x50 x51 x52 x53 x54 x55 x56 x57 x58 x59 x60 hown3 hg1 hg2 hrow1 hrow2 hgrow
            have hrun := HR.out
            have hst := HS.out
            rw [hrun, if_pos (by omega), show i + (k - i) + 1 = k + 1 from by omega] at hst
            have HL2 : Hidden ((L ++ [⟨i, (a.drop i).take (k - i), (b.drop i).take (k - i)⟩]) ++ diffF a b (a.length - (k + 1)) (k + 1) = diffL a b) := ⟨by rw [List.append_assoc, ← hst]; exact HL.out⟩
            have hOC : OwnC w3 w.heap.size v' (L ++ [⟨i, (a.drop i).take (k - i), (b.drop i).take (k - i)⟩]) := OwnC.snoc (w := wo.drewN _) hxs hat hown3 hgrow hrow1 hrow2 (by simp; omega) (by simp; omega) (Nat.le_trans hbel.size hg1) (Nat.le_trans hbel.size hg2)
            have hB3 : Below w.heap.size w w3 := hbel.trans ((below_drewN (Below.refl _ _) _).grown hgrow hbel.size (fun q hq => (hxs.lt q hq).1))
            clear hrun hst HR HS HL hgrow hown3
            go_wp2_with fail
            go_roundw
            case rel => exact ⟨k + 1, _, by omega, by go_num, hB3, hOC, by simp; omega, HL2⟩
            case measure => simp [intOf]; omega
          · obtain rfl : k = i := by omega
            have hrun : runAt a b k = 0 := by have := HR.out; omega
            have hst := HS.out
            rw [hrun, if_neg (by omega), show k + 0 + 1 = k + 1 from by omega, List.nil_append] at hst
            have HL2 : Hidden (L ++ diffF a b (a.length - (k + 1)) (k + 1) = diffL a b) := ⟨by rw [← hst]; exact HL.out⟩
            have hOC : ∀ N, OwnC (wo.drewN N) w.heap.size u6 L := fun _ => hown
            clear hrun hst HR HS HL
            go_wp2_with fail
            go_roundw
            case rel => exact ⟨k + 1, L, by omega, by go_num, below_drewN hbel _, hOC _, by omega, HL2⟩
            case measure => simp [intOf]; omega
    · go_wp2_with fail
      go_ret2
      have hfin : Hidden (L = diffL a b) := ⟨by
        have := HL.out
        rw [show a.length - i = 0 from by omega] at this
        simpa [diffF] using this⟩
      exact ⟨_, rfl, by rw [← hfin.out]; exact hown, hbel⟩
end Go.Proofs.YtbnobjlphmkgeaaDoor
/- Reading what diff.Diff gave. -/
namespace Go.Proofs.YtbnobjlphmkgeaaDoor
open Go.RowKit

/-- the cells of one change of a slice that lies at A -/
structure ChCells (w : World) (g off i : Nat) (c : Chg) (go co gn cn : Nat) : Prop where
  at_ : w.cell? ⟨g, off + i * 3, none⟩ = some (.int .i64 c.at_)
  old : w.cell? ⟨g, off + i * 3 + 1, none⟩ = some (.slice (some ⟨go, 0, none⟩) c.old.length co)
  new : w.cell? ⟨g, off + i * 3 + 2, none⟩ = some (.slice (some ⟨gn, 0, none⟩) c.new.length cn)
  rowO : Row w 5 go co c.old
  rowN : Row w 5 gn cn c.new
/-- the slice at A has the changes L -/
def RdC (w : World) (A : Option Addr) (L : List Chg) : Prop := ∀ i (h : i < L.length), ∃ g off go co gn cn, A = some ⟨g, off, none⟩ ∧ ChCells w g off i L[i] go co gn cn
theorem OwnC.rd {w : World} {base : Nat} {v : Value} {L : List Chg} (h : OwnC w base v L) : ∃ A c, v = .slice A L.length c ∧ L.length ≤ c ∧ c ≤ maxLen ∧ RdC w A L := by
  obtain ⟨xs, hown, hat⟩ := h
  rcases hown.2 with ⟨rfl, h0⟩ | ⟨g, cap, cur, rfl, _, hh, hc, hm, hz, ht⟩
  · rw [h0]
    exact ⟨none, 0, rfl, by omega, by simp, fun i hi => by omega⟩
  · refine ⟨_, cap, rfl, hc, hm, fun i hi => ?_⟩
    obtain ⟨go, co, gn, cn, _, _, e0, e1, e2, r1, r2⟩ := hat i hi
    have hcell : ∀ j u, xs[j]? = some u → w.cell? ⟨g, 0 + j, none⟩ = some u := fun j u hu => by
      have := hown.cells (g := g) rfl j u hu
      rw [Addr.add_lit] at this
      exact this
    rw [Nat.mul_comm 3 i] at e0 e1 e2
    exact ⟨g, 0, go, co, gn, cn, rfl, hcell _ _ e0, (Nat.add_assoc 0 (i * 3) 1) ▸ hcell _ _ e1, (Nat.add_assoc 0 (i * 3) 2) ▸ hcell _ _ e2, r1, r2⟩
theorem ChCells.below {w w' : World} {g off i : Nat} {c : Chg} {go co gn cn : Nat} (h : ChCells w g off i c go co gn cn) (hb : Below w.heap.size w w') : ChCells w' g off i c go co gn cn :=
  ⟨(hb.cell (block_lt_of_cell h.at_)).trans h.at_, (hb.cell (block_lt_of_cell h.old)).trans h.old, (hb.cell (block_lt_of_cell h.new)).trans h.new, h.rowO.below hb h.rowO.lt, h.rowN.below hb h.rowN.lt⟩
theorem RdC.below {w w' : World} {A : Option Addr} {L : List Chg} (h : RdC w A L) (hb : Below w.heap.size w w') : RdC w' A L := fun i hi => by
  obtain ⟨g, off, go, co, gn, cn, hA, hc⟩ := h i hi
  exact ⟨g, off, go, co, gn, cn, hA, hc.below hb⟩
end Go.Proofs.YtbnobjlphmkgeaaDoor
/- The contract of diff.Apply. -/
namespace Go.Proofs.YtbnobjlphmkgeaaDoor
open Go.RowKit

/-- the cells of one change, wherever its bytes lie -/
structure ChAny (w : World) (g off i : Nat) (c : Chg) (Ao An : Option Addr) (co cn : Nat) : Prop where
  at_ : w.cell? ⟨g, off + i * 3, none⟩ = some (.int .i64 c.at_)
  old : w.cell? ⟨g, off + i * 3 + 1, none⟩ = some (.slice Ao c.old.length co)
  new : w.cell? ⟨g, off + i * 3 + 2, none⟩ = some (.slice An c.new.length cn)
  rdO : Rd w Ao c.old
  rdN : Rd w An c.new
  leO : c.old.length ≤ co
  leN : c.new.length ≤ cn
/-- the slice at A has the changes L, wherever their bytes lie -/
def RdG (w : World) (A : Option Addr) (L : List Chg) : Prop := ∀ i (h : i < L.length), ∃ g off Ao An co cn, A = some ⟨g, off, none⟩ ∧ ChAny w g off i L[i] Ao An co cn
theorem RdC.rdg {w : World} {A : Option Addr} {L : List Chg} (h : RdC w A L) : RdG w A L := fun i hi => by
  obtain ⟨g, off, go, co, gn, cn, hA, hc⟩ := h i hi
  exact ⟨g, off, _, _, co, cn, hA, hc.at_, hc.old, hc.new, hc.rowO.rd, hc.rowN.rd, hc.rowO.le.1, hc.rowN.le.1⟩
theorem ChAny.below {w w' : World} {g off i : Nat} {c : Chg} {Ao An : Option Addr} {co cn : Nat} (h : ChAny w g off i c Ao An co cn) (hb : Below w.heap.size w w') : ChAny w' g off i c Ao An co cn :=
  ⟨(hb.cell (block_lt_of_cell h.at_)).trans h.at_, (hb.cell (block_lt_of_cell h.old)).trans h.old, (hb.cell (block_lt_of_cell h.new)).trans h.new, h.rdO.below hb, h.rdN.below hb, h.leO, h.leN⟩
theorem RdG.below {w w' : World} {A : Option Addr} {L : List Chg} (h : RdG w A L) (hb : Below w.heap.size w w') : RdG w' A L := fun i hi => by
  obtain ⟨g, off, Ao, An, co, cn, hA, hc⟩ := h i hi
  exact ⟨g, off, Ao, An, co, cn, hA, hc.below hb⟩

/-- b[i:k] of bytes, wherever i stands -/
theorem run_cut_any (A : Option Addr) (n c i k : Nat) (hik : i ≤ k) (hkc : k ≤ c) (W : World) :
    (Instr.sliceAt 41 (.slice A n c) (some (.int .i64 i)) (some (.int .i64 k)) none).run Tryd.prog W = .ok (.slice (if c = i then A else A.map (·.add i)) (k - i) (c - i)) W := by
  obtain ⟨i0, hi0, hz0, hz1, hz2⟩ := info_parts byte_info
  simp [Instr.sliceAt, Instr.slice, Instr.sliceBounds, Instr.sliceBound, run_underlying Tryd.underlying41, asIntOf, sizeOf, typeInfo, hi0, hz1, hik, hkc]
/-- b[i:] of bytes -/
theorem run_tail_any (A : Option Addr) (n c i : Nat) (hin : i ≤ n) (W : World) :
    (Instr.sliceAt 41 (.slice A n c) (some (.int .i64 i)) none none).run Tryd.prog W = .ok (.slice (if c = i then A else A.map (·.add i)) (n - i) (c - i)) W := by
  obtain ⟨i0, hi0, hz0, hz1, hz2⟩ := info_parts byte_info
  simp [Instr.sliceAt, Instr.slice, Instr.sliceBounds, Instr.sliceBound, run_underlying Tryd.underlying41, asIntOf, sizeOf, typeInfo, hi0, hz1, hin]

theorem apply_e4 (A B : Option Addr) (n m c d : Nat) (w : World) (h : 200 < m) :
    Calls Tryd.prog 26 #[.slice A n c, .slice B m d] w fun e w' => e = .returned (.tuple #[.slice none 0 0, .iface 69 (.int .i64 4)]) ∧ w = w' := by
  go_enter Tryd.func26, Tryd.ntmps26
  go_wp2
  go_ret2
  exact ⟨rfl, rfl⟩

set_option maxRecDepth 100000 in
theorem apply_some (ad : Addr) (n c : Nat) (b : Bytes) (LA : Option Addr) (m d : Nat) (L : List Chg) (w : World) (hn : b.length = n) (hnl : n ≤ 140737488351232) (hb : Rd w (some ad) b) (hm : L.length = m) (hm2 : m ≤ 200) (hmd : m ≤ d) (hL : RdG w LA L) :
    Calls Tryd.prog 26 #[.slice (some ad) n c, .slice LA m d] w fun e w' => Below w.heap.size w w' ∧ ((∃ x, applyL b L = .error x ∧ e = .returned (.tuple #[.slice none 0 0, .iface 69 (.int .i64 x)])) ∨
      ∃ b' g cap, applyL b L = .ok b' ∧ e = .returned (.tuple #[.slice (some ⟨g, 0, none⟩) n cap, .nilIface]) ∧ w.heap.size ≤ g ∧ b'.length = n ∧ Row w' 5 g cap b') := by
  subst hn hm
  go_enter Tryd.func26, Tryd.ntmps26
  go_wp2_with fail
  refine (clone_some ad b.length c b _ rfl hnl hb).mono ?_
  rintro e w1 ⟨g, cap, rfl, hg, hrow1, hb1⟩
  have hcap := hrow1.le.1
  go_wp2_with fail
  go_loopw [17] (fun kv wr => ∃ (k : Nat) (cur : Bytes), kv = .int .i64 k ∧ k ≤ L.length ∧ cur.length = b.length ∧ Below w.heap.size w wr ∧ Row wr 5 g cap cur ∧ Hidden (applyL cur (L.drop k) = applyL b L)) (fun kv _ => L.length - (intOf kv).toNat)
  case atStart => exact ⟨0, b, rfl, Nat.zero_le _, rfl, hb1, hrow1, ⟨by simp⟩⟩
  case round =>
    obtain ⟨k, cur, rfl, hk, hcl, hbel, hrow, HL⟩ := hrel
    by_cases hlt : k < L.length
    · have HD : Hidden (applyL b L = match apply1 cur L[k] with | .error e => .error e | .ok b' => applyL b' (L.drop (k + 1))) := ⟨by
        rw [← HL.out, List.drop_eq_getElem_cons hlt]; rfl⟩
      clear HL
      obtain ⟨gl, off, Ao, An, co, cn, rfl, hc⟩ := (hL.below hbel) k hlt
      have k0 : (0 : Int) ≤ k := by omega
      have k1 : (k : Int) < L.length := by omega
      obtain ⟨a1, a2, a3, rO, rN, lO, lN⟩ := hc
      generalize L[k] = ch at *
      obtain ⟨at_, old, new⟩ := ch
      dsimp only at a1 a2 a3 rO rN lO lN HD
      generalize ho : old.length = no at *
      generalize hnw : new.length = nn at *
      have hgl : g < wr.heap.size := hrow.lt
      by_cases h1 : at_ < 0
      · have HE : Hidden (applyL b L = .error 1) := ⟨by rw [HD.out]; simp [apply1, h1]⟩
        clear HD
        go_wp2_with fail
        go_ret2
        exact ⟨hbel.alloc hbel.size _, .inl ⟨1, HE.out, rfl⟩⟩
      · obtain ⟨j, rfl⟩ := Int.eq_ofNat_of_zero_le (show 0 ≤ at_ by omega)
        by_cases h2 : b.length < j
        · have HE : Hidden (applyL b L = .error 1) := ⟨by rw [HD.out]; unfold apply1; rw [if_pos (by dsimp only; omega)]⟩
          clear HD
          go_wp2_with fail
          go_ret2
          exact ⟨hbel.alloc hbel.size _, .inl ⟨1, HE.out, rfl⟩⟩
        · have s1 : IntKind.i64.wrap ((b.length : Int) - j) = (b.length : Int) - j := IntWalk.i64_in _ (by omega)
          by_cases h3 : b.length - j < no
          · have HE : Hidden (applyL b L = .error 1) := ⟨by rw [HD.out]; unfold apply1; rw [if_pos (by dsimp only; omega)]⟩
            clear HD
            go_wp2_with fail
            go_ret2
            exact ⟨hbel.alloc hbel.size _, .inl ⟨1, HE.out, rfl⟩⟩
          · by_cases h4 : no = nn
            · subst h4
              have t1 : decide ((b.length : Int) < j) = false := by simp; omega
              have t2 : decide ((b.length : Int) - j < no) = false := by simp; omega
              have s2 : IntKind.i64.wrap ((j : Int) + no) = (j : Int) + no := IntWalk.i64_in _ (by omega)
              have hcl2 : ((cur.drop j).take no).length = no := by simp; omega
              obtain ⟨A', hA'⟩ : ∃ A' : Option Addr, A' = (if cap = j then some ⟨g, 0, none⟩ else (some (⟨g, 0, none⟩ : Addr)).map (·.add j)) := ⟨_, rfl⟩
              have hcut := run_cut_any (some ⟨g, 0, none⟩) b.length cap j (j + no) (by omega) (by omega)
              have htl := run_tail_any (some ⟨g, 0, none⟩) b.length cap j (by omega)
              rw [Nat.add_sub_cancel_left, Int.natCast_add, ← hA'] at hcut
              rw [← hA'] at htl
              have hBX : Below wr.heap.size wr (wr.alloc (.cells #[.int .i64 j, .slice Ao no co, .slice An no cn] 98)) := (Below.refl _ _).alloc (Nat.le_refl _) _
              have hrdc : Rd wr A' ((cur.drop j).take no) := by
                have := hrow.rd.cutIf j no cap (by omega) (by omega)
                rw [hA']; exact this
              have hrx := hrdc.below hBX
              have rOx := rO.below hBX
              have rNx := rN.below hBX
              have hrowx := hrow.below hBX hgl
              have hbx : Below w.heap.size w (wr.alloc (.cells #[.int .i64 j, .slice Ao no co, .slice An no cn] 98)) := hbel.alloc hbel.size _
              have hc0 : (wr.alloc (.cells #[.int .i64 j, .slice Ao no co, .slice An no cn] 98)).cell? ⟨wr.heap.size, 0, none⟩ = some (.int .i64 j) := by simp
              have hc1 : (wr.alloc (.cells #[.int .i64 j, .slice Ao no co, .slice An no cn] 98)).cell? ⟨wr.heap.size, 1, none⟩ = some (.slice Ao no co) := by simp
              have hc2 : (wr.alloc (.cells #[.int .i64 j, .slice Ao no co, .slice An no cn] 98)).cell? ⟨wr.heap.size, 2, none⟩ = some (.slice An no cn) := by simp
              have HA' := Hidden.mk hA'
              clear hA' hrdc hBX
              go_wp2_with fail
              generalize wr.alloc (.cells #[.int .i64 j, .slice Ao no co, .slice An no cn] 98) = w2 at *
              obtain ⟨q, hq⟩ : ∃ q : Bool, ((cur.drop j).take no == old) = q := ⟨_, rfl⟩
              have HQ := Hidden.mk hq
              clear hq
              go_quiet ((go_at_call 51; refine Calls.quiet_of_same (v := .bool q) ((equal_any A' Ao no no _ _ ((cur.drop j).take no) old _ hcl2 ho (hrx.drewN _) (rOx.drewN _)).mono ?_); rintro e w' ⟨rfl, rfl⟩; exact ⟨by rw [HQ.out], rfl⟩))
              cases q with
              | true =>
                have h5 : (cur.drop j).take no = old := by simpa using HQ.out
                have HE : Hidden (applyL b L = applyL (splice cur j new) (L.drop (k + 1))) := ⟨by
                  rw [HD.out]; unfold apply1
                  rw [if_neg (by dsimp only; omega), if_neg (by dsimp only; omega), if_neg (by dsimp only; rw [ho, Int.toNat_natCast]; simpa using h5)]
                  simp⟩
                clear HD h5 HQ
                go_wp2_with fail
                have hrow3 : Row (w2.drewN nq) 5 g cap cur := hrowx
                have rN3 : Rd (w2.drewN nq) An new := rNx
                have hd0 : (w2.drewN nq).cell? ⟨wr.heap.size, 0, none⟩ = some (.int .i64 j) := hc0
                have hd2 : (w2.drewN nq).cell? ⟨wr.heap.size, 2, none⟩ = some (.slice An no cn) := hc2
                have hb3 : Below w.heap.size w (w2.drewN nq) := below_drewN hbx nq
                clear hc0 hc1 hc2 hbx hrowx rNx rOx hrx
                generalize w2.drewN nq = w3 at *
                obtain ⟨cur0, hcur, _, _, hcs, _⟩ := id hrow3
                have hrow4 := hrow3.set_ j new (by omega) cur0 hcur
                have hB4 : Below w.heap.size w (w3.setRow g (setB cur0 j (new.map bv))) := below_setRow hb3 hg _
                have hcopy : ∀ ty, (Builtin.copy_ #[41, 41] ty #[.slice A' (b.length - j) (cap - j), .slice An no cn]).run Tryd.prog w3.drew = .ok (.int .i64 (no : Int)) ((w3.setRow g (setB cur0 j (new.map bv))).drew) := fun ty => by
                  have hmin : no = Nat.min no (b.length - j) := (Nat.min_eq_left (by omega)).symm
                  by_cases hcj : cap = j
                  · have h0 : no = 0 := by omega
                    rw [HA'.out, if_pos hcj]
                    have := run_copy_rd w3.drew g 0 (b.length - j) (cap - j) no cn no An new cur0 5 hcur hnw rN3 hmin (by omega) ty
                    rw [List.take_of_length_le (by omega)] at this
                    have hnil : new = [] := List.eq_nil_of_length_eq_zero (by omega)
                    rw [hnil] at this ⊢
                    simp only [List.map_nil, setB_nil] at this ⊢
                    exact this
                  · rw [HA'.out, if_neg hcj]
                    have := run_copy_rd w3.drew g j (b.length - j) (cap - j) no cn no An new cur0 5 hcur hnw rN3 hmin (by omega) ty
                    rw [List.take_of_length_le (by omega)] at this
                    simp only [Option.map_some, Addr.add_lit, Nat.zero_add]
                    exact this
                have hsl : (splice cur j new).length = b.length := by rw [splice_len _ _ _ (by omega), hcl]
                generalize w3.setRow g (setB cur0 j (new.map bv)) = w4 at *
                clear hcur hcs hrow3
                go_region
                go_wp2_with fail
                go_roundw
                case rel => exact ⟨k + 1, _, by go_num, by omega, hsl, hB4.drew, hrow4, ⟨HE.out.symm⟩⟩
                case measure => simp [intOf]; omega
              | false =>
                have h5 : ¬ (cur.drop j).take no = old := by simpa using HQ.out
                have HE : Hidden (applyL b L = .error 6) := ⟨by
                  rw [HD.out]; unfold apply1
                  rw [if_neg (by dsimp only; omega), if_neg (by dsimp only; omega), if_pos (by dsimp only; rw [ho, Int.toNat_natCast]; exact h5)]⟩
                clear HD h5 HQ
                go_wp2_with fail
                go_ret2
                exact ⟨below_drewN hbx _, .inl ⟨6, HE.out, rfl⟩⟩
            · have HE : Hidden (applyL b L = .error 3) := ⟨by rw [HD.out]; unfold apply1; rw [if_neg (by dsimp only; omega), if_pos (by dsimp only; omega)]⟩
              have t3 : ((no : Int) != (nn : Int)) = true := by simp; omega
              clear HD
              go_wp2_with fail
              go_ret2
              exact ⟨hbel.alloc hbel.size _, .inl ⟨3, HE.out, rfl⟩⟩
    · go_wp2_with fail
      go_ret2
      have hfin := HL.out
      rw [show L.drop k = [] from by simp; omega] at hfin
      exact ⟨hbel, .inr ⟨cur, g, cap, hfin.symm, rfl, hg, hcl, hrow⟩⟩
end Go.Proofs.YtbnobjlphmkgeaaDoor
/- diff.Apply of whatever, in one form. -/
namespace Go.Proofs.YtbnobjlphmkgeaaDoor
open Go.RowKit

set_option maxRecDepth 100000 in
theorem papply_none (c : Nat) (LA : Option Addr) (m d : Nat) (L : List Chg) (w : World) (hm : L.length = m) (hm2 : m ≤ 200) (hL : RdG w LA L) :
    Calls Tryd.prog 26 #[.slice none 0 c, .slice LA m d] w (SlAns w (apB [] L) (apN [] L)) := by
  have HM := Hidden.mk hm
  have HL := Hidden.mk hL
  have HBAD : Hidden (∀ (x : Nat) (W : World), applyL [] L = .error (x : Int) → Below w.heap.size w W → SlAns w (apB [] L) (apN [] L) (.returned (.tuple #[.slice none 0 0, .iface 69 (.int .i64 (x : Int))])) W) := ⟨fun x W h hW => by
    obtain ⟨h1, h2, h3⟩ := ap_bad (by omega) h
    rw [h3]
    exact ⟨none, 0, by rw [errV_pos h2, h1]; rfl, Nat.le_refl _, Rd.nil_, (fun ad e => by cases e), hW⟩⟩
  have HOK : Hidden (∀ W : World, applyL [] L = .ok [] → Below w.heap.size w W → SlAns w (apB [] L) (apN [] L) (.returned (.tuple #[.slice none 0 0, .nilIface])) W) := ⟨fun W h hW => by
    obtain ⟨h1, h2⟩ := ap_ok (b := []) (L := L) (by omega) h
    rw [h1, h2]
    exact ⟨none, 0, rfl, Nat.le_refl _, Rd.nil_, (fun ad e => by cases e), hW⟩⟩
  have HST : Hidden (∀ k (hk : k < L.length), applyL [] (L.drop k) = applyL [] L → applyL [] L = match apply1 [] L[k] with | .error e => .error e | .ok b' => applyL b' (L.drop (k + 1))) := ⟨fun k hk h => applyL_step hk h⟩
  generalize apB [] L = XB at *
  generalize apN [] L = XN at *
  clear hm hL
  have t0 : decide (200 < m) = false := by simp; omega
  have t0' : decide (200 < (m : Int)) = false := by simp; omega
  go_enter Tryd.func26, Tryd.ntmps26
  go_wp2_with fail
  refine (clone_nil 0 c _).mono ?_
  rintro e w1 ⟨rfl, rfl⟩
  go_wp2_with fail
  clear t0 t0'
  go_loopg [17] m (fun r kv wr => ∃ k : Nat, k ≤ m ∧ r = m - k ∧ kv = .int .i64 (k : Int) ∧ Hidden (Below w.heap.size w wr ∧ applyL [] (L.drop k) = applyL [] L))
  case atStart => exact ⟨0, by omega, rfl, rfl, ⟨Below.refl _ _, by rw [List.drop_zero]⟩⟩
  case round =>
    obtain ⟨k, hk, rfl, rfl, hs⟩ := hrel
    have HS := Hidden.mk hs.out
    clear hs
    by_cases hlt : k < m
    · have hkl : k < L.length := by rw [HM.out]; exact hlt
      have HD := Hidden.mk (HST.out k hkl HS.out.2)
      have s0 : IntKind.i64.wrap ((k : Int) + 1) = (k : Int) + 1 := IntWalk.i64_in _ (by omega)
      obtain ⟨gl, off, Ao, An, co, cn, rfl, hc⟩ := (HL.out.below HS.out.1) k hkl
      have k0 : (0 : Int) ≤ k := by omega
      have k1 : (k : Int) < m := by omega
      obtain ⟨a1, a2, a3, rO, rN, lO, lN⟩ := hc
      generalize L[k] = ch at *
      obtain ⟨at_, old, new⟩ := ch
      dsimp only at a1 a2 a3 rO rN lO lN HD
      generalize ho : old.length = no at *
      generalize hnw : new.length = nn at *
      have hBX := Hidden.mk (HS.out.1.alloc HS.out.1.size (.cells #[.int .i64 at_, .slice Ao no co, .slice An nn cn] 98))
      by_cases h1 : at_ < 0
      · have HE : Hidden (applyL [] L = .error ((1 : Nat) : Int)) := ⟨by rw [HD.out]; unfold apply1; rw [if_pos (.inl h1)]; rfl⟩
        have d1 : decide (at_ < 0) = true := by simpa using h1
        clear HD h1
        go_wp2_with fail
        go_ret2
        exact HBAD.out 1 _ HE.out hBX.out
      have d1 : decide (at_ < 0) = false := by simpa using h1
      by_cases h2 : 0 < at_
      · have HE : Hidden (applyL [] L = .error ((1 : Nat) : Int)) := ⟨by rw [HD.out]; unfold apply1; rw [if_pos (.inr (.inl h2))]; rfl⟩
        have d2 : decide (0 < at_) = true := by simpa using h2
        clear HD h1 h2
        go_wp2_with fail
        go_ret2
        exact HBAD.out 1 _ HE.out hBX.out
      obtain rfl : at_ = 0 := by omega
      clear h1 h2 d1
      by_cases h3 : 0 < no
      · have HE : Hidden (applyL [] L = .error ((1 : Nat) : Int)) := ⟨by rw [HD.out]; unfold apply1; rw [if_pos (.inr (.inr (by dsimp only; rw [ho]; simp; omega)))]; rfl⟩
        have d3 : decide (0 < no) = true := by simpa using h3
        have d3' : decide (0 < (no : Int)) = true := by simpa using h3
        clear HD h3
        go_wp2_with fail
        go_ret2
        exact HBAD.out 1 _ HE.out hBX.out
      obtain rfl : no = 0 := by omega
      obtain rfl : old = [] := List.eq_nil_of_length_eq_zero ho
      clear h3
      by_cases h4 : 0 < nn
      · have HE : Hidden (applyL [] L = .error ((3 : Nat) : Int)) := ⟨by rw [HD.out]; unfold apply1; rw [if_neg (by dsimp only; simp), if_pos (by dsimp only; rw [hnw]; simp; omega)]; rfl⟩
        have d4 : ((0 : Int) != (nn : Int)) = true := by simp; omega
        clear HD h4
        go_wp2_with fail
        go_ret2
        exact HBAD.out 3 _ HE.out hBX.out
      obtain rfl : nn = 0 := by omega
      obtain rfl : new = [] := List.eq_nil_of_length_eq_zero hnw
      have HN : Hidden (applyL [] (L.drop (k + 1)) = applyL [] L) := ⟨by rw [HD.out]; rfl⟩
      clear HD h4 ho hnw
      have hcut := run_cut_any none 0 0 0 0 (by omega) (by omega)
      have htl := run_tail_any none 0 0 0 (by omega)
      have hc0 : (wr.alloc (.cells #[.int .i64 0, .slice Ao 0 co, .slice An 0 cn] 98)).cell? ⟨wr.heap.size, 0, none⟩ = some (.int .i64 0) := by simp
      have hc1 : (wr.alloc (.cells #[.int .i64 0, .slice Ao 0 co, .slice An 0 cn] 98)).cell? ⟨wr.heap.size, 1, none⟩ = some (.slice Ao 0 co) := by simp
      have hc2 : (wr.alloc (.cells #[.int .i64 0, .slice Ao 0 co, .slice An 0 cn] 98)).cell? ⟨wr.heap.size, 2, none⟩ = some (.slice An 0 cn) := by simp
      go_wp2_with fail
      generalize wr.alloc (.cells #[.int .i64 0, .slice Ao 0 co, .slice An 0 cn] 98) = w2 at *
      have hcopy : ∀ ty W, (Builtin.copy_ #[41, 41] ty #[.slice none 0 0, .slice An 0 cn]).run Tryd.prog W = .ok (.int .i64 0) W := fun ty W => by
        obtain ⟨i0, hi0, hz0, hz1, hz2⟩ := info_parts byte_info
        rcases An with _ | ad <;> simp [Builtin.copy_, run_underlying Tryd.underlying41, Builtin.lenOf, Builtin.firstCells, sizeOf, typeInfo, hi0, goInt, loadCells, loadCellsFrom]
      go_quiet ((go_at_call 51; refine Calls.quiet_of_same (v := .bool true) ((equal_any none Ao 0 0 _ _ [] [] _ rfl rfl Rd.nil_ Rd.nil_).mono ?_); rintro e w' ⟨rfl, rfl⟩; exact ⟨rfl, rfl⟩))
      have hd0 : (w2.drewN nq).cell? ⟨wr.heap.size, 0, none⟩ = some (.int .i64 0) := hc0
      have hd2 : (w2.drewN nq).cell? ⟨wr.heap.size, 2, none⟩ = some (.slice An 0 cn) := hc2
      have HB3 : Hidden (Below w.heap.size w (w2.drewN nq)) := ⟨below_drewN hBX.out nq⟩
      clear hc0 hc1 hc2 hBX
      go_wp2_with fail
      generalize w2.drewN nq = w3 at *
      go_region
      have HN3 := Hidden.mk (And.intro HB3.out.drew HN.out)
      go_wp2_with fail
      go_roundg (m - (k + 1))
      case measure => omega
      case rel => exact ⟨k + 1, by omega, rfl, by go_num, HN3⟩
    · obtain rfl : k = m := by omega
      have HE : Hidden (applyL [] L = .ok []) := ⟨by
        have := HS.out.2
        rw [List.drop_eq_nil_of_le (by rw [HM.out]; exact Nat.le_refl _)] at this
        exact this.symm⟩
      have t4 : decide ((k : Int) < k) = false := by simp
      go_wp2_with fail
      go_ret2
      exact HOK.out _ HE.out HS.out.1
theorem papply_any (A : Option Addr) (n c : Nat) (b : Bytes) (LA : Option Addr) (m d : Nat) (L : List Chg) (w : World) (hn : b.length = n) (hnl : n ≤ 140737488351232) (hb : Rd w A b) (hm : L.length = m) (hmd : m ≤ d) (hL : RdG w LA L) :
    Calls Tryd.prog 26 #[.slice A n c, .slice LA m d] w (SlAns w (apB b L) (apN b L)) := by
  by_cases h2 : 200 < m
  · obtain ⟨h3, h4⟩ := ap_long (b := b) (L := L) (by omega)
    rw [h3, h4]
    exact (apply_e4 A LA n m c d w h2).mono fun e w' ⟨h, h'⟩ => by subst h'; exact SlAns.none_ h
  rcases A with _ | ad
  · have hb0 : b = [] := by
      cases b with
      | nil => rfl
      | cons x r => obtain ⟨q, off, h, _⟩ := hb 0 (by simp); cases h
    subst hb0
    subst hn
    exact papply_none c LA m d L w hm (by omega) hL
  · refine (apply_some ad n c b LA m d L w hn hnl hb hm (by omega) hmd hL).mono ?_
    rintro e w' ⟨hbel, ⟨x, hx, rfl⟩ | ⟨b', g, cap, hx, rfl, hg, hl, hrow⟩⟩
    · obtain ⟨h1, h3, h4⟩ := ap_bad (by omega) hx
      rw [h4]
      exact ⟨none, 0, by rw [errV_pos h3, h1]; rfl, Nat.le_refl _, Rd.nil_, (fun ad e => by cases e), hbel⟩
    · obtain ⟨h1, h3⟩ := ap_ok (by omega) hx
      rw [h1, h3]
      exact ⟨some ⟨g, 0, none⟩, cap, by rw [hl]; rfl, by have := hrow.le.1; omega, hrow.rd, (fun ad e => by obtain rfl := Option.some.inj e; exact hg), hbel⟩
end Go.Proofs.YtbnobjlphmkgeaaDoor
/- The contract of the reference's Make. -/
namespace Go.Proofs.YtbnobjlphmkgeaaDoor
open Go.RowKit

theorem splice_take_succ (z b : Bytes) (o k : Nat) (hk : k < b.length) (hz : o + b.length ≤ z.length) : (splice z o (b.take k)).set (o + k) b[k] = splice z o (b.take (k + 1)) := by
  have h1 : (b.take k).length = k := by simp; omega
  have h2 : (b.take (k + 1)).length = k + 1 := by simp; omega
  apply List.ext_getElem?
  intro p
  rw [List.getElem?_set, splice_len _ _ _ (by omega), splice_rd _ _ _ _ (by omega), splice_rd _ _ _ _ (by omega), h1, h2]
  by_cases a : o + k = p
  · subst a
    rw [if_pos rfl, if_pos (by omega), if_pos (by omega), Nat.add_sub_cancel_left, List.getElem?_take, if_pos (by omega), List.getElem?_eq_getElem hk]
  · rw [if_neg a]
    by_cases c : o ≤ p ∧ p < o + k
    · rw [if_pos c, if_pos (by omega), List.getElem?_take, List.getElem?_take, if_pos (by omega), if_pos (by omega)]
    · rw [if_neg c, if_neg (by omega)]
end Go.Proofs.YtbnobjlphmkgeaaDoor
/- The reference's Apply, of whatever. -/
namespace Go.Proofs.YtbnobjlphmkgeaaDoor
open Go.RowKit

set_option maxRecDepth 100000 in
theorem rcopied_row (A : Option Addr) (n c : Nat) (l : Bytes) (w : World) (hn : l.length = n) (hl : n ≤ 140737488351232) (hr : Rd w A l) :
    Calls Tryd.prog 46 #[.slice A n c] w fun e w' => ∃ A' c', e = .returned (.slice A' n c') ∧ n ≤ c' ∧ Rd w' A' l ∧ (0 < n → ∃ g, A' = some ⟨g, 0, none⟩ ∧ Row w' 5 g c' l ∧ w.heap.size ≤ g) ∧ Below w.heap.size w w' := by
  obtain ⟨i0, hi0, hz0, hz1, hz2⟩ := info_parts byte_info
  have hsrc := Src.of_rd hr
  rw [hn] at hsrc
  go_enter Tryd.func46, Tryd.ntmps46
  go_wp2_with (at_builtin; refine wpList_append_src _ rfl (.tmp 4) (.tmp 5) _ rfl w.heap.size 5 i0 _ 1 1 Tryd.underlying41 hi0 hz0 hz1 hz2 rfl (by decide) (.slice none 0 0) 0 [] rfl (World.ownsRow_nil _ _ _ _) A n c (l.map bv) rfl hsrc (by simp [Value.oneCell']) (by simp only [maxLen]; omega) (by omega) (Nat.le_refl _) ?_; intro v1 w1 hown1 hg1 hnn1)
  have hb1 : Below w.heap.size w w1 := (Below.refl _ _).grown hg1 (Nat.le_refl _) (fun k hk => by simp [Value.ownBlock] at hk)
  rw [Nat.zero_add, List.nil_append] at hown1
  have HF : Hidden (∃ A' c', v1 = .slice A' n c' ∧ n ≤ c' ∧ Rd w1 A' l ∧ (0 < n → ∃ g, A' = some ⟨g, 0, none⟩ ∧ Row w1 5 g c' l ∧ w.heap.size ≤ g) ∧ Below w.heap.size w w1) := ⟨by
    rcases hown1.2 with ⟨rfl, h0⟩ | ⟨g, cap, cur, rfl, hb, hh, hc, hm, hz, ht⟩
    · have : l = [] := List.eq_nil_of_length_eq_zero (by omega)
      rw [this, h0]
      exact ⟨none, 0, rfl, Nat.le_refl _, Rd.nil_, (fun h => absurd h (by omega)), hb1⟩
    · have hrow : Row w1 5 g cap l := ⟨cur, hh, by omega, hm, by omega, by rw [hn]; simpa using ht⟩
      exact ⟨some ⟨g, 0, none⟩, cap, rfl, hc, hrow.rd, fun _ => ⟨g, rfl, hrow, hb⟩, hb1⟩⟩
  clear hown1 hg1 hnn1 hb1 hsrc
  go_ret
  obtain ⟨A', c', rfl, h⟩ := HF.out
  exact ⟨A', c', rfl, h⟩
/-- what is being made of bytes: a row of the call's own, if there are any -/
structure ApO (w0 w : World) (A : Option Addr) (c n : Nat) (cur : Bytes) : Prop where
  rd : Rd w A cur
  len : cur.length = n
  cap : n ≤ c
  row : 0 < n → ∃ g, A = some ⟨g, 0, none⟩ ∧ Row w 5 g c cur ∧ w0.heap.size ≤ g
  bel : Below w0.heap.size w0 w
theorem ApO.below {w0 w w' : World} {A : Option Addr} {c n : Nat} {cur : Bytes} (h : ApO w0 w A c n cur) (hb : Below w.heap.size w w') : ApO w0 w' A c n cur :=
  ⟨h.rd.below hb, h.len, h.cap, fun h0 => by
    obtain ⟨g, e, hr, hg⟩ := h.row h0
    exact ⟨g, e, hr.below hb hr.lt, hg⟩, h.bel.trans (hb.mono h.bel.size)⟩
/-- what the reference's Apply comes to -/
def RaAns (w : World) (l : Bytes) (k : Nat) (e : Ending) (w' : World) : Prop := ∃ A c, e = .returned (.tuple #[.slice A l.length c, .int .i64 (k : Int)]) ∧ l.length ≤ c ∧ Rd w' A l ∧ Below w.heap.size w w'
set_option maxRecDepth 100000 in
theorem rapply_any (A : Option Addr) (n c : Nat) (b : Bytes) (LA : Option Addr) (m d : Nat) (L : List Chg) (w : World) (hn : b.length = n) (hnl : n ≤ 140737488351232) (hb : Rd w A b) (hm : L.length = m) (hL : RdG w LA L) :
    Calls Tryd.prog 25 #[.slice A n c, .slice LA m d] w (RaAns w (apB b L) (apN b L)) := by
  by_cases h2 : 200 < m
  · obtain ⟨h3, h4⟩ := ap_long (b := b) (L := L) (by omega)
    rw [h3, h4]
    have t0 : decide (200 < m) = true := by simpa using h2
    have t0' : decide (200 < (m : Int)) = true := by simp; omega
    clear hn hb hm hL h2 h3 h4
    go_enter Tryd.func25, Tryd.ntmps25
    go_wp2_with fail
    go_ret2
    exact ⟨none, 0, rfl, Nat.le_refl _, Rd.nil_, Below.refl _ _⟩
  have HM := Hidden.mk hm
  have HL := Hidden.mk hL
  have hm2 : m ≤ 200 := by omega
  have HBAD : Hidden (∀ (x : Nat) (W : World), applyL b L = .error (x : Int) → Below w.heap.size w W → RaAns w (apB b L) (apN b L) (.returned (.tuple #[.slice none 0 0, .int .i64 (x : Int)])) W) := ⟨fun x W h hW => by
    obtain ⟨h1, h2, h3⟩ := ap_bad (by omega) h
    rw [h3]
    exact ⟨none, 0, by rw [h1]; rfl, Nat.le_refl _, Rd.nil_, hW⟩⟩
  have HOK : Hidden (∀ (W : World) (A' : Option Addr) (c' : Nat) (b' : Bytes), applyL b L = .ok b' → ApO w W A' c' n b' → RaAns w (apB b L) (apN b L) (.returned (.tuple #[.slice A' n c', .int .i64 0])) W) := ⟨fun W A' c' b' h hW => by
    obtain ⟨h1, h2⟩ := ap_ok (b := b) (L := L) (by omega) h
    rw [h1, h2]
    exact ⟨A', c', by rw [hW.len]; rfl, by rw [hW.len]; exact hW.cap, hW.rd, hW.bel⟩⟩
  have HST : Hidden (∀ (cur : Bytes) (k : Nat) (hk : k < L.length), applyL cur (L.drop k) = applyL b L → applyL b L = match apply1 cur L[k] with | .error e => .error e | .ok b' => applyL b' (L.drop (k + 1))) := ⟨fun cur k hk h => applyL_step hk h⟩
  generalize apB b L = XB at *
  generalize apN b L = XN at *
  have HC := Hidden.mk (rcopied_row A n c b w hn hnl hb)
  have HN := Hidden.mk hn
  clear hm hL hb hn h2
  have t0 : decide (200 < m) = false := by simp; omega
  have t0' : decide (200 < (m : Int)) = false := by simp; omega
  go_enter Tryd.func25, Tryd.ntmps25
  go_wp2_with fail
  refine HC.out.mono ?_
  rintro e w1 ⟨A', c', rfl, hc', hrd', hrow', hb1⟩
  have HS0 : Hidden (ApO w w1 A' c' n b) := ⟨⟨hrd', HN.out, hc', hrow', hb1⟩⟩
  clear hrd' hrow' hb1 t0 t0' HC
  go_wp2_with fail
  go_loopg [7] m (fun r kv wr => ∃ (k : Nat) (cur : Bytes), k ≤ m ∧ r = m - k ∧ kv = .int .i64 (k : Int) ∧ Hidden (ApO w wr A' c' n cur ∧ applyL cur (L.drop k) = applyL b L))
  case atStart => exact ⟨0, b, by omega, rfl, rfl, ⟨HS0.out, by rw [List.drop_zero]⟩⟩
  case round =>
    obtain ⟨k, cur, hk, rfl, rfl, hs⟩ := hrel
    have HS := Hidden.mk hs.out
    clear hs HS0
    generalize wr = wB at *
    by_cases hlt : k < m
    · have hkl : k < L.length := by rw [HM.out]; exact hlt
      have HD := Hidden.mk (HST.out cur k hkl HS.out.2)
      have s0 : IntKind.i64.wrap ((k : Int) + 1) = (k : Int) + 1 := IntWalk.i64_in _ (by omega)
      obtain ⟨gl, off, Ao, An, co, cn, rfl, hc0⟩ := HL.out k hkl
      have HCW : Hidden (∀ W, Below w.heap.size w W → ChAny W gl off k L[k] Ao An co cn) := ⟨fun W hW => hc0.below hW⟩
      have hc := HCW.out wB HS.out.1.bel
      clear hc0
      have k0 : (0 : Int) ≤ k := by omega
      have k1 : (k : Int) < m := by omega
      obtain ⟨a1, a2, a3, rO, rN, lO, lN⟩ := hc
      generalize L[k] = ch at *
      obtain ⟨at_, old, new⟩ := ch
      dsimp only at a1 a2 a3 rO rN lO lN HD
      have HRW : Hidden (∀ W, Below w.heap.size w W → Rd W Ao old ∧ Rd W An new) := ⟨fun W hW => ⟨(HCW.out W hW).rdO, (HCW.out W hW).rdN⟩⟩
      clear HCW
      obtain ⟨no, ho⟩ : ∃ q, old.length = q := ⟨_, rfl⟩
      obtain ⟨nn, hnw⟩ : ∃ q, new.length = q := ⟨_, rfl⟩
      rw [ho] at a2 lO
      rw [hnw] at a3 lN
      have HO := Hidden.mk (And.intro ho hnw)
      have hcl := HS.out.1.len
      have hal := (Below.refl wB.heap.size wB).alloc (Nat.le_refl _) (.cells #[.int .i64 at_, .slice Ao no co, .slice An nn cn] 98)
      have HX := Hidden.mk (HS.out.1.below hal)
      have HAL := Hidden.mk hal
      have hbx := heap_alloc_new wB (.cells #[.int .i64 at_, .slice Ao no co, .slice An nn cn] 98)
      have c0 : (wB.alloc (.cells #[.int .i64 at_, .slice Ao no co, .slice An nn cn] 98)).cell? ⟨wB.heap.size, 0, none⟩ = some (.int .i64 at_) := by simp only [World.cell?]; rw [hbx]; rfl
      have c1 : (wB.alloc (.cells #[.int .i64 at_, .slice Ao no co, .slice An nn cn] 98)).cell? ⟨wB.heap.size, 1, none⟩ = some (.slice Ao no co) := by simp only [World.cell?]; rw [hbx]; rfl
      have c2 : (wB.alloc (.cells #[.int .i64 at_, .slice Ao no co, .slice An nn cn] 98)).cell? ⟨wB.heap.size, 2, none⟩ = some (.slice An nn cn) := by simp only [World.cell?]; rw [hbx]; rfl
      have HCN := Hidden.mk hcl
      clear ho hnw rO rN hal hbx hkl hcl
      by_cases h1 : at_ < 0
      · have HE : Hidden (applyL b L = .error ((1 : Nat) : Int)) := ⟨by rw [HD.out]; unfold apply1; rw [if_pos (.inl h1)]; rfl⟩
        have d1 : decide (at_ < 0) = true := by simpa using h1
        clear HD h1
        go_wp2_with fail
        go_ret2
        exact HBAD.out 1 _ HE.out HX.out.bel
      have d1 : decide (at_ < 0) = false := by simpa using h1
      obtain ⟨j, rfl⟩ := Int.eq_ofNat_of_zero_le (show 0 ≤ at_ by omega)
      clear h1
      by_cases h2 : n < j
      · have HE : Hidden (applyL b L = .error ((1 : Nat) : Int)) := ⟨by rw [HD.out]; unfold apply1; rw [if_pos (.inr (.inl (by dsimp only; rw [HCN.out]; omega)))]; rfl⟩
        have d2 : decide ((n : Int) < j) = true := by simp; omega
        have d2' : decide (n < j) = true := by simpa using h2
        clear HD h2
        go_wp2_with fail
        go_ret2
        exact HBAD.out 1 _ HE.out HX.out.bel
      have d2 : decide ((n : Int) < j) = false := by simp; omega
      have d2' : decide (n < j) = false := by simpa using h2
      have s1 : IntKind.i64.wrap ((n : Int) - j) = (n : Int) - j := IntWalk.i64_in _ (by omega)
      by_cases h3 : n - j < no
      · have HE : Hidden (applyL b L = .error ((1 : Nat) : Int)) := ⟨by rw [HD.out]; unfold apply1; rw [if_pos (.inr (.inr (by dsimp only; rw [HCN.out, HO.out.1]; omega)))]; rfl⟩
        have d3 : decide ((n : Int) - j < no) = true := by simp; omega
        clear HD h3 h2
        go_wp2_with fail
        go_ret2
        exact HBAD.out 1 _ HE.out HX.out.bel
      have d3 : decide ((n : Int) - j < no) = false := by simp; omega
      have HJ : Hidden (j + no ≤ n) := ⟨by omega⟩
      clear h2 h3
      by_cases h4 : no = nn
      rotate_left
      · have HE : Hidden (applyL b L = .error ((3 : Nat) : Int)) := ⟨by rw [HD.out]; unfold apply1; rw [if_neg (by dsimp only; rw [HCN.out, HO.out.1]; have := HJ.out; omega), if_pos (by dsimp only; rw [HO.out.1, HO.out.2]; exact h4)]; rfl⟩
        have d4 : ((no : Int) != (nn : Int)) = true := by simp; omega
        clear HD h4
        go_wp2_with fail
        go_ret2
        exact HBAD.out 3 _ HE.out HX.out.bel
      subst h4
      have d4 : ((no : Int) != (no : Int)) = false := by simp
      have s2 : IntKind.i64.wrap ((j : Int) + no) = (j : Int) + no := IntWalk.i64_in _ (by have := HJ.out; omega)
      obtain ⟨Az, hAz⟩ : ∃ Az : Option Addr, Az = (if c' = j then A' else A'.map (·.add j)) := ⟨_, rfl⟩
      have hcut := run_cut_any A' n c' j (j + no) (by omega) (by have := HJ.out; omega)
      rw [Nat.add_sub_cancel_left, Int.natCast_add, ← hAz] at hcut
      have hlz : ((cur.drop j).take no).length = no := by have := HJ.out; have := HCN.out; simp; omega
      have HBX : Hidden (∀ g, A' = some ⟨g, 0, none⟩ → 0 < n → g ≠ wB.heap.size) := ⟨fun g e h0 => by
        obtain ⟨g', e', hr, -⟩ := HS.out.1.row h0
        rw [e] at e'
        obtain rfl : g = g' := by injection e' with e'; injection e'
        have := hr.lt; omega⟩
      have hsp : splice cur j (new.take 0) = cur := by simp [splice]
      have HSP := Hidden.mk hsp
      clear hsp HAL
      go_upto_region 12 with (fail)
      generalize wB.alloc (.cells #[.int .i64 j, .slice Ao no co, .slice An no cn] 98) = W2 at *
      generalize wB.heap.size = bx at *
      have q1 := fun nq => conv_text (W2.drewN nq) Az no (c' - j) ((cur.drop j).take no) hlz (by
        have := HX.out.rd.cutIf j no c' (by rw [HCN.out]; exact HJ.out) (by rw [HCN.out]; exact hc')
        rw [hAz]; exact this.drewN nq)
      have q2 := fun nq => conv_text (W2.drewN nq) Ao no co old HO.out.1 ((HRW.out W2 HX.out.bel).1.drewN nq)
      clear hAz hlz
      by_cases hq : (cur.drop j).take no = old
      rotate_left
      · have HE : Hidden (applyL b L = .error ((6 : Nat) : Int)) := ⟨by rw [HD.out]; unfold apply1; rw [if_neg (by dsimp only; rw [HCN.out, HO.out.1]; have := HJ.out; omega), if_neg (by dsimp only; rw [HO.out.1, HO.out.2]; simp), if_pos (by dsimp only; rw [HO.out.1, Int.toNat_natCast]; exact hq)]; rfl⟩
        have e1 : ((cur.drop j).take no == old) = false := by simpa using hq
        clear HD hq
        go_quiet (fail)
        go_wp2_with fail
        go_ret2
        exact HBAD.out 6 _ HE.out (below_drewN HX.out.bel _)
      have HAP : Hidden (applyL b L = applyL (splice cur j new) (L.drop (k + 1))) := ⟨by
        rw [HD.out]; unfold apply1
        rw [if_neg (by dsimp only; rw [HCN.out, HO.out.1]; have := HJ.out; omega), if_neg (by dsimp only; rw [HO.out.1, HO.out.2]; simp), if_neg (by dsimp only; rw [HO.out.1, Int.toNat_natCast]; simpa using hq)]
        simp⟩
      have e1 : ((cur.drop j).take no == old) = true := by simpa using hq
      clear HD hq
      go_quiet (fail)
      have HS3 : Hidden (ApO w (W2.drewN nq) A' c' n (splice cur j (new.take 0)) ∧ (W2.drewN nq).cell? ⟨bx, 0, none⟩ = some (.int .i64 (j : Int)) ∧ (W2.drewN nq).cell? ⟨bx, 2, none⟩ = some (.slice An no cn)) := ⟨by
        rw [HSP.out]; exact HX.out.below (below_drewN (Below.refl _ _) nq), c0, c2⟩
      clear q1 q2 HX c0 c1 c2 HSP
      go_wp2_with fail
      go_loopg [9] no (fun r tv wx => ∃ t : Nat, t ≤ no ∧ r = no - t ∧ tv = .int .i64 (t : Int) ∧ Hidden (ApO w wx A' c' n (splice cur j (new.take t)) ∧ wx.cell? ⟨bx, 0, none⟩ = some (.int .i64 (j : Int)) ∧ wx.cell? ⟨bx, 2, none⟩ = some (.slice An no cn)))
      case atStart => exact ⟨0, by omega, rfl, rfl, HS3⟩
      case round =>
        obtain ⟨t, ht, rfl, rfl, hs⟩ := hrel
        have HY := Hidden.mk hs.out
        obtain ⟨-, y0, y2⟩ := hs.out
        clear hs HS3
        by_cases hlt2 : t < no
        · have hjn := HJ.out
          have t0 : (0 : Int) ≤ t := by omega
          have t1 : (t : Int) < no := by omega
          have s5 : IntKind.i64.wrap ((t : Int) + 1) = (t : Int) + 1 := IntWalk.i64_in _ (by omega)
          have s6 : IntKind.i64.wrap ((j : Int) + (t : Int)) = (j : Int) + (t : Int) := IntWalk.i64_in _ (by have := HJ.out; omega)
          have t2 : (0 : Int) ≤ (j : Int) + (t : Int) := by omega
          have t3 : (j : Int) + (t : Int) < n := by have := HJ.out; omega
          have hnew : t < new.length := by rw [HO.out.2]; exact hlt2
          obtain ⟨g, rfl, hrow, hg⟩ := HY.out.1.row (by have := HJ.out; omega)
          obtain ⟨pb, of, rfl, hcn⟩ := (HRW.out wr HY.out.1.bel).2 t hnew
          have HSPL := Hidden.mk (splice_take_succ cur new j t hnew (by rw [HCN.out, HO.out.2]; exact HJ.out))
          have hbel := HY.out.1.bel
          have hne : g ≠ bx := HBX.out g rfl (by have := HJ.out; omega)
          have hdr : Below wr.heap.size wr wr.drew := (Below.refl _ _).drew
          have hrow2 := hrow.below hdr hrow.lt
          have hlen := HY.out.1.len
          have hst := hrow2.store (j + t) (by rw [hlen]; have := HJ.out; omega) new[t]
          rw [HSPL.out] at hst
          obtain ⟨u0, z0⟩ : ∃ u, wr.drew.cell? ⟨g, j + t, none⟩ = some u := ⟨_, by
            have := hrow2.rd.at_ (j + t) (by rw [hlen]; have := HJ.out; omega)
            rw [Nat.zero_add] at this; exact this⟩
          have z1 := hrow2.frozen (j + t)
          have HN : Hidden (ApO w (wr.drew.setCell ⟨g, j + t, none⟩ (bv new[t])) (some ⟨g, 0, none⟩) c' n (splice cur j (new.take (t + 1))) ∧ (wr.drew.setCell ⟨g, j + t, none⟩ (bv new[t])).cell? ⟨bx, 0, none⟩ = some (.int .i64 (j : Int)) ∧ (wr.drew.setCell ⟨g, j + t, none⟩ (bv new[t])).cell? ⟨bx, 2, none⟩ = some (.slice (some ⟨pb, of, none⟩) no cn)) := ⟨by
            refine ⟨⟨hst.rd, by rw [← HSPL.out, List.length_set]; exact hlen, hc', fun _ => ⟨g, rfl, hst, hg⟩, (hbel.trans (hdr.mono hbel.size)).setCell hg _⟩, ?_, ?_⟩
            · rw [World.cell?_setCell_far _ _ _ _ hne]; exact y0
            · rw [World.cell?_setCell_far _ _ _ _ hne]; exact y2⟩
          generalize new[t] = x at *
          clear hjn HY HSPL hbel hne hdr hrow hrow2 hlen hst hnew
          go_upto_region 17 with (fail)
          go_still_tail 11, (by kernel_rfl)
          change wpList _ _ _ _ _ wr.drew
          generalize wr.drew = w2 at *
          go_wp2_with fail
          all_goals
            go_roundg (no - (t + 1))
            case measure => omega
            case rel => exact ⟨t + 1, by omega, rfl, by go_num, HN⟩
        · obtain rfl : t = no := by omega
          have t4 : decide ((t : Int) < t) = false := by simp
          have HN : Hidden (ApO w wr A' c' n (splice cur j new) ∧ applyL (splice cur j new) (L.drop (k + 1)) = applyL b L) := ⟨by
            have := HY.out.1
            rw [List.take_of_length_le (by rw [HO.out.2]; exact Nat.le_refl _)] at this
            exact ⟨this, HAP.out.symm⟩⟩
          clear HY
          go_wp2_with fail
          go_roundg (m - (k + 1))
          case measure => omega
          case rel => exact ⟨k + 1, _, by omega, rfl, by go_num, HN⟩
    · obtain rfl : k = m := by omega
      have HE : Hidden (applyL b L = .ok cur) := ⟨by
        have := HS.out.2
        rw [List.drop_eq_nil_of_le (by rw [HM.out]; exact Nat.le_refl _)] at this
        exact this.symm⟩
      have t4 : decide ((k : Int) < k) = false := by simp
      go_wp2_with fail
      go_ret2
      exact HOK.out _ _ _ _ HE.out HS.out.1
end Go.Proofs.YtbnobjlphmkgeaaDoor
/- The reference's Diff: what its list is while it is being made. -/
namespace Go.Proofs.YtbnobjlphmkgeaaDoor
open Go.RowKit

/-- the loop's state, plainly -/
structure DfI (a b : Bytes) (i : Nat) (L : List Chg) (last : Int) : Prop where
  go : L = goD a b [] 0 i
  len : L.length ≤ i
  lst : ∀ h, L.getLast? = some h → 0 ≤ h.at_ ∧ h.at_ + h.old.length ≤ i ∧ h.new.length = h.old.length ∧ last = h.at_ + h.old.length - 1
  nil : L = [] → last = -2
section
variable {a b : Bytes} {i : Nat} {L L0 : List Chg} {last : Int} {h : Chg} {x y : UInt8}
theorem dfI_start (a b : Bytes) : DfI a b 0 [] (-2) := ⟨rfl, Nat.le_refl _, (fun h hh => by cases hh), fun _ => rfl⟩
theorem DfI.same (H : DfI a b i L last) (he : a[i]? = b[i]?) : DfI a b (i + 1) L last where
  go := by rw [goD, Nat.zero_add, if_pos he]; exact H.go
  len := by have := H.len; omega
  lst := fun h hh => by have := H.lst h hh; exact ⟨this.1, by omega, this.2.2⟩
  nil := H.nil
theorem DfI.fresh (H : DfI a b i L last) (he : a[i]? ≠ b[i]?) (hx : a.getD i 0 = x) (hy : b.getD i 0 = y) (hl : last ≠ (i : Int) - 1) : DfI a b (i + 1) (L ++ [⟨i, [x], [y]⟩]) i where
  go := by
    rw [goD, Nat.zero_add, if_neg he, ← H.go, hx, hy]
    unfold addD
    cases e : L.getLast? with
    | none => rfl
    | some h =>
      have := H.lst h e
      simp only
      rw [if_neg (by omega)]
  len := by have := H.len; simp; omega
  lst := fun h hh => by
    rw [List.getLast?_append] at hh
    simp only [List.getLast?_singleton, Option.or, Option.some.injEq] at hh
    subst hh
    simp
  nil := fun e => by simp at e
theorem DfI.more (H : DfI a b i (L0 ++ [h]) last) (he : a[i]? ≠ b[i]?) (hx : a.getD i 0 = x) (hy : b.getD i 0 = y) (hl : last = (i : Int) - 1) : DfI a b (i + 1) (L0 ++ [⟨h.at_, h.old ++ [x], h.new ++ [y]⟩]) i where
  go := by
    have h0 := H.lst h (by simp)
    rw [goD, Nat.zero_add, if_neg he, ← H.go, hx, hy]
    unfold addD
    rw [List.getLast?_append]
    simp only [List.getLast?_singleton, Option.or]
    rw [if_pos (by omega), List.dropLast_concat]
  len := by have := H.len; simp at this ⊢; omega
  lst := fun k hk => by
    have h0 := H.lst h (by simp)
    rw [List.getLast?_append] at hk
    simp only [List.getLast?_singleton, Option.or, Option.some.injEq] at hk
    subst hk
    simp; omega
  nil := fun e => by simp at e
theorem DfI.some_ (H : DfI a b i L last) (hl : last = (i : Int) - 1) : ∃ L0 h, L = L0 ++ [h] := by
  rcases List.eq_nil_or_concat L with e | ⟨L0, h, e⟩
  · have := H.nil e; omega
  · exact ⟨L0, h, by rw [e, List.concat_eq_append]⟩
end
/-- one change in the row: its bytes in two rows, in blocks that fit -/
def ChIn (w : World) (xs : List Value) (i : Nat) (c : Chg) (P : Nat → Prop) : Prop :=
  ∃ go co gn cn, P go ∧ P gn ∧ go ≠ gn ∧ xs[i * 3]? = some (.int .i64 c.at_) ∧ xs[i * 3 + 1]? = some (.slice (some ⟨go, 0, none⟩) c.old.length co) ∧ xs[i * 3 + 2]? = some (.slice (some ⟨gn, 0, none⟩) c.new.length cn) ∧ Row w 5 go co c.old ∧ Row w 5 gn cn c.new
/-- the list, a row of the call's own; what the last change has lies behind all that the others have -/
structure DfS (w0 w : World) (v : Value) (L : List Chg) : Prop where
  ex : ∃ xs B, w.ownsRow w0.heap.size 98 3 v L.length xs ∧ B ≤ w.heap.size ∧ (∀ i (h : i < L.length), i + 1 < L.length → ChIn w xs i L[i] (fun q => w0.heap.size ≤ q ∧ q < B)) ∧ (∀ i (h : i < L.length), i + 1 = L.length → ChIn w xs i L[i] (fun q => w0.heap.size ≤ q ∧ B ≤ q))
  bel : Below w0.heap.size w0 w
theorem owns_row8 {w : World} {base g n cap : Nat} {l : Bytes} (h : w.ownsRow base 5 1 (.slice (some ⟨g, 0, none⟩) n cap) n (l.map bv)) (hl : l.length = n) : Row w 5 g cap l := by
  obtain ⟨-, ⟨h0, _⟩ | ⟨g', cap', cur, he, hb, hg, h1, h2, h3, h4⟩⟩ := h
  · cases h0
  · injection he with e1 e2 e3
    injection e1 with e1
    injection e1 with e1
    subst e1 e3
    exact ⟨cur, hg, by omega, h2, by omega, by simpa [hl] using h4⟩
theorem Row.setFar {w : World} {e g g' k cap : Nat} {l : Bytes} (h : Row w e g cap l) (hne : g ≠ g') (u : Value) : Row (w.setCell ⟨g', k, none⟩ u) e g cap l :=
  (Keep.setCell (F := fun q => q = g') (Keep.refl _ w) (p := ⟨g', k, none⟩) (.inl rfl) u).row h hne
section
variable {w0 w w' : World} {v : Value} {L L0 : List Chg} {h : Chg} {g cap : Nat}
theorem dfS_start (w : World) : DfS w w (.slice none 0 0) [] := ⟨⟨[], 0, World.ownsRow_nil _ _ _ _, Nat.zero_le _, fun i hi => by simp at hi, fun i hi => by simp at hi⟩, Below.refl _ _⟩
theorem ChIn.grown {xs : List Value} {i : Nat} {c : Chg} {P : Nat → Prop} {r : Option Nat} (H : ChIn w xs i c P) (hg : w.grownBy w' r) (hr : ∀ q, P q → r ≠ some q) : ChIn w' xs i c P := by
  obtain ⟨go, co, gn, cn, p1, p2, ne, e0, e1, e2, r1, r2⟩ := H
  exact ⟨go, co, gn, cn, p1, p2, ne, e0, e1, e2, r1.grown hg (hr _ p1), r2.grown hg (hr _ p2)⟩
theorem DfS.below (H : DfS w0 w v L) (hb : Below w.heap.size w w') : DfS w0 w' v L := by
  obtain ⟨⟨xs, B, h1, h2, h3, h4⟩, h5⟩ := H
  have hg := grown_below hb none
  exact ⟨⟨xs, B, own_below h1 hb, Nat.le_trans h2 hb.size, fun i hi hl => (h3 i hi hl).grown hg (fun _ _ e => by cases e), fun i hi hl => (h4 i hi hl).grown hg (fun _ _ e => by cases e)⟩, h5.trans (hb.mono h5.size)⟩
/-- its cells are a change's: no row of bytes is the list's block -/
theorem ChIn.ne {xs ys : List Value} {i n base : Nat} {c : Chg} {P : Nat → Prop} (H : ChIn w xs i c P) (ho : w.ownsRow base 98 3 v n ys) : ∃ go co gn cn, P go ∧ P gn ∧ go ≠ gn ∧ v.ownBlock ≠ some go ∧ v.ownBlock ≠ some gn ∧ xs[i * 3]? = some (.int .i64 c.at_) ∧ xs[i * 3 + 1]? = some (.slice (some ⟨go, 0, none⟩) c.old.length co) ∧ xs[i * 3 + 2]? = some (.slice (some ⟨gn, 0, none⟩) c.new.length cn) ∧ Row w 5 go co c.old ∧ Row w 5 gn cn c.new := by
  obtain ⟨go, co, gn, cn, p1, p2, ne, e0, e1, e2, r1, r2⟩ := H
  exact ⟨go, co, gn, cn, p1, p2, ne, own_row_ne ho r1 (by decide), own_row_ne ho r2 (by decide), e0, e1, e2, r1, r2⟩
/-- one more change -/
theorem DfS.snoc {v' : Value} {at_ : Int} {g1 g2 c1 c2 : Nat} {x y : UInt8} {xs : List Value} (H : DfS w0 w v L) (hx : ∀ ys, w.ownsRow w0.heap.size 98 3 v L.length ys → ys = xs)
    (ho : w'.ownsRow w0.heap.size 98 3 v' (L.length + 1) (xs ++ [.int .i64 at_, .slice (some ⟨g1, 0, none⟩) 1 c1, .slice (some ⟨g2, 0, none⟩) 1 c2])) (hg : w.grownBy w' v.ownBlock)
    (r1 : Row w' 5 g1 c1 [x]) (r2 : Row w' 5 g2 c2 [y]) (n1 : w.heap.size ≤ g1) (n2 : w.heap.size ≤ g2) (hne : g1 ≠ g2) : DfS w0 w' v' (L ++ [⟨at_, [x], [y]⟩]) := by
  obtain ⟨⟨ys, B, h1, h2, h3, h4⟩, h5⟩ := H
  obtain rfl := hx ys h1
  have hlen : ys.length = L.length * 3 := h1.1
  have hz := h5.size
  refine ⟨⟨_, w.heap.size, by simpa using ho, hg.size, fun i hi hl => ?_, fun i hi hl => ?_⟩, h5.grown hg h5.size (fun q hq => (h1.lt q hq).1)⟩
  · rw [List.length_append, List.length_singleton] at hl
    have hi' : i < L.length := by omega
    rw [List.getElem_append_left hi']
    have hc : ChIn w ys i L[i] (fun q => w0.heap.size ≤ q) := by
      by_cases hl2 : i + 1 < L.length
      · obtain ⟨go, co, gn, cn, p1, p2, r⟩ := h3 i hi' hl2
        exact ⟨go, co, gn, cn, p1.1, p2.1, r⟩
      · obtain ⟨go, co, gn, cn, p1, p2, r⟩ := h4 i hi' (by omega)
        exact ⟨go, co, gn, cn, p1.1, p2.1, r⟩
    obtain ⟨go, co, gn, cn, p1, p2, ne, b1, b2, e0, e1, e2, q1, q2⟩ := hc.ne h1
    refine ⟨go, co, gn, cn, ⟨p1, q1.lt⟩, ⟨p2, q2.lt⟩, ne, ?_, ?_, ?_, q1.grown hg b1, q2.grown hg b2⟩
    · rw [List.getElem?_append_left (by omega)]; exact e0
    · rw [List.getElem?_append_left (by omega)]; exact e1
    · rw [List.getElem?_append_left (by omega)]; exact e2
  · rw [List.length_append, List.length_singleton] at hl
    obtain rfl : i = L.length := by omega
    rw [List.getElem_append_right (Nat.le_refl _)]
    refine ⟨g1, c1, g2, c2, ⟨by omega, n1⟩, ⟨by omega, n2⟩, hne, ?_, ?_, ?_, by simpa using r1, by simpa using r2⟩
    · rw [List.getElem?_append_right (by omega), show L.length * 3 - ys.length = 0 from by omega]; simp
    · rw [List.getElem?_append_right (by omega), show L.length * 3 + 1 - ys.length = 1 from by omega]; simp
    · rw [List.getElem?_append_right (by omega), show L.length * 3 + 2 - ys.length = 2 from by omega]; simp
/-- the last change's old bytes grow by one -/
theorem DfS.extO (H : DfS w0 w (.slice (some ⟨g, 0, none⟩) (L0.length + 1) cap) (L0 ++ [h])) :
    ∃ go co, w.cell? ⟨g, L0.length * 3 + 1, none⟩ = some (.slice (some ⟨go, 0, none⟩) h.old.length co) ∧ w.frozen? ⟨g, L0.length * 3 + 1, none⟩ = false ∧ Row w 5 go co h.old ∧ w0.heap.size ≤ go ∧ g ≠ go ∧ g < w.heap.size ∧
      ∀ w' w3 gg cc x, Below w.heap.size w w' → w3.ownsRow w0.heap.size 5 1 (.slice (some ⟨gg, 0, none⟩) (h.old.length + 1) cc) (h.old.length + 1) (h.old.map bv ++ [bv x]) → w'.grownBy w3 (some go) → (some go = some gg ∨ gg = w'.heap.size) →
        DfS w0 (w3.setCell ⟨g, L0.length * 3 + 1, none⟩ (.slice (some ⟨gg, 0, none⟩) (h.old.length + 1) cc)) (.slice (some ⟨g, 0, none⟩) (L0.length + 1) cap) (L0 ++ [⟨h.at_, h.old ++ [x], h.new⟩]) := by
  obtain ⟨⟨xs, B, h1, h2, h3, h4⟩, h5⟩ := H
  have hl : (L0 ++ [h]).length = L0.length + 1 := by simp
  rw [hl] at h1
  have hlast := h4 L0.length (by simp) (by simp)
  have hh : (L0 ++ [h])[L0.length]'(by simp) = h := by simp
  rw [hh] at hlast
  obtain ⟨go, co, gn, cn, p1, p2, hne, b1, b2, e0, e1, e2, r1, r2⟩ := hlast.ne h1
  have hgo : g ≠ go := fun e => by apply b1; rw [e]; rfl
  have hlt := (h1.lt g rfl).2
  have hlx : xs.length = (L0.length + 1) * 3 := h1.1
  refine ⟨go, co, ?_, h1.frozenAt _, r1, p1.1, hgo, hlt, fun w' w3 gg cc x hb ho hg hat => ?_⟩
  · rw [h1.cellAt _ (by omega)]; exact e1
  have hgW := grown_trans' hb hg
  have hv3 := h1.kept hgW (.inr (fun e => hgo (Option.some.inj e)))
  have hlf : (h.old ++ [x]).length = h.old.length + 1 := by simp
  have hrow := owns_row8 (l := h.old ++ [x]) (by rw [List.map_append]; exact ho) hlf
  have hgg : g ≠ gg := fun e => by
    have := own_row_ne hv3 hrow (by decide)
    apply this; rw [e]; rfl
  obtain ⟨hst, hg4⟩ := hv3.stored (L0.length * 3 + 1) (.slice (some ⟨gg, 0, none⟩) (h.old.length + 1) cc)
  have hz := hb.size
  have hzz := h5.size
  have hggB : w0.heap.size ≤ gg ∧ B ≤ gg ∧ gg ≠ gn := by
    rcases hat with e | e
    · obtain rfl := Option.some.inj e
      exact ⟨p1.1, p1.2, hne⟩
    · have := r2.lt
      exact ⟨by omega, by omega, by omega⟩
  have hB3 : Below w0.heap.size w0 w3 := h5.grown hgW h5.size (fun q hq => by obtain rfl := Option.some.inj hq; exact p1.1)
  refine ⟨⟨_, B, by simpa using hst, Nat.le_trans h2 (Nat.le_trans hgW.size hg4.size), fun i hi hil => ?_, fun i hi hil => ?_⟩, hB3.setCell (h1.lt g rfl).1 _⟩
  · rw [List.length_append, List.length_singleton] at hil
    have hi' : i < L0.length := by omega
    rw [List.getElem_append_left hi']
    have hc := h3 i (by simp; omega) (by simp; omega)
    rw [List.getElem_append_left hi'] at hc
    obtain ⟨ao, ac, an, ad, m1, m2, mne, d1, d2, k0, k1, k2, q1, q2⟩ := hc.ne h1
    have f1 : some go ≠ some ao := fun e => by have := Option.some.inj e; have := m1.2; have := p1.2; omega
    have f2 : some go ≠ some an := fun e => by have := Option.some.inj e; have := m2.2; have := p1.2; omega
    refine ⟨ao, ac, an, ad, m1, m2, mne, ?_, ?_, ?_, (q1.grown hgW f1).setFar (fun e => d1 (by rw [e]; rfl)) _, (q2.grown hgW f2).setFar (fun e => d2 (by rw [e]; rfl)) _⟩
    · rw [List.getElem?_set_ne (by omega)]; exact k0
    · rw [List.getElem?_set_ne (by omega)]; exact k1
    · rw [List.getElem?_set_ne (by omega)]; exact k2
  · rw [List.length_append, List.length_singleton] at hil
    obtain rfl : i = L0.length := by omega
    rw [List.getElem_append_right (Nat.le_refl _)]
    simp only [Nat.sub_self, List.getElem_cons_zero]
    have s2 : (xs.set (L0.length * 3 + 1) (.slice (some ⟨gg, 0, none⟩) (h.old.length + 1) cc))[L0.length * 3 + 1]? = some (.slice (some ⟨gg, 0, none⟩) (h.old ++ [x]).length cc) := by
      rw [List.getElem?_set_self (by omega), hlf]
    have s0 : (xs.set (L0.length * 3 + 1) (.slice (some ⟨gg, 0, none⟩) (h.old.length + 1) cc))[L0.length * 3]? = some (.int .i64 h.at_) := by
      rw [List.getElem?_set_ne (by omega)]; exact e0
    have s1 : (xs.set (L0.length * 3 + 1) (.slice (some ⟨gg, 0, none⟩) (h.old.length + 1) cc))[L0.length * 3 + 2]? = some (.slice (some ⟨gn, 0, none⟩) h.new.length cn) := by
      rw [List.getElem?_set_ne (by omega)]; exact e2
    exact ⟨gg, cc, gn, cn, ⟨hggB.1, hggB.2.1⟩, p2, hggB.2.2, s0, s2, s1, hrow.setFar (fun e => hgg e.symm) _, (r2.grown hgW (fun e => hne (Option.some.inj e))).setFar (fun e => b2 (by rw [e]; rfl)) _⟩
/-- the last change's new bytes grow by one -/
theorem DfS.extN (H : DfS w0 w (.slice (some ⟨g, 0, none⟩) (L0.length + 1) cap) (L0 ++ [h])) :
    ∃ go co, w.cell? ⟨g, L0.length * 3 + 2, none⟩ = some (.slice (some ⟨go, 0, none⟩) h.new.length co) ∧ w.frozen? ⟨g, L0.length * 3 + 2, none⟩ = false ∧ Row w 5 go co h.new ∧ w0.heap.size ≤ go ∧ g ≠ go ∧ g < w.heap.size ∧
      ∀ w' w3 gg cc x, Below w.heap.size w w' → w3.ownsRow w0.heap.size 5 1 (.slice (some ⟨gg, 0, none⟩) (h.new.length + 1) cc) (h.new.length + 1) (h.new.map bv ++ [bv x]) → w'.grownBy w3 (some go) → (some go = some gg ∨ gg = w'.heap.size) →
        DfS w0 (w3.setCell ⟨g, L0.length * 3 + 2, none⟩ (.slice (some ⟨gg, 0, none⟩) (h.new.length + 1) cc)) (.slice (some ⟨g, 0, none⟩) (L0.length + 1) cap) (L0 ++ [⟨h.at_, h.old, h.new ++ [x]⟩]) := by
  obtain ⟨⟨xs, B, h1, h2, h3, h4⟩, h5⟩ := H
  have hl : (L0 ++ [h]).length = L0.length + 1 := by simp
  rw [hl] at h1
  have hlast := h4 L0.length (by simp) (by simp)
  have hh : (L0 ++ [h])[L0.length]'(by simp) = h := by simp
  rw [hh] at hlast
  obtain ⟨go, co, gn, cn, p1, p2, hne, b1, b2, e0, e1, e2, r1, r2⟩ := hlast.ne h1
  have hgo : g ≠ gn := fun e => by apply b2; rw [e]; rfl
  have hlt := (h1.lt g rfl).2
  have hlx : xs.length = (L0.length + 1) * 3 := h1.1
  refine ⟨gn, cn, ?_, h1.frozenAt _, r2, p2.1, hgo, hlt, fun w' w3 gg cc x hb ho hg hat => ?_⟩
  · rw [h1.cellAt _ (by omega)]; exact e2
  have hgW := grown_trans' hb hg
  have hv3 := h1.kept hgW (.inr (fun e => hgo (Option.some.inj e)))
  have hlf : (h.new ++ [x]).length = h.new.length + 1 := by simp
  have hrow := owns_row8 (l := h.new ++ [x]) (by rw [List.map_append]; exact ho) hlf
  have hgg : g ≠ gg := fun e => by
    have := own_row_ne hv3 hrow (by decide)
    apply this; rw [e]; rfl
  obtain ⟨hst, hg4⟩ := hv3.stored (L0.length * 3 + 2) (.slice (some ⟨gg, 0, none⟩) (h.new.length + 1) cc)
  have hz := hb.size
  have hzz := h5.size
  have hggB : w0.heap.size ≤ gg ∧ B ≤ gg ∧ gg ≠ go := by
    rcases hat with e | e
    · obtain rfl := Option.some.inj e
      exact ⟨p2.1, p2.2, (Ne.symm hne)⟩
    · have := r1.lt
      exact ⟨by omega, by omega, by omega⟩
  have hB3 : Below w0.heap.size w0 w3 := h5.grown hgW h5.size (fun q hq => by obtain rfl := Option.some.inj hq; exact p2.1)
  refine ⟨⟨_, B, by simpa using hst, Nat.le_trans h2 (Nat.le_trans hgW.size hg4.size), fun i hi hil => ?_, fun i hi hil => ?_⟩, hB3.setCell (h1.lt g rfl).1 _⟩
  · rw [List.length_append, List.length_singleton] at hil
    have hi' : i < L0.length := by omega
    rw [List.getElem_append_left hi']
    have hc := h3 i (by simp; omega) (by simp; omega)
    rw [List.getElem_append_left hi'] at hc
    obtain ⟨ao, ac, an, ad, m1, m2, mne, d1, d2, k0, k1, k2, q1, q2⟩ := hc.ne h1
    have f1 : some gn ≠ some ao := fun e => by have := Option.some.inj e; have := m1.2; have := p2.2; omega
    have f2 : some gn ≠ some an := fun e => by have := Option.some.inj e; have := m2.2; have := p2.2; omega
    refine ⟨ao, ac, an, ad, m1, m2, mne, ?_, ?_, ?_, (q1.grown hgW f1).setFar (fun e => d1 (by rw [e]; rfl)) _, (q2.grown hgW f2).setFar (fun e => d2 (by rw [e]; rfl)) _⟩
    · rw [List.getElem?_set_ne (by omega)]; exact k0
    · rw [List.getElem?_set_ne (by omega)]; exact k1
    · rw [List.getElem?_set_ne (by omega)]; exact k2
  · rw [List.length_append, List.length_singleton] at hil
    obtain rfl : i = L0.length := by omega
    rw [List.getElem_append_right (Nat.le_refl _)]
    simp only [Nat.sub_self, List.getElem_cons_zero]
    have s2 : (xs.set (L0.length * 3 + 2) (.slice (some ⟨gg, 0, none⟩) (h.new.length + 1) cc))[L0.length * 3 + 2]? = some (.slice (some ⟨gg, 0, none⟩) (h.new ++ [x]).length cc) := by
      rw [List.getElem?_set_self (by omega), hlf]
    have s0 : (xs.set (L0.length * 3 + 2) (.slice (some ⟨gg, 0, none⟩) (h.new.length + 1) cc))[L0.length * 3]? = some (.int .i64 h.at_) := by
      rw [List.getElem?_set_ne (by omega)]; exact e0
    have s1 : (xs.set (L0.length * 3 + 2) (.slice (some ⟨gg, 0, none⟩) (h.new.length + 1) cc))[L0.length * 3 + 1]? = some (.slice (some ⟨go, 0, none⟩) h.old.length co) := by
      rw [List.getElem?_set_ne (by omega)]; exact e1
    exact ⟨go, co, gg, cc, p1, ⟨hggB.1, hggB.2.1⟩, Ne.symm hggB.2.2, s0, s1, s2, (r1.grown hgW (fun e => hne (Option.some.inj e).symm)).setFar (fun e => b1 (by rw [e]; rfl)) _, hrow.setFar (fun e => hgg e.symm) _⟩
/-- read as changes -/
theorem DfS.rdg (H : DfS w0 w v L) : ∃ A c, v = .slice A L.length c ∧ L.length ≤ c ∧ RdG w A L := by
  obtain ⟨⟨xs, B, h1, h2, h3, h4⟩, h5⟩ := H
  have hall : ∀ i (hi : i < L.length), ChIn w xs i L[i] (fun _ => True) := fun i hi => by
    by_cases hl : i + 1 < L.length
    · obtain ⟨go, co, gn, cn, p1, p2, r⟩ := h3 i hi hl
      exact ⟨go, co, gn, cn, trivial, trivial, r⟩
    · obtain ⟨go, co, gn, cn, p1, p2, r⟩ := h4 i hi (by omega)
      exact ⟨go, co, gn, cn, trivial, trivial, r⟩
  rcases id h1.2 with ⟨rfl, h0⟩ | ⟨g, cap, cur, rfl, _, hh, hc, hm, hz, ht⟩
  · rw [h0]
    exact ⟨none, 0, rfl, Nat.le_refl _, fun i hi => by omega⟩
  · refine ⟨_, cap, rfl, hc, fun i hi => ?_⟩
    obtain ⟨go, co, gn, cn, -, -, -, e0, e1, e2, r1, r2⟩ := hall i hi
    refine ⟨g, 0, _, _, co, cn, rfl, ?_, ?_, ?_, r1.rd, r2.rd, r1.le.1, r2.le.1⟩
    · rw [Nat.zero_add, h1.cellAt _ (by omega)]; exact e0
    · rw [Nat.zero_add, h1.cellAt _ (by omega)]; exact e1
    · rw [Nat.zero_add, h1.cellAt _ (by omega)]; exact e2
end
end Go.Proofs.YtbnobjlphmkgeaaDoor
/- The reference's Diff: the walk. -/
namespace Go.Proofs.YtbnobjlphmkgeaaDoor
open Go.RowKit

theorem below_one {w : World} (o : Obj) : Below w.heap.size w (w.drew.alloc o) := ((Below.refl w.heap.size w).drew).alloc (Nat.le_refl _) o
theorem below_three {w : World} (o p q : Obj) : Below w.heap.size w (((w.drew.alloc o).alloc p).alloc q) := ((below_one o).alloc (below_one o).size p).alloc ((below_one o).alloc (below_one o).size p).size q
theorem own_splitC {w : World} {base e size n : Nat} {v : Value} {xs : List Value} (h : w.ownsRow base e size v n xs) : ∃ A c, v = .slice A n c ∧ n ≤ c ∧ c ≤ maxLen := by
  rcases h.2 with ⟨rfl, rfl⟩ | ⟨g, cap, cur, rfl, _, hh, hc, hm, _⟩
  · exact ⟨none, 0, rfl, Nat.le_refl _, by simp [maxLen]⟩
  · exact ⟨_, cap, rfl, hc, hm⟩
theorem own_uniq {w : World} {base e size n : Nat} {v : Value} {xs ys : List Value} (h : w.ownsRow base e size v n xs) (k : w.ownsRow base e size v n ys) : xs = ys := by
  rcases h.2 with ⟨rfl, rfl⟩ | ⟨g, cap, cur, rfl, _, hh, hc, hm, _, ht⟩
  · have h1 := h.1
    have k1 := k.1
    rw [Nat.zero_mul] at h1 k1
    rw [List.eq_nil_of_length_eq_zero h1, List.eq_nil_of_length_eq_zero k1]
  · rcases k.2 with ⟨e, _⟩ | ⟨g', cap', cur', e, _, hh', hc', hm', _, ht'⟩
    · cases e
    · injection e with e1 e2 e3
      injection e1 with e1
      injection e1 with e1
      subst e1
      rw [hh] at hh'
      injection hh' with hh'
      injection hh' with hh'
      rw [← ht, ← ht', hh']
/-- behind a row that was made: the cells of its list -/
theorem alloc_row1 (w : World) (x : UInt8) : Row (w.alloc (.cells #[bv x] 5)) 5 w.heap.size 1 [x] := ⟨_, heap_alloc_new w _, by simp, by simp [maxLen], rfl, rfl⟩
theorem three_at (w : World) (o p q : Obj) : (((w.drew.alloc o).alloc p).alloc q).heap[w.heap.size + 2]? = some q := by
  have h := heap_alloc_new ((w.drew.alloc o).alloc p) q
  have e : ((w.drew.alloc o).alloc p).heap.size = w.heap.size + 2 := by simp
  rw [e] at h
  exact h
theorem row_two1 (w : World) (x y : UInt8) (q : Obj) : Row (((w.drew.alloc (.cells #[bv x] 5)).alloc (.cells #[bv y] 5)).alloc q) 5 w.heap.size 1 [x] := by
  have h1 := alloc_row1 w.drew x
  have h2 := h1.below ((Below.refl _ _).alloc (Nat.le_refl _) (.cells #[bv y] 5)) h1.lt
  exact h2.below ((Below.refl _ _).alloc (Nat.le_refl _) q) h2.lt
theorem row_two2 (w : World) (x y : UInt8) (q : Obj) : Row (((w.drew.alloc (.cells #[bv x] 5)).alloc (.cells #[bv y] 5)).alloc q) 5 (w.heap.size + 1) 1 [y] := by
  have h1 := alloc_row1 (w.drew.alloc (.cells #[bv x] 5)) y
  have e : (w.drew.alloc (.cells #[bv x] 5)).heap.size = w.heap.size + 1 := by simp
  rw [e] at h1
  exact h1.below ((Below.refl _ _).alloc (Nat.le_refl _) q) h1.lt
set_option maxRecDepth 100000 in
set_option maxHeartbeats 2000000 in
theorem rdiff_any (A B : Option Addr) (n c d : Nat) (a b : Bytes) (w : World) (hn : a.length = n) (hm : b.length = n) (hle : n ≤ 6400) (ha : Rd w A a) (hb : Rd w B b) :
    Calls Tryd.prog 22 #[.slice A n c, .slice B n d] w fun e w' => ∃ A' c', e = .returned (.slice A' (diffL a b).length c') ∧ (diffL a b).length ≤ c' ∧ RdG w' A' (diffL a b) ∧ Below w.heap.size w w' := by
  have HN := Hidden.mk (And.intro hn hm)
  have HR := Hidden.mk (And.intro ha hb)
  have HEND : Hidden (goD a b [] 0 n = diffL a b) := ⟨by rw [← hn]; exact goD_all a b (hn.trans hm.symm)⟩
  clear hn hm ha hb
  obtain ⟨i0, hi0, hz0, hz1, hz2⟩ := info_parts change_info
  obtain ⟨j0, hj0, hy0, hy1, hy2⟩ := info_parts byte_info
  go_enter Tryd.func22, Tryd.ntmps22
  go_wp2_with fail
  go_loopg [5, 6, 7] n (fun r ov lv iv wr => ∃ (i : Nat) (L : List Chg) (last : Int), i ≤ n ∧ r = n - i ∧ iv = .int .i64 (i : Int) ∧ lv = .int .i64 last ∧ Hidden (DfS w wr ov L ∧ DfI a b i L last))
  case atStart => exact ⟨0, [], -2, by omega, rfl, rfl, rfl, ⟨dfS_start w, dfI_start a b⟩⟩
  case round =>
    obtain ⟨i, L, last, hi, rfl, rfl, rfl, hs⟩ := hrel
    have HS := Hidden.mk hs.out
    clear hs
    generalize wr = wB at *
    by_cases hlt : i < n
    rotate_left
    · obtain rfl : i = n := by omega
      have t4 : decide ((i : Int) < i) = false := by simp
      have HF : Hidden (∃ A' c', u5 = .slice A' (diffL a b).length c' ∧ (diffL a b).length ≤ c' ∧ RdG wB A' (diffL a b) ∧ Below w.heap.size w wB) := ⟨by
        have hL : L = diffL a b := HS.out.2.go.trans HEND.out
        rw [← hL]
        obtain ⟨A', c', h1, h2, h3⟩ := HS.out.1.rdg
        exact ⟨A', c', h1, h2, h3, HS.out.1.bel⟩⟩
      obtain ⟨A', c', rfl, h2⟩ := HF.out
      have HF2 := Hidden.mk h2
      clear HS HF h2
      go_wp2_with fail
      go_ret
      exact ⟨A', c', rfl, HF2.out⟩
    have t1 : decide ((i : Int) < n) = true := by simp; omega
    have t1' : decide (i < n) = true := by simpa using hlt
    have k0 : (0 : Int) ≤ i := by omega
    have k1 : (i : Int) < n := by omega
    have s0 : IntKind.i64.wrap ((i : Int) + 1) = (i : Int) + 1 := IntWalk.i64_in _ (by omega)
    have s1 : IntKind.i64.wrap ((i : Int) - 1) = (i : Int) - 1 := IntWalk.i64_in _ (by omega)
    have hia : i < a.length := by rw [HN.out.1]; exact hlt
    have hib : i < b.length := by rw [HN.out.2]; exact hlt
    obtain ⟨pa, oa, rfl, ca⟩ := HR.out.1 i hia
    obtain ⟨pb, ob, rfl, cb⟩ := HR.out.2 i hib
    have HCA := Hidden.mk (fun W (hW : Below w.heap.size w W) => And.intro ((hW.cell (p := ⟨pa, oa + i, none⟩) (block_lt_of_cell ca)).trans ca) ((hW.cell (p := ⟨pb, ob + i, none⟩) (block_lt_of_cell cb)).trans cb))
    have HXY : Hidden (a.getD i 0 = a[i] ∧ b.getD i 0 = b[i]) := ⟨by rw [List.getD_eq_getElem?_getD, List.getElem?_eq_getElem hia]; rfl, by rw [List.getD_eq_getElem?_getD, List.getElem?_eq_getElem hib]; rfl⟩
    have HNE : Hidden (a[i]? = b[i]? ↔ a[i] = b[i]) := ⟨by rw [List.getElem?_eq_getElem hia, List.getElem?_eq_getElem hib]; exact ⟨fun h => Option.some.inj h, fun h => by rw [h]⟩⟩
    obtain ⟨x0, y0⟩ := HCA.out wB HS.out.1.bel
    generalize a[i] = x at *
    generalize b[i] = y at *
    clear ca cb hia hib
    go_upto_region 6 with (fail)
    by_cases hxy : x = y
    · have e1 : ((x.toNat : Int) == (y.toNat : Int)) = true := by rw [hxy]; simp
      have HF := Hidden.mk (fun nq => And.intro (HS.out.1.below (below_drewN (Below.refl _ wB) nq)) (HS.out.2.same (HNE.out.2 hxy)))
      clear HS hxy
      go_quiet (fail)
      go_wp2_with fail
      go_roundg (n - (i + 1))
      case measure => omega
      case rel => exact ⟨i + 1, L, last, by omega, rfl, by go_num, rfl, ⟨HF.out _⟩⟩
    have e1 : ((x.toNat : Int) == (y.toNat : Int)) = false := by
      simp only [beq_eq_false_iff_ne, ne_eq]; intro h; apply hxy; rw [← UInt8.toNat_inj]; omega
    have HND : Hidden (a[i]? ≠ b[i]?) := ⟨fun h => hxy (HNE.out.1 h)⟩
    clear hxy
    go_quiet (fail)
    have HS2 := Hidden.mk (And.intro (HS.out.1.below (below_drewN (Below.refl _ wB) nq)) HS.out.2)
    generalize wB.drewN nq = w2 at *
    clear HS x0 y0
    by_cases hl : last = (i : Int) - 1
    · --{{
      obtain ⟨L0, h, rfl⟩ := HS2.out.2.some_ hl
      subst hl
      have e2 : ((i : Int) - 1 == (i : Int) - 1) = true := by simp
      have HLL := HS2.out.2.len
      have hbnd := HS2.out.2.lst h (by simp)
      have HI2 : Hidden (DfI a b (i + 1) (L0 ++ [⟨h.at_, h.old ++ [x], h.new ++ [y]⟩]) i) := ⟨HS2.out.2.more HND.out HXY.out.1 HXY.out.2 rfl⟩
      obtain ⟨xs, Bq, ho, -⟩ := HS2.out.1.ex
      obtain ⟨g, cap, rfl, -, -⟩ := ho.form (by simp)
      rw [show (L0 ++ [h]).length = L0.length + 1 by simp] at HS2 HLL ⊢
      have HD := Hidden.mk HS2.out.1
      obtain ⟨go, co, c1, f1, r1, hgo, hne, hgl, hext⟩ := HD.out.extO
      have HEX := Hidden.mk (And.intro hgo (And.intro hne (And.intro hgl hext)))
      have HR1 := Hidden.mk r1
      obtain ⟨m0, hm0⟩ : ∃ q, L0.length = q := ⟨_, rfl⟩
      rw [hm0] at HS2 HLL HD c1 f1 HEX ⊢
      have HM0 := Hidden.mk hm0
      have s2 : IntKind.i64.wrap ((m0 : Int) + 1 - 1) = (m0 : Int) := by rw [IntWalk.i64_in _ (by omega)]; omega
      have s2' : IntKind.i64.wrap (m0 : Int) = (m0 : Int) := IntWalk.i64_in _ (by omega)
      have m00 : (0 : Int) ≤ m0 := by omega
      have m01 : (m0 : Int) < (m0 : Int) + 1 := by omega
      have m02 : m0 < m0 + 1 := by omega
      obtain ⟨no, hno⟩ : ∃ q, h.old.length = q := ⟨_, rfl⟩
      have hno2 : no ≤ 6400 := by rw [← hno]; omega
      have hbnd2 : h.new.length ≤ 6400 := by omega
      have HNO := Hidden.mk hno
      rw [hno] at c1 HEX
      have hcap : ∃ cc, cc = cap := ⟨_, rfl⟩
      have hmc : m0 + 1 ≤ cap := by
        rcases ho.2 with ⟨e, -⟩ | ⟨g', cap', cur, e, -, -, hc, -⟩
        · cases e
        · injection e with _ _ e3
          rw [e3]; simp at hc; omega
      clear hm0 hno ho hext hgo hne hgl r1 hbnd hcap HS2
      go_upto_region 9 with (fail)
      go_cut [] (fun wx => Hidden (DfS w wx (.slice (some ⟨g, 0, none⟩) (m0 + 1) cap) (L0 ++ [⟨h.at_, h.old ++ [x], h.new⟩])))
      case first =>
        obtain ⟨x0, -⟩ := HCA.out _ HD.out.bel
        have hown : w2.ownsRow w.heap.size 5 1 (.slice (some ⟨go, 0, none⟩) no co) no (h.old.map bv) := by
          have := HR1.out.own HEX.out.1
          unfold Own at this
          rw [HNO.out] at this
          exact this
        have hown2 := own_below hown (below_one (.cells #[bv x] 5))
        have c1a := (((Below.refl w2.heap.size w2).alloc (Nat.le_refl _) (.cells #[bv x] 5)).cell (p := ⟨g, m0 * 3 + 1, none⟩) HEX.out.2.2.1).trans c1
        have hbs := HD.out.bel.size
        go_region_law (first
          | (refine step_append_lies _ (by rfl) _ _ _ (by rfl) w.heap.size 5 j0 _ 1 1 Tryd.underlying41 hj0 hy0 hy1 hy2 rfl (by omega) (.slice (some ⟨go, 0, none⟩) no co) no (h.old.map bv) (by rfl) hown2 ⟨w2.heap.size, 0, none⟩ 1 1 [bv x] (by rfl) (by rfl) (World.news_of_block (cs := #[bv x]) (t := 5) (fr := (0, 0)) (heap_alloc_new w2.drew _)) (by simp [Value.oneCell']) (by omega) (by simp only [maxLen]; omega) (by omega) (by simp; omega) (w2.heap.size + 1) (by simp) ?_; intro g8 cap8 w8 hown8 hg8 hat8 hlt8; have hF := HEX.out.2.2.2 _ w8 g8 cap8 x (below_one _) hown8 hg8 (by simpa [Value.ownBlock] using hat8); have hgW := grown_trans' (below_one (.cells #[bv x] 5)) hg8; have z0 := (World.grownBy.cell_far hgW ⟨g, m0 * 3 + 1, none⟩ HEX.out.2.2.1 (fun e => HEX.out.2.1 (Option.some.inj e))).trans c1; have z1 := (World.grownBy.frozen_far hgW ⟨g, m0 * 3 + 1, none⟩ HEX.out.2.2.1 (fun e => HEX.out.2.1 (Option.some.inj e))).trans f1))
        all_goals
          have HF := Hidden.mk hF
          clear hown8 hg8 hat8 hlt8 hF hgW
          go_wp2_with fail
          go_meet
          exact HF
      case rest =>
      have HD2 := Hidden.mk hcut.out
      generalize wc = w4 at *
      clear hcut HEX HR1 HD c1 f1 HNO
      have hd2 := HD2.out
      rw [← HM0.out] at hd2
      obtain ⟨go2, co2, c2, f2, r2, hgo, hne, hgl, hext⟩ := hd2.extN
      dsimp only at c2 r2 hext
      rw [HM0.out] at c2 f2 hext
      have HR2 := Hidden.mk r2
      have hnl := hbnd2
      obtain ⟨nn, hnn⟩ : ∃ q, h.new.length = q := ⟨_, rfl⟩
      have hnn2 : nn ≤ 6400 := by rw [← hnn]; exact hnl
      have HNN := Hidden.mk hnn
      rw [hnn] at c2 hext
      have HEX := Hidden.mk (And.intro hgo (And.intro hne (And.intro hgl hext)))
      clear hd2 hext hgo hne hgl r2 hnn hnl
      go_upto_region 10 with (fail)
      go_cut [] (fun wx => Hidden (DfS w wx (.slice (some ⟨g, 0, none⟩) (m0 + 1) cap) (L0 ++ [⟨h.at_, h.old ++ [x], h.new ++ [y]⟩])))
      case first =>
        obtain ⟨-, y0⟩ := HCA.out _ HD2.out.bel
        have hown : w4.ownsRow w.heap.size 5 1 (.slice (some ⟨go2, 0, none⟩) nn co2) nn (h.new.map bv) := by
          have := HR2.out.own HEX.out.1
          unfold Own at this
          rw [HNN.out] at this
          exact this
        have hown2 := own_below hown (below_one (.cells #[bv y] 5))
        have c2a := (((Below.refl w4.heap.size w4).alloc (Nat.le_refl _) (.cells #[bv y] 5)).cell (p := ⟨g, m0 * 3 + 2, none⟩) HEX.out.2.2.1).trans c2
        have hbs := HD2.out.bel.size
        go_region_law (first
          | (refine step_append_lies _ (by rfl) _ _ _ (by rfl) w.heap.size 5 j0 _ 1 1 Tryd.underlying41 hj0 hy0 hy1 hy2 rfl (by omega) (.slice (some ⟨go2, 0, none⟩) nn co2) nn (h.new.map bv) (by rfl) hown2 ⟨w4.heap.size, 0, none⟩ 1 1 [bv y] (by rfl) (by rfl) (World.news_of_block (cs := #[bv y]) (t := 5) (fr := (0, 0)) (heap_alloc_new w4.drew _)) (by simp [Value.oneCell']) (by omega) (by simp only [maxLen]; omega) (by omega) (by simp; omega) (w4.heap.size + 1) (by simp) ?_; intro g8 cap8 w8 hown8 hg8 hat8 hlt8; have hF := HEX.out.2.2.2 _ w8 g8 cap8 y (below_one _) hown8 hg8 (by simpa [Value.ownBlock] using hat8); have hgW := grown_trans' (below_one (.cells #[bv y] 5)) hg8; have z0 := (World.grownBy.cell_far hgW ⟨g, m0 * 3 + 2, none⟩ HEX.out.2.2.1 (fun e => HEX.out.2.1 (Option.some.inj e))).trans c2; have z1 := (World.grownBy.frozen_far hgW ⟨g, m0 * 3 + 2, none⟩ HEX.out.2.2.1 (fun e => HEX.out.2.1 (Option.some.inj e))).trans f2))
        all_goals
          have HF := Hidden.mk hF
          clear hown8 hg8 hat8 hlt8 hF hgW
          go_wp2_with fail
          go_meet
          exact HF
      case rest =>
      have HN3 := Hidden.mk (And.intro hcut.out HI2.out)
      clear hcut HD2 HEX HR2 c2 f2 HNN
      go_wp2_with fail
      go_roundg (n - (i + 1))
      case measure => omega
      case rel => exact ⟨i + 1, _, (i : Int), by omega, rfl, by go_num, rfl, HN3⟩
      --}}
    · --{{
      have e2 : (last == (i : Int) - 1) = false := by simpa using hl
      have HI2 : Hidden (DfI a b (i + 1) (L ++ [⟨i, [x], [y]⟩]) i) := ⟨HS2.out.2.fresh HND.out HXY.out.1 HXY.out.2 hl⟩
      have HLL := HS2.out.2.len
      obtain ⟨xs, Bq, ho, -⟩ := HS2.out.1.ex
      obtain ⟨A5, c5, rfl, hc5, -⟩ := own_splitC ho
      have HX : Hidden (∀ ys, w2.ownsRow w.heap.size 98 3 (.slice A5 L.length c5) L.length ys → ys = xs) := ⟨fun ys hy => own_uniq hy ho⟩
      have HO := Hidden.mk ho
      have s2 : IntKind.i64.wrap ((L.length : Int) - 1) = (L.length : Int) - 1 := IntWalk.i64_in _ (by omega)
      obtain ⟨m0, hm0⟩ : ∃ q, L.length = q := ⟨_, rfl⟩
      have HM0 := Hidden.mk hm0
      have HS3 := Hidden.mk HS2.out.1
      rw [hm0] at HLL hc5 HX HO s2 HS3 ⊢
      clear ho hl hm0 HS2
      go_upto_region 11 with (fail)
      go_cut [5] (fun v wx => Hidden (DfS w wx v (L ++ [⟨i, [x], [y]⟩])))
      case first =>
        obtain ⟨x0, y0⟩ := HCA.out _ HS3.out.bel
        have hbs := HS3.out.bel.size
        have hb1 := below_three (w := w2) (.cells #[bv x] 5) (.cells #[bv y] 5) (.cells #[.int .i64 (i : Int), .slice (some ⟨w2.heap.size, 0, none⟩) 1 1, .slice (some ⟨w2.heap.size + 1, 0, none⟩) 1 1] 98)
        have hb2 := below_three (w := w2) (.cells #[bv y] 5) (.cells #[bv x] 5) (.cells #[.int .i64 (i : Int), .slice (some ⟨w2.heap.size + 1, 0, none⟩) 1 1, .slice (some ⟨w2.heap.size, 0, none⟩) 1 1] 98)
        have x1 := (((Below.refl w2.heap.size w2).alloc (Nat.le_refl _) (.cells #[bv y] 5)).cell (p := ⟨pa, oa + i, none⟩) (block_lt_of_cell x0)).trans x0
        have y1 := (((Below.refl w2.heap.size w2).alloc (Nat.le_refl _) (.cells #[bv x] 5)).cell (p := ⟨pb, ob + i, none⟩) (block_lt_of_cell y0)).trans y0
        have HFIN : Hidden (∀ (g1 g2 : Nat) (W : World) (w8 : World) (v8 : Value), Below w2.heap.size w2 W → w8.ownsRow w.heap.size 98 3 v8 (m0 + 1) (xs ++ [.int .i64 (i : Int), .slice (some ⟨g1, 0, none⟩) 1 1, .slice (some ⟨g2, 0, none⟩) 1 1]) → W.grownBy w8 (Value.slice A5 m0 c5).ownBlock → Row W 5 g1 1 [x] → Row W 5 g2 1 [y] → w2.heap.size ≤ g1 → w2.heap.size ≤ g2 → g1 ≠ g2 → DfS w w8 v8 (L ++ [⟨i, [x], [y]⟩])) := ⟨fun g1 g2 W w8 v8 hb ho hg r1 r2 n1 n2 hne => by
          have hgW := grown_trans' hb hg
          have hz := (HO.out.lt)
          refine HS3.out.snoc (xs := xs) ?_ ?_ hgW (r1.grown hg ?_) (r2.grown hg ?_) n1 n2 hne
          · rw [HM0.out]; exact HX.out
          · rw [HM0.out]; exact ho
          · intro e; have := (hz _ e).2; omega
          · intro e; have := (hz _ e).2; omega⟩
        go_region_law (first
          | (refine step_append_lies _ (by rfl) _ _ _ (by rfl) w.heap.size 98 i0 _ 3 56 Tryd.underlying56 hi0 hz0 hz1 hz2 rfl (by omega) (.slice A5 m0 c5) m0 xs (by rfl) (own_below HO.out hb1) ⟨w2.heap.size + 2, 0, none⟩ 1 1 [.int .i64 (i : Int), .slice (some ⟨w2.heap.size, 0, none⟩) 1 1, .slice (some ⟨w2.heap.size + 1, 0, none⟩) 1 1] (by rfl) (by rfl) (World.news_of_block (cs := #[.int .i64 (i : Int), .slice (some ⟨w2.heap.size, 0, none⟩) 1 1, .slice (some ⟨w2.heap.size + 1, 0, none⟩) 1 1]) (t := 98) (fr := (0, 0)) (by exact three_at w2 _ _ _)) (by simp [Value.oneCell']) (by omega) (by simp only [maxLen]; omega) (by omega) (by simp; omega) (w2.heap.size + 3) (by simp) ?_; intro g8 cap8 w8 hown8 hg8 hat8 hlt8; have hF := HFIN.out w2.heap.size (w2.heap.size + 1) _ w8 (.slice (some ⟨g8, 0, none⟩) (m0 + 1) cap8) hb1 hown8 hg8 (by exact row_two1 _ _ _ _) (by exact row_two2 _ _ _ _) (by omega) (by omega) (by omega))
          | (refine step_append_lies _ (by rfl) _ _ _ (by rfl) w.heap.size 98 i0 _ 3 56 Tryd.underlying56 hi0 hz0 hz1 hz2 rfl (by omega) (.slice A5 m0 c5) m0 xs (by rfl) (own_below HO.out hb2) ⟨w2.heap.size + 2, 0, none⟩ 1 1 [.int .i64 (i : Int), .slice (some ⟨w2.heap.size + 1, 0, none⟩) 1 1, .slice (some ⟨w2.heap.size, 0, none⟩) 1 1] (by rfl) (by rfl) (World.news_of_block (cs := #[.int .i64 (i : Int), .slice (some ⟨w2.heap.size + 1, 0, none⟩) 1 1, .slice (some ⟨w2.heap.size, 0, none⟩) 1 1]) (t := 98) (fr := (0, 0)) (by exact three_at w2 _ _ _)) (by simp [Value.oneCell']) (by omega) (by simp only [maxLen]; omega) (by omega) (by simp; omega) (w2.heap.size + 3) (by simp) ?_; intro g8 cap8 w8 hown8 hg8 hat8 hlt8; have hF := HFIN.out (w2.heap.size + 1) w2.heap.size _ w8 (.slice (some ⟨g8, 0, none⟩) (m0 + 1) cap8) hb2 hown8 hg8 (by exact row_two2 _ _ _ _) (by exact row_two1 _ _ _ _) (by omega) (by omega) (by omega)))
        all_goals
          have HF := Hidden.mk hF
          clear hown8 hg8 hat8 hlt8 hF
          go_wp2_with fail
          go_meet
          exact HF
      case rest =>
      have HN3 := Hidden.mk (And.intro hcut.out HI2.out)
      clear hcut HS3 HX HO HM0
      go_wp2_with fail
      go_roundg (n - (i + 1))
      case measure => omega
      case rel => exact ⟨i + 1, _, (i : Int), by omega, rfl, by go_num, rfl, HN3⟩
      --}}
end Go.Proofs.YtbnobjlphmkgeaaDoor
/- Laid: library functions whose contracts are proved over whatever program: the table of numbers, and a field a function or a type. -/
namespace Go.Proofs.YtbnobjlphmkgeaaDoor
open Go.Shelf
def keysB_ren : Go.Shelf.Ren := ⟨fun | 7 => 53 | 10 => 63 | n => n, fun | 23 => 101 | 26 => 3 | 3 => 4 | 28 => 104 | 0 => 0 | 27 => 103 | 33 => 113 | 4 => 4 | n => n, fun | n => n⟩
theorem keysB : Go.Proofs.SlLaysZI.n7 Tryd.prog keysB_ren := {
  mixed := by kernel_rfl
  f7 := ⟨Tryd.f53.name, by decide, Tryd.func53.trans (congrArg some (by kernel_rfl))⟩
  f10 := ⟨Tryd.f63.name, by decide, Tryd.func63.trans (congrArg some (by kernel_rfl))⟩
  t0 := Tryd.underlying0
  a0 := Tryd.isAgg0
  z0 := Tryd.sizeOf0
  v0 := Tryd.zeroValue0
  t4 := Tryd.underlying4
  a4 := Tryd.isAgg4
  z4 := Tryd.sizeOf4
  v4 := Tryd.zeroValue4
  t23 := Tryd.underlying101
  a23 := Tryd.isAgg101
  z23 := Tryd.sizeOf101
  v23 := Tryd.zeroValue101
  t26 := Tryd.underlying3
  a26 := Tryd.isAgg3
  z26 := Tryd.sizeOf3
  v26 := Tryd.zeroValue3
  t27 := Tryd.underlying103
  a27 := Tryd.isAgg103
  z27 := Tryd.sizeOf103
  v27 := Tryd.zeroValue103
  t28 := Tryd.underlying104
  a28 := Tryd.isAgg104
  z28 := Tryd.sizeOf104
  v28 := Tryd.zeroValue104
  t33 := Tryd.underlying113
  a33 := Tryd.isAgg113
  z33 := Tryd.sizeOf113
  v33 := Tryd.zeroValue113 }
def sortedI_ren : Go.Shelf.Ren := ⟨fun | 6 => 52 | 8 => 61 | 9 => 62 | 11 => 69 | 13 => 71 | 12 => 70 | 23 => 84 | 24 => 85 | 14 => 75 | 15 => 76 | 16 => 77 | 17 => 78 | 18 => 79 | 19 => 80 | 20 => 81 | 21 => 82 | 22 => 83 | 25 => 86 | 26 => 87 | 27 => 88 | 28 => 89 | 29 => 90 | 30 => 91 | 31 => 92 | n => n, fun | 26 => 3 | 28 => 104 | 24 => 40 | 0 => 0 | 3 => 3 | 37 => 129 | 48 => 153 | 50 => 155 | 4 => 4 | 40 => 145 | 39 => 144 | 45 => 150 | 5 => 5 | 9 => 9 | 51 => 156 | 55 => 160 | 57 => 162 | 58 => 163 | 33 => 113 | n => n, fun | n => n⟩
theorem sortedI : Go.Proofs.SlLaysZI.n6 Tryd.prog sortedI_ren := {
  mixed := by kernel_rfl
  f6 := ⟨Tryd.f52.name, by decide, Tryd.func52.trans (congrArg some (by kernel_rfl))⟩
  f8 := ⟨Tryd.f61.name, by decide, Tryd.func61.trans (congrArg some (by kernel_rfl))⟩
  f11 := ⟨Tryd.f69.name, by decide, Tryd.func69.trans (congrArg some (by kernel_rfl))⟩
  t0 := Tryd.underlying0
  a0 := Tryd.isAgg0
  z0 := Tryd.sizeOf0
  v0 := Tryd.zeroValue0
  t24 := Tryd.underlying40
  a24 := Tryd.isAgg40
  z24 := Tryd.sizeOf40
  v24 := Tryd.zeroValue40
  t26 := Tryd.underlying3
  a26 := Tryd.isAgg3
  z26 := Tryd.sizeOf3
  v26 := Tryd.zeroValue3
  t28 := Tryd.underlying104
  a28 := Tryd.isAgg104
  z28 := Tryd.sizeOf104
  v28 := Tryd.zeroValue104
  i26 := by kernel_rfl }
def sortI_ren : Go.Shelf.Ren := ⟨fun | 5 => 62 | 8 => 71 | 7 => 70 | 19 => 84 | 20 => 85 | 10 => 75 | 11 => 76 | 12 => 77 | 13 => 78 | 14 => 79 | 15 => 80 | 16 => 81 | 17 => 82 | 18 => 83 | 30 => 86 | 31 => 87 | 32 => 88 | 33 => 89 | 34 => 90 | 35 => 91 | 40 => 92 | n => n, fun | 23 => 40 | 25 => 3 | 3 => 3 | 32 => 129 | 22 => 40 | 0 => 0 | 44 => 153 | 46 => 155 | 4 => 4 | 36 => 145 | 35 => 144 | 41 => 150 | 5 => 5 | 9 => 9 | 53 => 156 | 57 => 160 | 63 => 162 | 64 => 163 | n => n, fun | n => n⟩
theorem sortI : Go.Proofs.SlLaysM.n5 Tryd.prog sortI_ren := {
  mixed := by kernel_rfl
  f5 := ⟨Tryd.f62.name, by decide, Tryd.func62.trans (congrArg some (by kernel_rfl))⟩
  f7 := ⟨Tryd.f70.name, by decide, Tryd.func70.trans (congrArg some (by kernel_rfl))⟩
  f8 := Tryd.func71.trans (congrArg some (by kernel_rfl))
  f10 := ⟨Tryd.f75.name, by decide, Tryd.func75.trans (congrArg some (by kernel_rfl))⟩
  f11 := ⟨Tryd.f76.name, by decide, Tryd.func76.trans (congrArg some (by kernel_rfl))⟩
  f12 := ⟨Tryd.f77.name, by decide, Tryd.func77.trans (congrArg some (by kernel_rfl))⟩
  f13 := ⟨Tryd.f78.name, by decide, Tryd.func78.trans (congrArg some (by kernel_rfl))⟩
  f14 := ⟨Tryd.f79.name, by decide, Tryd.func79.trans (congrArg some (by kernel_rfl))⟩
  f15 := ⟨Tryd.f80.name, by decide, Tryd.func80.trans (congrArg some (by kernel_rfl))⟩
  f16 := ⟨Tryd.f81.name, by decide, Tryd.func81.trans (congrArg some (by kernel_rfl))⟩
  f17 := ⟨Tryd.f82.name, by decide, Tryd.func82.trans (congrArg some (by kernel_rfl))⟩
  f18 := ⟨Tryd.f83.name, by decide, Tryd.func83.trans (congrArg some (by kernel_rfl))⟩
  f19 := Tryd.func84.trans (congrArg some (by kernel_rfl))
  f20 := Tryd.func85.trans (congrArg some (by kernel_rfl))
  f30 := ⟨Tryd.f86.name, by decide, Tryd.func86.trans (congrArg some (by kernel_rfl))⟩
  f31 := Tryd.func87.trans (congrArg some (by kernel_rfl))
  f32 := Tryd.func88.trans (congrArg some (by kernel_rfl))
  f33 := ⟨Tryd.f89.name, by decide, Tryd.func89.trans (congrArg some (by kernel_rfl))⟩
  f34 := ⟨Tryd.f90.name, by decide, Tryd.func90.trans (congrArg some (by kernel_rfl))⟩
  f35 := ⟨Tryd.f91.name, by decide, Tryd.func91.trans (congrArg some (by kernel_rfl))⟩
  f40 := ⟨Tryd.f92.name, by decide, Tryd.func92.trans (congrArg some (by kernel_rfl))⟩
  t0 := Tryd.underlying0
  a0 := Tryd.isAgg0
  z0 := Tryd.sizeOf0
  v0 := Tryd.zeroValue0
  t3 := Tryd.underlying3
  a3 := Tryd.isAgg3
  z3 := Tryd.sizeOf3
  v3 := Tryd.zeroValue3
  t4 := Tryd.underlying4
  a4 := Tryd.isAgg4
  z4 := Tryd.sizeOf4
  v4 := Tryd.zeroValue4
  t5 := Tryd.underlying5
  a5 := Tryd.isAgg5
  z5 := Tryd.sizeOf5
  v5 := Tryd.zeroValue5
  t9 := Tryd.underlying9
  a9 := Tryd.isAgg9
  z9 := Tryd.sizeOf9
  v9 := Tryd.zeroValue9
  t22 := Tryd.underlying40
  a22 := Tryd.isAgg40
  z22 := Tryd.sizeOf40
  v22 := Tryd.zeroValue40
  t23 := Tryd.underlying40
  a23 := Tryd.isAgg40
  z23 := Tryd.sizeOf40
  v23 := Tryd.zeroValue40
  t25 := Tryd.underlying3
  a25 := Tryd.isAgg3
  z25 := Tryd.sizeOf3
  v25 := Tryd.zeroValue3
  t32 := Tryd.underlying129
  a32 := Tryd.isAgg129
  z32 := Tryd.sizeOf129
  v32 := Tryd.zeroValue129
  t35 := Tryd.underlying144
  a35 := Tryd.isAgg144
  z35 := Tryd.sizeOf144
  v35 := Tryd.zeroValue144
  t36 := Tryd.underlying145
  a36 := Tryd.isAgg145
  z36 := Tryd.sizeOf145
  v36 := Tryd.zeroValue145
  t41 := Tryd.underlying150
  a41 := Tryd.isAgg150
  z41 := Tryd.sizeOf150
  v41 := Tryd.zeroValue150
  t44 := Tryd.underlying153
  a44 := Tryd.isAgg153
  z44 := Tryd.sizeOf153
  v44 := Tryd.zeroValue153
  t46 := Tryd.underlying155
  a46 := Tryd.isAgg155
  z46 := Tryd.sizeOf155
  v46 := Tryd.zeroValue155
  t53 := Tryd.underlying156
  a53 := Tryd.isAgg156
  z53 := Tryd.sizeOf156
  v53 := Tryd.zeroValue156
  t57 := Tryd.underlying160
  a57 := Tryd.isAgg160
  z57 := Tryd.sizeOf160
  v57 := Tryd.zeroValue160
  t63 := Tryd.underlying162
  a63 := Tryd.isAgg162
  z63 := Tryd.sizeOf162
  v63 := Tryd.zeroValue162
  t64 := Tryd.underlying163
  a64 := Tryd.isAgg163
  z64 := Tryd.sizeOf163
  v64 := Tryd.zeroValue163 }
end Go.Proofs.YtbnobjlphmkgeaaDoor
/- slices.Sorted(maps.Keys(m)) of maps from numbers to booleans. -/
namespace Go.Proofs.YtbnobjlphmkgeaaDoor
open Go.RowKit Go.Maps Go.ChangeMaps Go.Sort Go.Shelf

section
variable {P : Program} {K : TypeId} {w : World} {b cnt : Nat} {f : Nat → Option Value}
/-- the keys of a map that is told by a function -/
theorem IM.keys (h : IM P K natL w b f cnt) (hK : P.underlying K = some (.int .i64)) :
    ∃ D : DataW Value, w.ownsMap P K heldR b cnt D ∧ Maps.size D = cnt ∧ (intKeys D).Nodup ∧ (∀ x ∈ intKeys D, ∃ k : Nat, x = k ∧ (f k).isSome = true) ∧ ∀ k, (f k).isSome = true → (k : Int) ∈ intKeys D := by
  obtain ⟨D, hown, hs, hh⟩ := h
  have hK2 := Go.Maps.int_keyed hK
  refine ⟨D, hown, hs, ?_⟩
  obtain ⟨L, hD, hp, _⟩ := hown.entries hK2
  obtain ⟨L', hD', hko⟩ := hown.keysOf
  obtain rfl : L = L' := by rw [hD] at hD'; simpa using hD'
  subst hD
  have hint : ∀ p ∈ L, ∃ x, p.1 = .int .i64 x := fun p hp => by
    obtain ⟨v, hv⟩ := hko p hp
    obtain ⟨x, _, hx, _⟩ := Maps.keyOf_i64 hK hv
    exact ⟨x, hx⟩
  clear hown hD'
  have hmem : ∀ x : Int, x ∈ intKeys (.map L) ↔ has (.map L) (.int .i64 x) = true := fun x => by
    rw [has_eq, List.any_eq_true]
    show x ∈ L.map (fun p => Go.intOf p.1) ↔ _
    rw [List.mem_map]
    constructor
    · rintro ⟨p, hp', rfl⟩
      obtain ⟨a, ha⟩ := hint p hp'
      exact ⟨p, hp', by rw [ha]; simp [Lit.sameKey, Go.intOf]⟩
    · rintro ⟨p, hp', hs'⟩
      obtain ⟨a, ha⟩ := hint p hp'
      rw [ha] at hs'
      exact ⟨p, hp', by rw [ha]; simpa [Lit.sameKey, Go.intOf] using hs'⟩
  refine ⟨?_, fun x hx => ?_, fun k hk => ?_⟩
  · show (L.map fun p => Go.intOf p.1).Nodup
    refine List.pairwise_map.2 (hp.imp_of_mem fun {p q} hp' hq' hne e => hne ?_)
    obtain ⟨a, ha⟩ := hint p hp'
    obtain ⟨c, hc⟩ := hint q hq'
    rw [ha, hc] at e ⊢
    exact congrArg _ e
  · obtain ⟨k, e, hk⟩ := hh.2 _ ((hmem x).1 hx)
    unfold natL at e
    injection e with _ e
    exact ⟨k, e, hk⟩
  · obtain ⟨v, hv⟩ := Option.isSome_iff_exists.1 hk
    exact (hmem k).2 ((hh.1 k).2 v hv).1
end
/-- a list of numbers that rises, with just the keys of f -/
structure KeysOf (f : Nat → Option Value) (S : List Nat) : Prop where
  up : S.Pairwise (· < ·)
  mem : ∀ k, k ∈ S ↔ (f k).isSome = true
theorem keys_sorted {f : Nat → Option Value} {L ss : List Int} (hp : ss.Perm L) (hn : L.Nodup) (h1 : ∀ x ∈ L, ∃ k : Nat, x = k ∧ (f k).isSome = true) (h2 : ∀ k, (f k).isSome = true → (k : Int) ∈ L) :
    ∃ S : List Nat, ss.mergeSort leI = S.map (fun i : Nat => (i : Int)) ∧ KeysOf f S := by
  have tr : ∀ a b c : Int, leI a b = true → leI b c = true → leI a c = true := fun a b c h1 h2 => by simp only [leI, decide_eq_true_eq] at *; exact Int.le_trans h1 h2
  have tot : ∀ a b : Int, (leI a b || leI b a) = true := fun a b => by simp only [leI, Bool.or_eq_true, decide_eq_true_eq]; exact Int.le_total a b
  have hpm : (ss.mergeSort leI).Perm L := (List.mergeSort_perm ss leI).trans hp
  have hs := List.pairwise_mergeSort tr tot ss
  have hnd : (ss.mergeSort leI).Nodup := hpm.nodup_iff.2 hn
  have hm : ∀ x, x ∈ ss.mergeSort leI ↔ x ∈ L := fun x => hpm.mem_iff
  generalize ss.mergeSort leI = T at *
  have hcast : T = (T.map Int.toNat).map (fun i : Nat => (i : Int)) := by
    rw [List.map_map]
    conv => lhs; rw [← List.map_id T]
    refine List.map_congr_left fun x hx => ?_
    obtain ⟨k, rfl, _⟩ := h1 x ((hm x).1 hx)
    simp
  refine ⟨T.map Int.toNat, hcast, ?_, fun k => ?_⟩
  · refine List.pairwise_map.2 ?_
    refine (hs.and hnd).imp_of_mem fun {a b} ha hb hab => ?_
    obtain ⟨x, rfl, _⟩ := h1 a ((hm a).1 ha)
    obtain ⟨y, rfl, _⟩ := h1 b ((hm b).1 hb)
    have e1 := of_decide_eq_true hab.1
    have e2 := hab.2
    simp only [Int.toNat_natCast]
    omega
  · rw [List.mem_map]
    constructor
    · rintro ⟨x, hx, rfl⟩
      obtain ⟨y, rfl, hy⟩ := h1 x ((hm x).1 hx)
      simpa using hy
    · intro hk
      exact ⟨(k : Int), (hm _).2 (h2 k hk), by simp⟩
theorem sorts_int (m : Nat) : AnyZI.SortsIn Tryd.prog sortedI_ren Fence.wide m :=
  ⟨fun blk off cap ss W hH hblk hsz => callsIn_wide.2 (AnyM.slices_Sort_int sortI blk off cap ss W hH hblk hsz),
   fun p cap W => callsIn_wide.2 (AnyM.slices_Sort_int_none sortI p cap W)⟩
theorem keys_call (b : Nat) (w : World) : Calls Tryd.prog 53 #[.map (some b)] w fun e w' => e = .returned (.func (.func 63) #[] #[.pointer (some ⟨w.heap.size, 0, none⟩)]) ∧ w' = w.alloc (.cells #[.map (some b)] 101) := by
  have cK : CallsIn Fence.wide 5 Tryd.prog 53 #[.map (some b)] w fun e w' => e = .returned (.func (.func 63) #[] #[.pointer (some ⟨w.heap.size, 0, none⟩)]) ∧ w' = w.alloc (.cells #[.map (some b)] 101) := AnyZI.keys_in keysB Fence.wide 5 trivial rfl (some b) w
  exact callsIn_wide.1 cK
theorem sorted_call (b cnt : Nat) (f : Nat → Option Value) (w : World) (h : IM Tryd.prog 3 natL w b f cnt) (hc : cnt ≤ 100000) :
    Calls Tryd.prog 52 #[.func (.func 63) #[] #[.pointer (some ⟨w.heap.size, 0, none⟩)]] (w.alloc (.cells #[.map (some b)] 101)) fun e w' => ∃ v S, e = .returned v ∧ KeysOf f S ∧
      w'.ownsRow w.heap.size 3 1 v S.length (S.map fun i : Nat => .int .i64 (i : Int)) ∧ Below w.heap.size w w' := by
  obtain ⟨D, hown, hs, hn, h1, h2⟩ := h.keys Tryd.underlying3
  have hbl := hown.lt
  have hseq : SeqGives Fence.wide 2 Tryd.prog 63 #[.pointer (some ⟨w.heap.size, 0, none⟩)] encZ (fun ss => ss.Perm (intKeys D)) (Maps.size D) (w.alloc (.cells #[.map (some b)] 101)) :=
    AnyZI.keys_gives (ρ := keysB_ren) { keysB with } Fence.wide _ trivial rfl (by omega) w.heap.size b cnt D _ (by simp) (by simp) (by
      obtain ⟨es, clock, hb, Ft, hs, hD⟩ := hown
      exact ⟨es, clock, (Below.heap_alloc _ _ b hbl).trans hb, Ft, hs, hD⟩)
  have cS := AnyZI.sorted_in sortedI Fence.wide 5 trivial trivial trivial trivial rfl (by omega) (sorts_int _) (enters_of Tryd.func62 (by kernel_rfl) rfl) 63 #[.pointer (some ⟨w.heap.size, 0, none⟩)] trivial (enters_of Tryd.func63 (by kernel_rfl) rfl) _ _ (by rw [hs]; simp only [maxLen]; omega) (by rw [hs]; omega) _ hseq
  change CallsIn _ _ Tryd.prog 52 _ _ _ at cS
  refine (callsIn_wide.1 cS).mono ?_
  rintro e w' ⟨v, ss, rfl, hS, hrow, -, hb⟩
  obtain ⟨S, e1, e2⟩ := keys_sorted hS hn h1 h2
  have hlen : S.length = ss.length := by
    have := congrArg List.length e1
    rw [List.length_map, List.length_mergeSort] at this
    omega
  refine ⟨v, S, rfl, e2, ?_, ((Below.refl _ w).alloc (Nat.le_refl _) _).trans (hb.mono (by simp))⟩
  have e3 : (ss.mergeSort (fun x y => decide (x ≤ y))).map encZ = S.map fun i : Nat => .int .i64 (i : Int) := by
    show (ss.mergeSort leI).map encZ = _
    rw [e1, List.map_map]; rfl
  rw [e3, ← hlen] at hrow
  exact ownsRow_base_a hrow (by simp)
end Go.Proofs.YtbnobjlphmkgeaaDoor
/- The contract of diff.Pages. -/
namespace Go.Proofs.YtbnobjlphmkgeaaDoor
open Go.RowKit Go.Maps Go.ChangeMaps

/-- a set of numbers, as a map has it -/
def setF (S : Nat → Bool) (q : Nat) : Option Value := if S q = true then some (.bool true) else none
theorem setF_upd (S : Nat → Bool) (k : Nat) : upd (setF S) k (.bool true) = setF (fun q => S q || (k == q)) := by
  funext x
  unfold upd setF
  by_cases hx : x = k
  · subst hx; simp
  · rw [if_neg hx]
    have : (k == x) = false := by simpa using fun e => hx e.symm
    simp [this]
theorem IM.size_le {P : Program} {K : TypeId} {w : World} {b cnt : Nat} {f : Nat → Option Value} (h : IM P K natL w b f cnt) (hK : P.underlying K = some (.int .i64)) (n : Nat) (hn : ∀ k, (f k).isSome = true → k < n) : cnt ≤ n := by
  obtain ⟨D, hown, hs, hnd, h1, _⟩ := h.keys hK
  have hl : (intKeys D).length = cnt := by
    obtain ⟨L, hD, _⟩ := hown.entries (Go.Maps.int_keyed hK)
    subst hD
    rw [← hs]; simp [intKeys, Maps.size]
  have hm : ((intKeys D).map Int.toNat).Nodup := by
    refine List.pairwise_map.2 (hnd.imp_of_mem fun {a b} ha hb hne e => hne ?_)
    obtain ⟨x, rfl, _⟩ := h1 a ha
    obtain ⟨y, rfl, _⟩ := h1 b hb
    simp only [Int.toNat_natCast] at e
    rw [e]
  have := nodup_le n ((intKeys D).map Int.toNat) hm (fun x hx => by
    obtain ⟨y, hy, rfl⟩ := List.mem_map.1 hx
    obtain ⟨z, rfl, hz⟩ := h1 y hy
    exact hn z hz)
  rw [List.length_map, hl] at this
  exact this
/-- the pages that a change touches, of its first j bytes; that changes touch -/
def tchC (a : Nat) (j q : Nat) : Bool := (List.range j).any fun i => (a + i) / 32 == q
theorem tchC_succ (a j q : Nat) : tchC a (j + 1) q = (tchC a j q || ((a + j) / 32 == q)) := by
  unfold tchC
  rw [List.range_succ, List.any_append]; simp
def tchL (L : List Chg) (q : Nat) : Bool := L.any fun c => tchC c.at_.toNat c.new.length q
theorem tchL_succ (L : List Chg) (k q : Nat) (hk : k < L.length) : tchL (L.take (k + 1)) q = (tchL (L.take k) q || tchC L[k].at_.toNat L[k].new.length q) := by
  unfold tchL
  rw [List.take_succ_eq_append_getElem hk, List.any_append]; simp
/-- a change that lies within an image -/
def InC (c : Chg) : Prop := 0 ≤ c.at_ ∧ c.at_ < 6400 ∧ c.at_ + c.new.length ≤ 6400
theorem tchC_lt {a j q : Nat} (h : tchC a j q = true) (hj : a + j ≤ 6400) : q < 200 := by
  obtain ⟨i, hi, e⟩ := List.any_eq_true.1 h
  have := List.mem_range.1 hi
  have := beq_iff_eq.1 e
  omega
theorem tchL_lt {L : List Chg} (hL : ∀ c ∈ L, InC c) {q : Nat} (h : tchL L q = true) : q < 200 := by
  obtain ⟨c, hc, e⟩ := List.any_eq_true.1 h
  obtain ⟨a, b, d⟩ := hL c hc
  exact tchC_lt e (by omega)
structure DpSt (w wr : World) (mb : Nat) (S : Nat → Bool) : Prop where
  im : ∃ cnt, IM Tryd.prog 3 natL wr mb (setF S) cnt ∧ cnt ≤ 200
  bel : Below w.heap.size w wr
  new : w.heap.size ≤ mb
/-- what diff.Pages says -/
def DpAns (w : World) (L : List Chg) (e : Ending) (w' : World) : Prop := ∃ (v : Value) (S : List Nat), e = .returned (.tuple #[v, .nilIface]) ∧ S.Pairwise (· < ·) ∧ (∀ k, k ∈ S ↔ tchL L k = true) ∧ w'.ownsRow w.heap.size 3 1 v S.length (S.map fun i : Nat => .int .i64 (i : Int)) ∧ Below w.heap.size w w'
theorem dpAns_mk {w w' : World} {L : List Chg} {e : Ending} {v : Value} {S : List Nat} (h : e = .returned (.tuple #[v, .nilIface])) (hh : S.Pairwise (· < ·) ∧ (∀ k, k ∈ S ↔ tchL L k = true) ∧ w'.ownsRow w.heap.size 3 1 v S.length (S.map fun i : Nat => .int .i64 (i : Int)) ∧ Below w.heap.size w w') : DpAns w L e w' := ⟨v, S, h, hh⟩
theorem own_base' {w : World} {b b' : Nat} {e : TypeId} {size n : Nat} {v : Value} {xs : List Value} (h : w.ownsRow b e size v n xs) (hb : b' ≤ b) : w.ownsRow b' e size v n xs := by
  refine ⟨h.1, ?_⟩
  rcases h.2 with h1 | ⟨g, cap, cur, a1, a2, a3⟩
  · exact .inl h1
  · exact .inr ⟨g, cap, cur, a1, Nat.le_trans hb a2, a3⟩
set_option maxRecDepth 100000 in
theorem dpages_ok (A : Option Addr) (m c : Nat) (L : List Chg) (w : World) (hm : L.length = m) (hr : RdG w A L) (hin : ∀ c ∈ L, InC c) (hml : m ≤ 281474976710656) :
    Calls Tryd.prog 28 #[.slice A m c] w (DpAns w L) := by
  have HM := Hidden.mk hm
  have HR := Hidden.mk hr
  have HI := Hidden.mk hin
  have hmm := @run_makeMap Tryd.prog
  have HST : Hidden (DpSt w (w.alloc (.map #[] 0)) w.heap.size (tchL (L.take 0))) := ⟨⟨⟨0, IM.made w, by omega⟩, (Below.refl _ _).alloc (Nat.le_refl _) _, Nat.le_refl _⟩⟩
  clear hm hr hin
  go_enter Tryd.func28, Tryd.ntmps28
  go_wp2_with fail
  clear hmm
  go_loopg [11] m (fun r i wr => ∃ k : Nat, k ≤ m ∧ r = m - k ∧ i = .int .i64 (k : Int) ∧ Hidden (DpSt w wr w.heap.size (tchL (L.take k))))
  case atStart => exact ⟨0, by omega, rfl, rfl, HST⟩
  case round =>
    obtain ⟨k, hk, rfl, rfl, hst⟩ := hrel
    by_cases hlt : k < m
    · have i0 : (0 : Int) ≤ k := by omega
      have i1 : (k : Int) < m := by omega
      have hkl : k < L.length := by rw [HM.out]; exact hlt
      have s0 : IntKind.i64.wrap ((k : Int) + 1) = (k : Int) + 1 := IntWalk.i64_in _ (by omega)
      obtain ⟨g, off, Ao, An, co, cn, rfl, hch⟩ := (HR.out.below hst.out.bel) k hkl
      obtain ⟨x0, x1, x2⟩ := hch
      have HS := Hidden.mk (fun q => tchL_succ L k q hkl)
      have hic := HI.out L[k] (List.getElem_mem hkl)
      have HTL : Hidden (∀ q, tchL (L.take k) q = true → q < 200) := ⟨fun q h => tchL_lt (fun c hc => HI.out c (List.mem_of_mem_take hc)) h⟩
      generalize L[k] = ch at *
      obtain ⟨at_, old, new⟩ := ch
      dsimp only at *
      obtain ⟨a, rfl⟩ := Int.eq_ofNat_of_zero_le hic.1
      have ha : a < 6400 := by have := hic.2.1; dsimp only at this; omega
      have han : a + new.length ≤ 6400 := by have := hic.2.2; dsimp only at this; omega
      rw [Int.toNat_natCast] at HS
      generalize new.length = nl at *
      generalize old.length = ol at *
      have d1 : decide ((a : Int) < 0) = false := by simp
      have d2 : decide (6400 ≤ (a : Int)) = false := by simp; omega
      have s1 : IntKind.i64.wrap (6400 - (a : Int)) = 6400 - (a : Int) := IntWalk.i64_in _ (by omega)
      have d3 : decide (6400 - (a : Int) < (nl : Int)) = false := by simp; omega
      have hbx := heap_alloc_new wr (.cells #[.int .i64 (a : Int), .slice Ao ol co, .slice An nl cn] 98)
      have b0 : (wr.alloc (.cells #[.int .i64 (a : Int), .slice Ao ol co, .slice An nl cn] 98)).cell? ⟨wr.heap.size, 0, none⟩ = some (.int .i64 (a : Int)) := by simp only [World.cell?]; rw [hbx]; rfl
      have b2 : (wr.alloc (.cells #[.int .i64 (a : Int), .slice Ao ol co, .slice An nl cn] 98)).cell? ⟨wr.heap.size, 2, none⟩ = some (.slice An nl cn) := by simp only [World.cell?]; rw [hbx]; rfl
      have HB2 := Hidden.mk (hst.out.bel.alloc hst.out.bel.size (.cells #[.int .i64 (a : Int), .slice Ao ol co, .slice An nl cn] 98))
      obtain ⟨cnt, him, hc200⟩ := hst.out.im
      have hne : wr.heap.size ≠ w.heap.size := by have := him.lt; omega
      have HNE := Hidden.mk hne
      have HIM2 := Hidden.mk (him.block (Below.heap_alloc wr (.cells #[.int .i64 (a : Int), .slice Ao ol co, .slice An nl cn] 98) w.heap.size him.lt))
      have HB0 := Hidden.mk b0
      clear hst him hic hbx hne HST
      go_wp2_with fail
      generalize hW2 : wr.alloc (.cells #[.int .i64 (a : Int), .slice Ao ol co, .slice An nl cn] 98) = W2 at *
      clear hW2 b0 b2 x0 x1 x2
      generalize wr.heap.size = bx at *
      have HS2 : Hidden (DpSt w W2 w.heap.size (fun q => tchL (L.take k) q || tchC a 0 q) ∧ W2.cell? ⟨bx, 0, none⟩ = some (.int .i64 (a : Int))) := ⟨⟨⟨⟨cnt, by simpa [tchC] using HIM2.out, hc200⟩, HB2.out, Nat.le_refl _⟩, HB0.out⟩⟩
      clear HIM2 HB2 HB0 hc200
      go_loopg [36] nl (fun r i wx => ∃ j : Nat, j ≤ nl ∧ r = nl - j ∧ i = .int .i64 (j : Int) ∧ Hidden (DpSt w wx w.heap.size (fun q => tchL (L.take k) q || tchC a j q) ∧ wx.cell? ⟨bx, 0, none⟩ = some (.int .i64 (a : Int))))
      case atStart => exact ⟨0, by omega, rfl, rfl, HS2⟩
      case round =>
        obtain ⟨j, hj, rfl, rfl, hs⟩ := hrel
        by_cases hlt2 : j < nl
        · have j0 : (0 : Int) ≤ j := by omega
          have j1 : (j : Int) < nl := by omega
          have s2 : IntKind.i64.wrap ((j : Int) + 1) = (j : Int) + 1 := IntWalk.i64_in _ (by omega)
          have s3 : IntKind.i64.wrap ((a : Int) + j) = (a : Int) + j := IntWalk.i64_in _ (by omega)
          have s4 : ((a : Int) + j) / 32 = (((a + j) / 32 : Nat) : Int) := by omega
          have hq : (a + j) / 32 < 200 := by omega
          obtain ⟨cnt2, him2, hc2⟩ := hs.out.1.im
          obtain ⟨W4, hrun, him4, hg4, hs4⟩ := him2.store int_keyed natL_inj (T := 101) Tryd.underlying101 (by simp only [maxLen]; omega) (int_key (n := (a + j) / 32) (by omega)) (.bool true)
          rw [setF_upd] at him4
          have hset : (fun q => (tchL (L.take k) q || tchC a j q) || ((a + j) / 32 == q)) = fun q => tchL (L.take k) q || tchC a (j + 1) q := by
            funext q; rw [tchC_succ, Bool.or_assoc]
          rw [hset] at him4
          have hle := him4.size_le Tryd.underlying3 200 (fun q hq' => by
            unfold setF at hq'
            by_cases hb : (tchL (L.take k) q || tchC a (j + 1) q) = true
            · rcases Bool.or_eq_true_iff.1 hb with h | h
              · exact HTL.out q h
              · exact tchC_lt h (by omega)
            · rw [if_neg hb] at hq'; cases hq')
          have hB4 : Below w.heap.size w W4 := hs.out.1.bel.grown hg4 hs.out.1.bel.size (fun q hq => Nat.le_of_eq (Option.some.inj hq))
          have y0 := hs.out.2
          have hc4 : W4.cell? ⟨bx, 0, none⟩ = some (.int .i64 (a : Int)) := (World.cell?_of_block (a := ⟨bx, 0, none⟩) (hg4.block _ (block_lt_of_cell y0) (fun e => HNE.out (Option.some.inj e)))).trans y0
          have HN : Hidden (DpSt w W4 w.heap.size (fun q => tchL (L.take k) q || tchC a (j + 1) q) ∧ W4.cell? ⟨bx, 0, none⟩ = some (.int .i64 (a : Int))) := ⟨⟨⟨_, him4, hle⟩, hB4, Nat.le_refl _⟩, hc4⟩
          rw [← s4] at hrun
          clear hs him2 him4 hset hle hB4 hc4 hg4 hs4 s4 hc2 hq
          go_wp2_with fail
          go_roundg (nl - (j + 1))
          case measure => omega
          case rel => exact ⟨j + 1, by omega, rfl, by go_num, HN⟩
        · obtain rfl : nl = j := by omega
          have t5 : decide ((nl : Int) < nl) = false := by simp
          have HN : Hidden (DpSt w _ w.heap.size (tchL (L.take (k + 1)))) := ⟨by
            have h := hs.out.1
            have e : (fun q => tchL (L.take k) q || tchC a nl q) = tchL (L.take (k + 1)) := by funext q; exact (HS.out q).symm
            rw [e] at h
            exact h⟩
          clear hs
          go_wp2_with fail
          go_roundg (m - (k + 1))
          case measure => omega
          case rel => exact ⟨k + 1, by omega, rfl, by go_num, HN⟩
    · obtain rfl : m = k := by omega
      have t5 : decide ((m : Int) < m) = false := by simp
      obtain ⟨cnt, him, hc200⟩ := hst.out.im
      have htk : L.take m = L := List.take_of_length_le (by rw [HM.out]; exact Nat.le_refl _)
      rw [htk] at him
      have HSC := Hidden.mk (sorted_call w.heap.size cnt (setF (tchL L)) wr him (by omega))
      have HB := Hidden.mk hst.out.bel
      clear hst him htk HST hc200
      go_wp2_with fail
      refine (keys_call w.heap.size wr).mono ?_
      rintro e w5 ⟨rfl, rfl⟩
      go_wp2_with fail
      refine HSC.out.mono ?_
      rintro e w6 ⟨v, S, rfl, hK, hown, hb6⟩
      have HF : Hidden (S.Pairwise (· < ·) ∧ (∀ k, k ∈ S ↔ tchL L k = true) ∧ w6.ownsRow w.heap.size 3 1 v S.length (S.map fun i : Nat => .int .i64 (i : Int)) ∧ Below w.heap.size w w6) := ⟨⟨hK.up, fun k => by
        rw [hK.mem k]
        unfold setF
        by_cases hb : tchL L k = true
        · rw [if_pos hb]; simp [hb]
        · rw [if_neg hb]; simp [hb], own_base' hown HB.out.size, HB.out.trans (hb6.mono HB.out.size)⟩⟩
      clear hK hown hb6 HSC
      go_wp2_with fail
      go_ret2
      exact dpAns_mk rfl HF.out
end Go.Proofs.YtbnobjlphmkgeaaDoor
/- Is an error nil? As equations, for a walk. -/
namespace Go.Proofs.YtbnobjlphmkgeaaDoor
open Go.RowKit

end Go.Proofs.YtbnobjlphmkgeaaDoor
/- Contracts of package image: the small ones, and New. -/
namespace Go.Proofs.YtbnobjlphmkgeaaDoor
open Go.RowKit

end Go.Proofs.YtbnobjlphmkgeaaDoor
/- The contract of image.Put. -/
namespace Go.Proofs.YtbnobjlphmkgeaaDoor
open Go.RowKit

end Go.Proofs.YtbnobjlphmkgeaaDoor
/- The contract of image.PutRoot. -/
namespace Go.Proofs.YtbnobjlphmkgeaaDoor
open Go.RowKit

end Go.Proofs.YtbnobjlphmkgeaaDoor
/- Plain words for what is wrong with an image, and what mending makes of it. No walk here. -/
namespace Go.Proofs.YtbnobjlphmkgeaaDoor

/-- a fault -/
structure Flt where
  what : Nat
  which : Nat
end Go.Proofs.YtbnobjlphmkgeaaDoor
/- image.find and image.Get: an entry read back. -/
namespace Go.Proofs.YtbnobjlphmkgeaaDoor
open Go.RowKit

end Go.Proofs.YtbnobjlphmkgeaaDoor
/- A heap in memory; the contracts of heap.New and Bytes. -/
namespace Go.Proofs.YtbnobjlphmkgeaaDoor
open Go.RowKit

section
variable {w0 w w' : World} {F : Nat → Prop} {h : Nat} {l : Bytes}
end
end Go.Proofs.YtbnobjlphmkgeaaDoor
/- The contracts of check.stray, check.over and image.Zero. -/
namespace Go.Proofs.YtbnobjlphmkgeaaDoor
open Go.RowKit

end Go.Proofs.YtbnobjlphmkgeaaDoor
/- The contract of check.handles. -/
namespace Go.Proofs.YtbnobjlphmkgeaaDoor
open Go.RowKit

section
variable {w w' : World} {base : Nat} {vf vr vw vf' : Value} {F : List Flt} {R W : List (Int × Bytes)}
end
end Go.Proofs.YtbnobjlphmkgeaaDoor
/- The contract of check.handles: the walk. -/
namespace Go.Proofs.YtbnobjlphmkgeaaDoor
open Go.RowKit

end Go.Proofs.YtbnobjlphmkgeaaDoor
/- The contract of check.roots: closures and slices.Contains over names. -/
namespace Go.Proofs.YtbnobjlphmkgeaaDoor
open Go.RowKit

section
variable {w w' : World} {base : Nat} {vf vn vf' vn' : Value} {F : List Flt} {N : List Bytes}
end
end Go.Proofs.YtbnobjlphmkgeaaDoor
/- The contract of check.Check. -/
namespace Go.Proofs.YtbnobjlphmkgeaaDoor
open Go.RowKit

end Go.Proofs.YtbnobjlphmkgeaaDoor
/- The contract of check.Mend. -/
namespace Go.Proofs.YtbnobjlphmkgeaaDoor
open Go.RowKit

end Go.Proofs.YtbnobjlphmkgeaaDoor
/- The contracts of image.Entries, Roots and Drop, and of image.Get where there is none. -/
namespace Go.Proofs.YtbnobjlphmkgeaaDoor
open Go.RowKit

end Go.Proofs.YtbnobjlphmkgeaaDoor
/- The contract of image.Drop; what puts leave of an image, in plain words. -/
namespace Go.Proofs.YtbnobjlphmkgeaaDoor
open Go.RowKit

end Go.Proofs.YtbnobjlphmkgeaaDoor
/- An image that is right, plainly: its handles, its roots; what stays right. No walk here. -/
namespace Go.Proofs.YtbnobjlphmkgeaaDoor
open Go.RowKit

section
variable {n : Nat} {R R' S S' : Nat → Bytes}
end
end Go.Proofs.YtbnobjlphmkgeaaDoor
/- The contracts of check.Fine and check.Object. -/
namespace Go.Proofs.YtbnobjlphmkgeaaDoor
open Go.RowKit

end Go.Proofs.YtbnobjlphmkgeaaDoor
/- Slices of the call's own, element by element. -/
namespace Go.Proofs.YtbnobjlphmkgeaaDoor
open Go.RowKit

theorem flat_at {X : Type} (f : X → List Value) (C : Nat) (hC : ∀ x, (f x).length = C) : ∀ (L : List X) (i : Nat) (h : i < L.length) (q : Nat), q < C → (L.flatMap f)[i * C + q]? = (f L[i])[q]?
  | [], i, h, _, _ => absurd h (by simp)
  | x :: r, 0, _, q, hq => by
    rw [List.flatMap_cons, Nat.zero_mul, Nat.zero_add, List.getElem?_append_left (by rw [hC]; exact hq)]; rfl
  | x :: r, i + 1, h, q, hq => by
    have hx := hC x
    rw [List.flatMap_cons, List.getElem?_append_right (by rw [hx, Nat.succ_mul]; omega), hx, show (i + 1) * C + q - C = i * C + q by rw [Nat.succ_mul]; omega]
    exact flat_at f C hC r i (by simpa using h) q hq
section
variable {X : Type} {f : X → List Value} {C : Nat} {w : World} {base : Nat} {e : TypeId} {v : Value} {A : Option Addr} {n c : Nat} {L : List X}
theorem own_at (hC : ∀ x, (f x).length = C) (h : w.ownsRow base e C (.slice A n c) n (L.flatMap f)) (k : Nat) (hk : k < L.length) (h0 : 0 < n) :
    ∃ g off, A = some ⟨g, off, none⟩ ∧ base ≤ g ∧ g < w.heap.size ∧ ∀ q u, (f L[k])[q]? = some u → w.cell? ⟨g, off + k * C + q, none⟩ = some u := by
  rcases h.2 with ⟨he, hn0⟩ | ⟨g, cap, cur, he, hb, hh, _⟩
  · omega
  · injection he with he
    subst he
    refine ⟨g, 0, rfl, hb, (Array.getElem?_eq_some_iff.1 hh).1, fun q u hq => ?_⟩
    have hqC : q < C := by rw [← hC L[k]]; exact (List.getElem?_eq_some_iff.1 hq).1
    have := h.cells (g := g) rfl (k * C + q) u (by rw [flat_at f C hC L k hk q hqC]; exact hq)
    rw [Addr.add_lit] at this
    rw [Nat.add_assoc]
    exact this
theorem own_split (h : w.ownsRow base e C v n (L.flatMap f)) : ∃ A c, v = .slice A n c ∧ n ≤ c ∧ c ≤ maxLen := by
  rcases h.2 with ⟨rfl, rfl⟩ | ⟨g, cap, cur, rfl, _, hh, hc, hm, _⟩
  · exact ⟨none, 0, rfl, Nat.le_refl _, by simp [maxLen]⟩
  · exact ⟨_, cap, rfl, hc, hm⟩
theorem own_rdX3 (hC : ∀ x, (f x).length = C) (hn : L.length = n) (h : w.ownsRow base e C (.slice A n c) n (L.flatMap f)) : RdX f C w A L := fun i hi => by
  obtain ⟨g, off, hA, _, _, hc⟩ := own_at hC h i hi (by omega)
  exact ⟨g, off, hA, hc⟩
end
end Go.Proofs.YtbnobjlphmkgeaaDoor
/- Extents: plain words; the contract of extent.Check. -/
namespace Go.Proofs.YtbnobjlphmkgeaaDoor
open Go.RowKit

abbrev Ext := Int × Int
theorem RdX.take {X : Type} {cells : X → List Value} {C : Nat} {w : World} {A : Option Addr} {L : List X} (h : RdX cells C w A L) (k : Nat) : RdX cells C w A (L.take k) := fun i hi => by
  have hi' : i < L.length := by rw [List.length_take] at hi; omega
  obtain ⟨b, off, hA, hc⟩ := h i hi'
  exact ⟨b, off, hA, fun q u hq => hc q u (by rwa [List.getElem_take] at hq)⟩
end Go.Proofs.YtbnobjlphmkgeaaDoor
/- A row of structs that the library has sorted: what it holds then. No program in sight. -/
namespace Go.Proofs.YtbnobjlphmkgeaaDoor
open Go.RowKit Go.Sort Go.Shelf Go.Lib

end Go.Proofs.YtbnobjlphmkgeaaDoor
/- Laid: library functions whose contracts are proved over whatever program: the table of numbers, and a field a function or a type. -/
namespace Go.Proofs.YtbnobjlphmkgeaaDoor
open Go.Shelf
end Go.Proofs.YtbnobjlphmkgeaaDoor
/- The contract of extent.Holes. -/
namespace Go.Proofs.YtbnobjlphmkgeaaDoor
open Go.RowKit Go.Sort Go.Shelf Go.Lib

end Go.Proofs.YtbnobjlphmkgeaaDoor
/- The contracts of extent.Frees and Fit. -/
namespace Go.Proofs.YtbnobjlphmkgeaaDoor
open Go.RowKit

theorem own_base {w : World} {b b' : Nat} {e : TypeId} {size n : Nat} {v : Value} {xs : List Value} (h : w.ownsRow b e size v n xs) (hb : b' ≤ b) : w.ownsRow b' e size v n xs := by
  refine ⟨h.1, ?_⟩
  rcases h.2 with h2 | ⟨g, cap, cur, he, hb2, rest⟩
  · exact .inl h2
  · exact .inr ⟨g, cap, cur, he, Nat.le_trans hb hb2, rest⟩
end Go.Proofs.YtbnobjlphmkgeaaDoor
/- The heap: what is read of it. -/
namespace Go.Proofs.YtbnobjlphmkgeaaDoor
open Go.RowKit

section
variable {w0 w : World} {F : Nat → Prop} {h : Nat} {l : Bytes}
end
end Go.Proofs.YtbnobjlphmkgeaaDoor
/- The heap: what turns it. -/
namespace Go.Proofs.YtbnobjlphmkgeaaDoor
open Go.RowKit

section
variable {w0 w w' : World} {F : Nat → Prop} {h : Nat} {l l' : Bytes}
end
end Go.Proofs.YtbnobjlphmkgeaaDoor
/- Roots of a list that are looked for: slices.IndexFunc, ContainsFunc with the closures of heap.Free and root.Get; the extents of a heap. -/
namespace Go.Proofs.YtbnobjlphmkgeaaDoor
open Go.RowKit

section
variable {w0 w : World} {F : Nat → Prop} {h : Nat} {l : Bytes}
end
end Go.Proofs.YtbnobjlphmkgeaaDoor
/- The heap: put, PutRoot, Free, Load. -/
namespace Go.Proofs.YtbnobjlphmkgeaaDoor
open Go.RowKit

section
variable {w0 w : World} {F : Nat → Prop} {h : Nat} {l : Bytes}
end
end Go.Proofs.YtbnobjlphmkgeaaDoor
/- The contract of extent.Stat. -/
namespace Go.Proofs.YtbnobjlphmkgeaaDoor
open Go.RowKit

end Go.Proofs.YtbnobjlphmkgeaaDoor
