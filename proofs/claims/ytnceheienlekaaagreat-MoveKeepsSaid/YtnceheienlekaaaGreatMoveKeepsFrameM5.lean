/- Contracts and plain laws, put together: Same2, DiffA, DiffA1, Same3, MoveKeeps1. -/
import Derived.Test.YtnceheienlekaaaGreatMoveKeepsFrameM4
import Derived.Test.YtnceheienlekaaaGreatMoveKeepsFrameM3
import Derived.Deep.LoopGhost
import Derived.Test.YtnceheienlekaaaGreatMoveKeepsFrameM1
import Derived.Test.YtnceheienlekaaaGreatMoveKeepsFrameM2
import Derived.Deep.DeepCutAuto
import Derived.Deep.CutBlock
/- The contract of check.Leads. -/
namespace Go.Proofs.YtnceheienlekaaaGreat
open Go.RowKit Go.Maps Go.ChangeMaps

def strL (s : Bytes) : Lit := .string s
theorem strL_inj (x y : Bytes) (h : strL x = strL y) : x = y := by
  unfold strL at h; injection h
theorem str_keyed : Go.Maps.Keyed Tryz.prog 9 := Go.Maps.string_keyed Tryz.underlying9
theorem str_key {s : Bytes} (hs : s.length ≤ 100000) : keyOf Tryz.prog 9 (sv s) = some (strL s) := by
  have := Go.WideMaps.keyOf_string_mk (P := Tryz.prog) Tryz.underlying9 (s := ⟨s.toArray⟩) (by unfold maxLen; simp [ByteArray.size]; omega)
  simpa [strL] using this
theorem rcells_len2 (x : Bytes × Nat) : (rcells x).length = 2 := rfl
theorem rootP_len (S : Nat → Bytes) (m : Nat) (x : Bytes × Nat) (h : x ∈ rootsF S m) : x.1.length ≤ 8 := by
  unfold rootsF at h
  obtain ⟨i, _, rfl⟩ := List.mem_map.1 h
  unfold rootP
  split
  · unfold nmR nameAt
    rw [List.length_take, List.length_take]; omega
  · simp
set_option maxRecDepth 100000 in
theorem leads_ok (A : Option Addr) (n c : Nat) (l : Bytes) (w : World) (hn : l.length = n) (hr : rightB n = true) (hnc : n ≤ c) (hrd : Rd w A l) :
    Calls Tryz.prog 46 #[.slice A n c] w fun e w' => ∃ b, e = .returned (.map (some b)) ∧ w.heap.size ≤ b ∧ IM Tryz.prog 9 strL w' b (leadF (rootsL l)) (leadC (rootsL l)) ∧ Below w.heap.size w w' := by
  have hB0 : Below w.heap.size w (w.alloc (.map #[] 0)) := (Below.refl _ _).alloc (Nat.le_refl _) _
  have hI0 : IM Tryz.prog 9 strL (w.alloc (.map #[] 0)) w.heap.size (fun _ => none) 0 := IM.made w
  have HI0 := Hidden.mk hI0
  have HB0 := Hidden.mk hB0
  have HSZ : Hidden ((w.alloc (.map #[] 0)).heap.size = w.heap.size + 1) := ⟨by simp⟩
  have HR := Hidden.mk (iroots_ok A n c l (w.alloc (.map #[] 0)) hn hr hnc (hrd.below hB0))
  have hlr := rootsF_len (rawR l) 8
  have HNM : Hidden (∀ x ∈ rootsL l, x.1.length ≤ 8) := ⟨fun x hx => rootP_len _ _ x hx⟩
  have HLR : Hidden ((rootsL l).length ≤ 8) := ⟨hlr⟩
  generalize rootsL l = L at *
  clear hI0 hB0 hlr hr hrd hn
  have hmm := @run_makeMap Tryz.prog
  go_enter Tryz.func46, Tryz.ntmps46
  go_wp2_with fail
  generalize hw0 : w.alloc (.map #[] 0) = w0 at *
  have HW0 := Hidden.mk hw0
  clear hw0 hmm
  refine HR.out.mono ?_
  rintro e w1 ⟨v1, rfl, hown, hb1⟩
  have hI1 : IM Tryz.prog 9 strL w1 w.heap.size (leadF (L.take 0)) (leadC (L.take 0)) := HI0.out.block (hb1.block _ (by have := HSZ.out; omega))
  have hB1 := HB0.out.trans (hb1.mono HB0.out.size)
  obtain ⟨A1, c1, hv1, hc1, -⟩ := own_split hown
  subst hv1
  have HL8 := HLR.out
  generalize hm : L.length = m at *
  have HM := Hidden.mk hm
  clear hm hb1 HR
  go_wp2_with fail
  go_loopg [16] m (fun q i wr => ∃ k : Nat, k ≤ m ∧ q = m - k ∧ i = .int .i64 (k : Int) ∧ Below w.heap.size w wr ∧ wr.ownsRow w0.heap.size 73 2 (.slice A1 m c1) m (L.flatMap rcells) ∧ IM Tryz.prog 9 strL wr w.heap.size (leadF (L.take k)) (leadC (L.take k)))
  case atStart => exact ⟨0, by omega, rfl, rfl, hB1, hown, hI1⟩
  case round =>
    obtain ⟨k, hk, rfl, rfl, hbel, hown, him⟩ := hrel
    by_cases hlt : k < m
    · have hlt' : k < L.length := by have := HM.out; omega
      obtain ⟨g, off, rfl, hg, hgl, hcx⟩ := own_at rcells_len2 hown k hlt' (by omega)
      have c0 := hcx 0 _ rfl
      have c1 := hcx 1 _ rfl
      rw [Nat.add_zero] at c0
      have hs8 := HNM.out L[k] (List.getElem_mem hlt')
      have hts : L.take (k + 1) = L.take k ++ [L[k]] := List.take_succ_eq_append_getElem hlt'
      have HF : Hidden (leadF (L.take (k + 1)) = upd (leadF (L.take k)) L[k].1 (.int .i64 L[k].2)) := ⟨by rw [hts, leadF_snoc]⟩
      have HC : Hidden (leadC (L.take (k + 1)) = if (leadF (L.take k) L[k].1).isSome then leadC (L.take k) else leadC (L.take k) + 1) := ⟨by rw [hts, leadC_snoc, leadF_isSome]⟩
      have hcl : leadC (L.take k) ≤ k := Nat.le_trans (leadC_le _) (List.length_take_le _ _)
      generalize L[k].1 = s at *
      generalize L[k].2 = h at *
      have hal : Below wr.heap.size wr (wr.alloc (.cells #[sv s, .int .i64 (h : Int)] 73)) := (Below.refl _ _).alloc (Nat.le_refl _) _
      have hown2 := own_below hown hal
      have hb2 : Below w.heap.size w (wr.alloc (.cells #[sv s, .int .i64 (h : Int)] 73)) := hbel.trans (hal.mono hbel.size)
      have him2 : IM Tryz.prog 9 strL (wr.alloc (.cells #[sv s, .int .i64 (h : Int)] 73)) w.heap.size (leadF (L.take k)) (leadC (L.take k)) := him.block (hal.block _ him.lt)
      obtain ⟨w5, hrun, him5, hg5, hs5⟩ := him2.store (T := 89) str_keyed strL_inj Tryz.underlying89 (by unfold maxLen; omega) (str_key (s := s) (by omega)) (.int .i64 (h : Int))
      have hown5 := hown2.kept hg5 (.inr (fun e => by have := (hown2.lt _ e).1; have := HSZ.out; omega))
      have hB5 : Below w.heap.size w w5 := hb2.grown hg5 hb2.size (fun q hq => by injection hq with hq; omega)
      have hlt5 : (k : Int) < m := by omega
      rw [← HF.out, ← HC.out] at him5
      have H5 := Hidden.mk (And.intro hB5 (And.intro hown5 him5))
      have s1 : IntKind.i64.wrap ((k : Int) + 1) = (k : Int) + 1 := IntWalk.i64_in _ (by omega)
      clear him5 hown5 hB5 hg5 hs5 him2 hown2 hb2 hal hcx hts him hown hbel
      go_wp2_with fail
      go_roundg (m - (k + 1))
      case measure => omega
      case rel => exact ⟨k + 1, by omega, rfl, by go_num, H5.out.1, H5.out.2.1, H5.out.2.2⟩
    · obtain rfl : k = m := by omega
      have hte : L.take k = L := List.take_of_length_le (by have := HM.out; omega)
      rw [hte] at him
      clear hte
      go_wp2_with fail
      go_ret
      exact ⟨w.heap.size, rfl, Nat.le_refl _, him, hbel⟩
end Go.Proofs.YtnceheienlekaaaGreat
/- Plain facts on applying changes, and turning them. No program in sight. -/
namespace Go.Proofs.YtnceheienlekaaaGreat

/-- one change applied: a number of an error, or the bytes -/
def apply1 (b : Bytes) (c : Chg) : Except Int Bytes :=
  if c.at_ < 0 ∨ (b.length : Int) < c.at_ ∨ (b.length : Int) - c.at_ < c.old.length then .error 1
  else if c.old.length ≠ c.new.length then .error 3
  else if (b.drop c.at_.toNat).take c.old.length ≠ c.old then .error 6
  else .ok (splice b c.at_.toNat c.new)
/-- changes applied, one after the other -/
def applyL : Bytes → List Chg → Except Int Bytes
  | b, [] => .ok b
  | b, c :: L => match apply1 b c with
    | .error e => .error e
    | .ok b' => applyL b' L
/-- changes turned -/
def turnC (c : Chg) : Chg := ⟨c.at_, c.new, c.old⟩
def turnL (L : List Chg) : List Chg := L.reverse.map turnC

theorem apply1_len {b b' : Bytes} {c : Chg} (h : apply1 b c = .ok b') : b'.length = b.length := by
  unfold apply1 at h
  split at h
  · cases h
  · split at h
    · cases h
    · split at h
      · cases h
      · rename_i h1 h2 h3
        injection h with h
        subst h
        exact length_splice _ _ _ (by omega)
theorem apply1_ok (b old new : Bytes) (j : Nat) (hn : old.length = new.length) (hj : j + old.length ≤ b.length) (ho : (b.drop j).take old.length = old) : apply1 b ⟨j, old, new⟩ = .ok (splice b j new) := by
  unfold apply1
  simp only [Int.toNat_natCast]
  rw [if_neg (by omega), if_neg (by omega), if_neg (by simpa using ho)]
theorem applyL_append (b : Bytes) (L M : List Chg) : applyL b (L ++ M) = match applyL b L with
    | .error e => .error e
    | .ok b' => applyL b' M := by
  induction L generalizing b with
  | nil => rfl
  | cons c L ih =>
    simp only [List.cons_append, applyL]
    cases apply1 b c with
    | error e => rfl
    | ok b' => exact ih b'
theorem applyL_one (b : Bytes) (c : Chg) : applyL b [c] = apply1 b c := by
  simp only [applyL]
  cases apply1 b c <;> rfl
theorem turnL_append (L M : List Chg) : turnL (L ++ M) = turnL M ++ turnL L := by simp [turnL]
theorem turnL_length (L : List Chg) : (turnL L).length = L.length := by simp [turnL]
theorem take_drop_ext (x y : Bytes) (i r : Nat) (h : ∀ p, i ≤ p → p < i + r → x[p]? = y[p]?) : (x.drop i).take r = (y.drop i).take r := by
  apply List.ext_getElem?
  intro p
  rw [List.getElem?_take, List.getElem?_take]
  split
  · rw [List.getElem?_drop, List.getElem?_drop]; exact h _ (by omega) (by omega)
  · rfl
theorem splice_read (l x : Bytes) (o p : Nat) (h : o + x.length ≤ l.length) : (splice l o x)[p]? = if o ≤ p ∧ p < o + x.length then x[p - o]? else l[p]? := by
  split
  · rename_i hp
    have := splice_get l x o (p - o) h (by omega)
    rwa [show o + (p - o) = p from by omega] at this
  · rename_i hp
    exact (splice_same l x o p h (by omega)).symm
theorem cut_read (x : Bytes) (i r p : Nat) (h1 : i ≤ p) (h2 : p < i + r) : ((x.drop i).take r)[p - i]? = x[p]? := by
  rw [List.getElem?_take, if_pos (by omega), List.getElem?_drop]
  congr 1; omega
/-- what has changed makes of the old the new -/
theorem apply_diffF (a b : Bytes) (hl : a.length = b.length) (f : Nat) : ∀ i cur, a.length - i ≤ f → cur.length = a.length → (∀ p, cur[p]? = if p < i then b[p]? else a[p]?) → applyL cur (diffF a b f i) = .ok b := by
  have hend : ∀ i (cur : Bytes), a.length ≤ i → cur.length = a.length → (∀ p, cur[p]? = if p < i then b[p]? else a[p]?) → cur = b := by
    intro i cur hi hc hp
    apply List.ext_getElem?
    intro p
    rw [hp p]
    split
    · rfl
    · rw [List.getElem?_eq_none (by omega), List.getElem?_eq_none (by omega)]
  induction f with
  | zero =>
    intro i cur hf hc hp
    simp only [diffF, applyL]
    rw [hend i cur (by omega) hc hp]
  | succ f ih =>
    intro i cur hf hc hp
    simp only [diffF]
    by_cases hi : i < a.length
    · rw [if_pos hi]
      have hr := runAt_le a b i hl (by omega)
      have hstop : i + runAt a b i < a.length → a[i + runAt a b i]? = b[i + runAt a b i]? := runAt_stop a b i hl
      generalize runAt a b i = r at *
      by_cases h0 : 0 < r
      · rw [if_pos h0, applyL_append, applyL_one]
        have ho : ((a.drop i).take r).length = r := by simp; omega
        have hn : ((b.drop i).take r).length = r := by simp; omega
        have hm : (cur.drop i).take ((a.drop i).take r).length = (a.drop i).take r := by
          rw [ho]
          exact take_drop_ext _ _ _ _ fun p h1 h2 => by rw [hp p, if_neg (by omega)]
        rw [apply1_ok cur _ _ i (by omega) (by omega) hm]
        dsimp only
        refine ih _ _ (by omega) (by rw [length_splice _ _ _ (by omega), hc]) fun p => ?_
        rw [splice_read _ _ _ _ (by omega), hn]
        by_cases h1 : i ≤ p ∧ p < i + r
        · rw [if_pos h1, if_pos (by omega), cut_read _ _ _ _ h1.1 h1.2]
        · rw [if_neg h1, hp p]
          by_cases h2 : p < i
          · rw [if_pos h2, if_pos (by omega)]
          · rw [if_neg h2]
            by_cases h3 : p < i + r + 1
            · rw [if_pos h3]
              obtain rfl : p = i + r := by omega
              by_cases h4 : i + r < a.length
              · exact hstop h4
              · rw [List.getElem?_eq_none (by omega), List.getElem?_eq_none (by omega)]
            · rw [if_neg h3]
      · obtain rfl : r = 0 := by omega
        rw [if_neg h0, List.nil_append]
        refine ih _ _ (by omega) hc fun p => ?_
        rw [hp p]
        by_cases h2 : p < i
        · rw [if_pos h2, if_pos (by omega)]
        · rw [if_neg h2]
          by_cases h3 : p < i + 0 + 1
          · rw [if_pos h3]
            obtain rfl : p = i := by omega
            exact hstop (by omega)
          · rw [if_neg h3]
    · rw [if_neg hi]
      simp only [applyL]
      rw [hend i cur (by omega) hc hp]
theorem apply_diffL (a b : Bytes) (hl : a.length = b.length) : applyL a (diffL a b) = .ok b :=
  apply_diffF a b hl _ 0 a (by omega) rfl fun p => by rw [if_neg (by omega)]
/-- .. and turned, of the new the old -/
theorem apply_turnF (a b : Bytes) (hl : a.length = b.length) (f : Nat) : ∀ i cur, a.length - i ≤ f → cur.length = a.length → (∀ p, i ≤ p → cur[p]? = b[p]?) →
    ∃ c', applyL cur (turnL (diffF a b f i)) = .ok c' ∧ c'.length = a.length ∧ ∀ p, c'[p]? = if p < i then cur[p]? else a[p]? := by
  have hend : ∀ i (cur : Bytes), a.length ≤ i → cur.length = a.length → ∀ p, cur[p]? = if p < i then cur[p]? else a[p]? := by
    intro i cur hi hc p
    split
    · rfl
    · rw [List.getElem?_eq_none (by omega), List.getElem?_eq_none (by omega)]
  induction f with
  | zero =>
    intro i cur hf hc hp
    exact ⟨cur, rfl, hc, hend i cur (by omega) hc⟩
  | succ f ih =>
    intro i cur hf hc hp
    simp only [diffF]
    by_cases hi : i < a.length
    · rw [if_pos hi]
      have hr := runAt_le a b i hl (by omega)
      have hstop : i + runAt a b i < a.length → a[i + runAt a b i]? = b[i + runAt a b i]? := runAt_stop a b i hl
      generalize runAt a b i = r at *
      obtain ⟨c1, h1, hl1, hp1⟩ := ih (i + r + 1) cur (by omega) hc (fun p h => hp p (by omega))
      rw [turnL_append, applyL_append, h1]
      dsimp only
      by_cases h0 : 0 < r
      · rw [if_pos h0]
        have ho : ((a.drop i).take r).length = r := by simp; omega
        have hn : ((b.drop i).take r).length = r := by simp; omega
        have hm : (c1.drop i).take ((b.drop i).take r).length = (b.drop i).take r := by
          rw [hn]
          exact take_drop_ext _ _ _ _ fun p h1 h2 => by rw [hp1 p, if_pos (by omega), hp p (by omega)]
        refine ⟨splice c1 i ((a.drop i).take r), ?_, by rw [length_splice _ _ _ (by omega), hl1], fun p => ?_⟩
        · simp only [turnL, List.reverse_cons, List.reverse_nil, List.nil_append, List.map_cons, List.map_nil, turnC]
          rw [applyL_one]
          exact apply1_ok c1 _ _ i (by omega) (by omega) hm
        · rw [splice_read _ _ _ _ (by omega), ho]
          by_cases h2 : i ≤ p ∧ p < i + r
          · rw [if_pos h2, if_neg (by omega), cut_read _ _ _ _ h2.1 h2.2]
          · rw [if_neg h2, hp1 p]
            by_cases h3 : p < i
            · rw [if_pos (by omega), if_pos h3]
            · rw [if_neg h3]
              by_cases h4 : p < i + r + 1
              · rw [if_pos h4, hp p (by omega)]
                obtain rfl : p = i + r := by omega
                by_cases h5 : i + r < a.length
                · exact (hstop h5).symm
                · rw [List.getElem?_eq_none (by omega), List.getElem?_eq_none (by omega)]
              · rw [if_neg h4]
      · obtain rfl : r = 0 := by omega
        rw [if_neg h0]
        refine ⟨c1, rfl, hl1, fun p => ?_⟩
        rw [hp1 p]
        by_cases h3 : p < i
        · rw [if_pos (by omega), if_pos h3]
        · rw [if_neg h3]
          by_cases h4 : p < i + 0 + 1
          · rw [if_pos h4, hp p (by omega)]
            obtain rfl : p = i := by omega
            exact (hstop (by omega)).symm
          · rw [if_neg h4]
    · rw [if_neg hi]
      exact ⟨cur, rfl, hc, hend i cur (by omega) hc⟩
theorem apply_turnL (a b : Bytes) (hl : a.length = b.length) : applyL b (turnL (diffL a b)) = .ok a := by
  obtain ⟨c, h, hc, hp⟩ := apply_turnF a b hl a.length 0 b (by omega) hl.symm (fun _ _ => rfl)
  have : c = a := List.ext_getElem? fun p => by rw [hp p, if_neg (by omega)]
  rw [this] at h; exact h
/-- where a change begins, and that two do not touch -/
theorem diffF_apart (a b : Bytes) (hl : a.length = b.length) (f : Nat) : ∀ i, ∀ k c d, (diffF a b f i)[k]? = some c → (diffF a b f i)[k + 1]? = some d → c.at_ + (c.old.length : Int) < d.at_ := by
  induction f with
  | zero => intro i k c d h; simp [diffF] at h
  | succ f ih =>
    intro i k c d h1 h2
    simp only [diffF] at h1 h2
    split at h1
    · rename_i hi
      rw [if_pos hi] at h2
      split at h1
      · rename_i h0
        rw [if_pos h0] at h2
        cases k with
        | zero =>
          simp only [List.singleton_append, List.getElem?_cons_zero, Option.some.injEq, List.getElem?_cons_succ] at h1 h2
          obtain ⟨j, r, hj⟩ := diffF_mem a b hl f _ d (List.mem_of_getElem? h2)
          have hle := runAt_le a b i hl (by omega)
          have ho : ((a.drop i).take (runAt a b i)).length = runAt a b i := by simp; omega
          subst h1
          rw [hj.at_]
          have := hj.lo
          dsimp only
          rw [ho]
          omega
        | succ k =>
          simp only [List.singleton_append, List.getElem?_cons_succ] at h1 h2
          exact ih _ k c d h1 h2
      · rename_i h0
        rw [if_neg h0] at h2
        exact ih _ k c d h1 h2
    · simp at h1
end Go.Proofs.YtnceheienlekaaaGreat
/- The contract of diff.Apply. -/
namespace Go.Proofs.YtnceheienlekaaaGreat
open Go.RowKit

/-- the cells of one change, wherever its bytes lie -/
structure ChAny (w : World) (g off i : Nat) (c : Chg) (Ao An : Option Addr) (co cn : Nat) : Prop where
  at_ : w.cell? ⟨g, off + i * 3, none⟩ = some (.int .i64 c.at_)
  old : w.cell? ⟨g, off + i * 3 + 1, none⟩ = some (.slice Ao c.old.length co)
  new : w.cell? ⟨g, off + i * 3 + 2, none⟩ = some (.slice An c.new.length cn)
  rdO : Rd w Ao c.old
  rdN : Rd w An c.new
  leO : c.old.length ≤ co
  leN : c.new.length ≤ cn
/-- the slice at A has the changes L, wherever their bytes lie -/
def RdG (w : World) (A : Option Addr) (L : List Chg) : Prop := ∀ i (h : i < L.length), ∃ g off Ao An co cn, A = some ⟨g, off, none⟩ ∧ ChAny w g off i L[i] Ao An co cn
theorem RdC.rdg {w : World} {A : Option Addr} {L : List Chg} (h : RdC w A L) : RdG w A L := fun i hi => by
  obtain ⟨g, off, go, co, gn, cn, hA, hc⟩ := h i hi
  exact ⟨g, off, _, _, co, cn, hA, hc.at_, hc.old, hc.new, hc.rowO.rd, hc.rowN.rd, hc.rowO.le.1, hc.rowN.le.1⟩
theorem ChAny.below {w w' : World} {g off i : Nat} {c : Chg} {Ao An : Option Addr} {co cn : Nat} (h : ChAny w g off i c Ao An co cn) (hb : Below w.heap.size w w') : ChAny w' g off i c Ao An co cn :=
  ⟨(hb.cell (block_lt_of_cell h.at_)).trans h.at_, (hb.cell (block_lt_of_cell h.old)).trans h.old, (hb.cell (block_lt_of_cell h.new)).trans h.new, h.rdO.below hb, h.rdN.below hb, h.leO, h.leN⟩
theorem RdG.below {w w' : World} {A : Option Addr} {L : List Chg} (h : RdG w A L) (hb : Below w.heap.size w w') : RdG w' A L := fun i hi => by
  obtain ⟨g, off, Ao, An, co, cn, hA, hc⟩ := h i hi
  exact ⟨g, off, Ao, An, co, cn, hA, hc.below hb⟩

/-- b[i:k] of bytes, wherever i stands -/
theorem run_cut_any (A : Option Addr) (n c i k : Nat) (hik : i ≤ k) (hkc : k ≤ c) (W : World) :
    (Instr.sliceAt 22 (.slice A n c) (some (.int .i64 i)) (some (.int .i64 k)) none).run Tryz.prog W = .ok (.slice (if c = i then A else A.map (·.add i)) (k - i) (c - i)) W := by
  obtain ⟨i0, hi0, hz0, hz1, hz2⟩ := info_parts byte_info
  simp [Instr.sliceAt, Instr.slice, Instr.sliceBounds, Instr.sliceBound, run_underlying Tryz.underlying22, asIntOf, sizeOf, typeInfo, hi0, hz1, hik, hkc]
/-- b[i:] of bytes -/
theorem run_tail_any (A : Option Addr) (n c i : Nat) (hin : i ≤ n) (W : World) :
    (Instr.sliceAt 22 (.slice A n c) (some (.int .i64 i)) none none).run Tryz.prog W = .ok (.slice (if c = i then A else A.map (·.add i)) (n - i) (c - i)) W := by
  obtain ⟨i0, hi0, hz0, hz1, hz2⟩ := info_parts byte_info
  simp [Instr.sliceAt, Instr.slice, Instr.sliceBounds, Instr.sliceBound, run_underlying Tryz.underlying22, asIntOf, sizeOf, typeInfo, hi0, hz1, hin]

end Go.Proofs.YtnceheienlekaaaGreat
/- The contract of check.Same. -/
namespace Go.Proofs.YtnceheienlekaaaGreat
open Go.RowKit Go.Maps Go.ChangeMaps

theorem right_stray {l : Bytes} (h : checkL l = []) (k : Nat) (hk : k < 40) (hE : hasE (rawE l k) = true) : strayE l.length (rawE l k) = false := by
  cases hs : strayE l.length (rawE l k) with
  | false => rfl
  | true =>
    have : (⟨1, k + 1⟩ : Flt) ∈ checkL l := mem_checkL.2 (.inl ⟨k, hk, by unfold kindH; rw [hE, hs]; simp, by unfold kindH; rw [hE, hs]; simp⟩)
    rw [h] at this; cases this
theorem obj_any (A : Option Addr) (n c : Nat) (l : Bytes) (k : Nat) (w : World) (hn : l.length = n) (hr : rightB n = true) (hnc : n ≤ c) (hrd : Rd w A l) (hk : k < 40) (h0 : checkL l = []) :
    Calls Tryz.prog 45 #[.slice A n c, .int .i64 ((k : Int) + 1)] w fun e w' => ∃ A' n' c', e = .returned (.slice A' n' c') ∧ (objL l k).length = n' ∧ n' ≤ 70000 ∧ Rd w' A' (objL l k) ∧ Below w.heap.size w w' := by
  unfold objL
  cases hE : hasE (rawE l k) with
  | false =>
    refine (obj_none A n c l k w hn hr hnc hrd hk hE).mono ?_
    rintro e w' ⟨rfl, hb⟩
    exact ⟨none, 0, 0, rfl, by simp, by omega, by simpa using Rd.nil_, hb⟩
  | true =>
    have hs := right_stray h0 k hk hE
    rw [hn] at hs
    refine (obj_some A n c l k w hn hr hnc hrd hk hE hs).mono ?_
    rintro e w' ⟨g, cap, rfl, hg, hrd', hb⟩
    have hst := strayE_false hs
    have hl : (objB l (rawE l k)).length = rLen (rawE l k) + 1 := by unfold objB; simp; omega
    exact ⟨_, _, _, rfl, by simpa using hl, by omega, by simpa using hrd', hb⟩

theorem same_e3 (A B : Option Addr) (n m c d : Nat) (w : World) (hr : rightB n = false ∨ rightB m = false) :
    Calls Tryz.prog 12 #[.slice A n c, .slice B m d] w fun e w' => e = .returned (.tuple #[.bool false, .iface 56 (.int .i64 3)]) ∧ Below w.heap.size w w' := by
  cases h1 : rightB n with
  | false =>
    clear hr
    go_enter Tryz.func12, Tryz.ntmps12
    go_wp2_with fail
    refine (right_any _ _).mono ?_
    rintro e w1 ⟨rfl, rfl⟩
    rw [h1]
    go_wp2_with fail
    go_ret2
    exact ⟨rfl, Below.refl _ _⟩
  | true =>
    have h2 : rightB m = false := by rcases hr with h | h; rw [h1] at h; cases h; exact h
    clear hr
    go_enter Tryz.func12, Tryz.ntmps12
    go_wp2_with fail
    refine (right_any _ _).mono ?_
    rintro e w1 ⟨rfl, rfl⟩
    rw [h1]
    go_wp2_with fail
    refine (right_any _ _).mono ?_
    rintro e w1 ⟨rfl, rfl⟩
    rw [h2]
    go_wp2_with fail
    go_ret2
    exact ⟨rfl, Below.refl _ _⟩
theorem str_sameKey (a b : Bytes) : (strL a).sameKey (strL b) = decide (a = b) := by
  by_cases h : a = b
  · subst h
    simp [WideAt.sameKey_self (show WideAt.IsKeyLit (strL a) from trivial)]
  · rw [decide_eq_false h]
    exact sameKey_ne (fun e => h (strL_inj _ _ e))
theorem zero_int (w : World) : (zeroValue 3).run Tryz.prog w = .ok (.int .i64 0) w := by kernel_rfl
set_option maxRecDepth 100000 in
theorem same_ok (A B : Option Addr) (n m c d : Nat) (a b : Bytes) (w : World) (hn : a.length = n) (hm : b.length = m) (hr : rightB n = true) (hrm : rightB m = true) (hnc : n ≤ c) (hmd : m ≤ d) (ra : Rd w A a) (rb : Rd w B b) (h0 : checkL a = []) (h1 : checkL b = []) :
    Calls Tryz.prog 12 #[.slice A n c, .slice B m d] w fun e w' => e = .returned (.tuple #[.bool (sameB a b), .nilIface]) ∧ Below w.heap.size w w' := by
  have C1 : Hidden (∀ W, Below w.heap.size w W → Calls Tryz.prog 43 #[.slice A n c] W fun e w' => e = .returned .nilIface ∧ Below W.heap.size W w') := ⟨fun W hW => fine_t A n c a W hn hr hnc (ra.below hW) h0⟩
  have C2 : Hidden (∀ W, Below w.heap.size w W → Calls Tryz.prog 43 #[.slice B m d] W fun e w' => e = .returned .nilIface ∧ Below W.heap.size W w') := ⟨fun W hW => fine_t B m d b W hm hrm hmd (rb.below hW) h1⟩
  have C3 : Hidden (∀ k : Nat, k < 40 → ∀ W, Below w.heap.size w W → Calls Tryz.prog 45 #[.slice A n c, .int .i64 ((k : Int) + 1)] W fun e w' => ∃ A' n' c', e = .returned (.slice A' n' c') ∧ (objL a k).length = n' ∧ n' ≤ 70000 ∧ Rd w' A' (objL a k) ∧ Below W.heap.size W w') := ⟨fun k hk W hW => obj_any A n c a k W hn hr hnc (ra.below hW) hk h0⟩
  have C4 : Hidden (∀ k : Nat, k < 40 → ∀ W, Below w.heap.size w W → Calls Tryz.prog 45 #[.slice B m d, .int .i64 ((k : Int) + 1)] W fun e w' => ∃ A' n' c', e = .returned (.slice A' n' c') ∧ (objL b k).length = n' ∧ n' ≤ 70000 ∧ Rd w' A' (objL b k) ∧ Below W.heap.size W w') := ⟨fun k hk W hW => obj_any B m d b k W hm hrm hmd (rb.below hW) hk h1⟩
  have C5 : Hidden (∀ W, Below w.heap.size w W → Calls Tryz.prog 46 #[.slice A n c] W fun e w' => ∃ b, e = .returned (.map (some b)) ∧ W.heap.size ≤ b ∧ IM Tryz.prog 9 strL w' b (leadF (rootsL a)) (leadC (rootsL a)) ∧ Below W.heap.size W w') := ⟨fun W hW => leads_ok A n c a W hn hr hnc (ra.below hW)⟩
  have C6 : Hidden (∀ W, Below w.heap.size w W → Calls Tryz.prog 46 #[.slice B m d] W fun e w' => ∃ q, e = .returned (.map (some q)) ∧ W.heap.size ≤ q ∧ IM Tryz.prog 9 strL w' q (leadF (rootsL b)) (leadC (rootsL b)) ∧ Below W.heap.size W w') := ⟨fun W hW => leads_ok B m d b W hm hrm hmd (rb.below hW)⟩
  have HR := Hidden.mk (And.intro hr hrm)
  clear ra rb h0 h1 hn hm hr hrm
  go_enter Tryz.func12, Tryz.ntmps12
  go_wp2_with fail
  refine (right_any _ _).mono ?_
  rintro e w1 ⟨rfl, rfl⟩
  rw [HR.out.1]
  go_wp2_with fail
  refine (right_any _ _).mono ?_
  rintro e w1 ⟨rfl, rfl⟩
  rw [HR.out.2]
  go_wp2_with fail
  have hal : Below w.heap.size w (w.alloc (.cells #[.slice A n c, .slice B m d] 22)) := (Below.refl _ _).alloc (Nat.le_refl _) _
  have hbk : (w.alloc (.cells #[.slice A n c, .slice B m d] 22)).heap[w.heap.size]? = some (.cells #[.slice A n c, .slice B m d] 22 (0, 0)) := heap_alloc_new w _
  generalize w.alloc (.cells #[.slice A n c, .slice B m d] 22) = w0 at *
  have H0 := Hidden.mk (And.intro hal hbk)
  clear hal hbk
  go_loopg [29] 2 (fun q i wr => ∃ k : Nat, k ≤ 2 ∧ q = 2 - k ∧ i = .int .i64 (k : Int) ∧ Hidden (Below w.heap.size w wr ∧ wr.heap[w.heap.size]? = some (.cells #[.slice A n c, .slice B m d] 22 (0, 0))))
  case atStart => exact ⟨0, by omega, rfl, rfl, H0⟩
  case round =>
    obtain ⟨k, hk, rfl, rfl, hst⟩ := hrel
    by_cases hlt : k < 2
    · have hbk := hst.out.2
      have y0 : wr.cell? ⟨w.heap.size, 0, none⟩ = some (.slice A n c) := by simp [World.cell?, hbk]
      have y1 : wr.cell? ⟨w.heap.size, 1, none⟩ = some (.slice B m d) := by simp [World.cell?, hbk]
      have hw0 : w.heap.size < wr.heap.size := (Array.getElem?_eq_some_iff.1 hbk).1
      clear hbk
      rcases (show k = 0 ∨ k = 1 by omega) with rfl | rfl
      · clear y1
        go_wp2_with fail
        refine (C1.out _ hst.out.1).mono ?_
        rintro e w2 ⟨rfl, hb⟩
        have hst2 := Hidden.mk (And.intro (hst.out.1.trans (hb.mono hst.out.1.size)) ((hb.block _ hw0).trans hst.out.2))
        clear hb hst y0 hw0
        go_wp2_with fail
        go_roundg 1
        case measure => omega
        case rel => exact ⟨1, by omega, rfl, by go_num, hst2⟩
      · clear y0
        go_wp2_with fail
        refine (C2.out _ hst.out.1).mono ?_
        rintro e w2 ⟨rfl, hb⟩
        have hst2 := Hidden.mk (And.intro (hst.out.1.trans (hb.mono hst.out.1.size)) ((hb.block _ hw0).trans hst.out.2))
        clear hb hst y1 hw0
        go_wp2_with fail
        go_roundg 0
        case measure => omega
        case rel => exact ⟨2, by omega, rfl, by go_num, hst2⟩
    · obtain rfl : k = 2 := by omega
      have HB := Hidden.mk hst.out.1
      clear hst H0 C1 C2
      go_wp2_with fail
      go_loopg [9] 40 (fun q i wr => ∃ k : Nat, k ≤ 40 ∧ q = 40 - k ∧ i = .int .i64 ((k : Int) + 1) ∧ Hidden (Below w.heap.size w wr ∧ ∀ j, j < k → objL a j = objL b j))
      case atStart => exact ⟨0, by omega, rfl, rfl, ⟨HB.out, fun j hj => by omega⟩⟩
      case round =>
        obtain ⟨k, hk, rfl, rfl, hst⟩ := hrel
        by_cases hlt : k < 40
        · have k0 : ((k : Int) + 1) ≤ 40 := by omega
          have s1 : IntKind.i64.wrap ((k : Int) + 1 + 1) = (k : Int) + 1 + 1 := IntWalk.i64_in _ (by omega)
          have G3 := Hidden.mk (C3.out k hlt _ hst.out.1)
          have G4 := Hidden.mk (C4.out k hlt)
          have HF : Hidden (objL a k ≠ objL b k → sameB a b = false) := ⟨objsB_false hlt⟩
          have HT : Hidden (objL a k = objL b k → ∀ j, j < k + 1 → objL a j = objL b j) := ⟨fun he j hj => by
            rcases Nat.lt_succ_iff_lt_or_eq.1 hj with h | h
            · exact hst.out.2 j h
            · rw [h]; exact he⟩
          generalize objL a k = oa at *
          generalize objL b k = ob at *
          clear C3 C4
          go_wp2_with fail
          refine G3.out.mono ?_
          rintro e w2 ⟨A2, n2, c2, rfl, hl2, hs2, hr2, hb2⟩
          have hB2 := hst.out.1.trans (hb2.mono hst.out.1.size)
          have K2 := Hidden.mk (And.intro hl2 (And.intro hr2 hB2))
          clear hl2 hr2 hB2 hb2
          go_wp2_with fail
          refine (G4.out _ K2.out.2.2).mono ?_
          rintro e w3 ⟨A3, n3, c3, rfl, hl3, hs3, hr3, hb3⟩
          have hB3 := K2.out.2.2.trans (hb3.mono K2.out.2.2.size)
          have K3 := Hidden.mk (And.intro hl3 (And.intro hr3 (And.intro (K2.out.2.1.below hb3) hB3)))
          clear hl3 hr3 hB3 hb3
          go_wp2_with fail
          refine (equal_any A2 A3 n2 n3 c2 c3 oa ob _ K2.out.1 K3.out.1 K3.out.2.2.1 K3.out.2.1).mono ?_
          rintro e w4 ⟨rfl, rfl⟩
          cases he : (oa == ob) with
          | true =>
            have hst2 := Hidden.mk (And.intro K3.out.2.2.2 (HT.out (by simpa using he)))
            clear he G3 G4 HF HT K2 K3 hst
            go_wp2_with fail
            go_roundg (40 - (k + 1))
            case measure => omega
            case rel => exact ⟨k + 1, by omega, rfl, by go_num, hst2⟩
          | false =>
            have HFF := Hidden.mk (HF.out (by simpa using he))
            clear he G3 G4 HF HT K2 hst
            go_wp2_with fail
            go_ret2
            exact ⟨by rw [HFF.out]; rfl, K3.out.2.2.2⟩
        · obtain rfl : k = 40 := by omega
          have HOB : Hidden (sameB a b = leadsB (rootsL a) (rootsL b)) := ⟨by unfold sameB; rw [objsB_true hst.out.2]; rfl⟩
          have HB := Hidden.mk hst.out.1
          clear hst C3 C4
          go_wp2_with fail
          refine (C5.out _ HB.out).mono ?_
          rintro e w2 ⟨q1, rfl, hq1, him1, hb2⟩
          have hB2 := HB.out.trans (hb2.mono HB.out.size)
          have H2 := Hidden.mk (And.intro him1 (And.intro hB2 hq1))
          clear him1 hB2 hb2 hq1
          go_wp2_with fail
          refine (C6.out _ H2.out.2.1).mono ?_
          rintro e w3 ⟨q2, rfl, hq2, him2, hb3⟩
          have hB3 := H2.out.2.1.trans (hb3.mono H2.out.2.1.size)
          have him1 := H2.out.1.block (hb3.block _ H2.out.1.lt)
          have hqn : q1 ≠ q2 := by have := H2.out.1.lt; omega
          have hq1l := H2.out.2.2
          have hq2l := him2.lt
          obtain ⟨Dm, hown, hms, hhas⟩ := him1
          have HI2 := Hidden.mk him2
          have HHAS := Hidden.mk hhas
          have HMS := Hidden.mk hms
          have HB3 := Hidden.mk hB3
          have HQ := Hidden.mk (And.intro hqn (And.intro hq1l hq2))
          have HC1 : Hidden (leadC (rootsL a) ≤ 8) := ⟨Nat.le_trans (leadC_le _) (rootsF_len _ _)⟩
          have HC2 : Hidden (leadC (rootsL b) ≤ 8) := ⟨Nat.le_trans (leadC_le _) (rootsF_len _ _)⟩
          have HN : Hidden (∀ x ∈ rootsL a, x.1.length ≤ 8) := ⟨fun x hx => rootP_len _ _ x hx⟩
          have HLB : Hidden (leadsB (rootsL a) (rootsL b) = (((rootsL a).all fun p => (leadN (rootsL b) p.1).getD 0 == (leadN (rootsL a) p.1).getD 0) && leadC (rootsL a) == leadC (rootsL b))) := ⟨rfl⟩
          generalize rootsL a = La at *
          generalize rootsL b = Lb at *
          generalize hc1 : leadC La = k1 at *
          generalize hc2 : leadC Lb = k2 at *
          have HK1 := Hidden.mk hc1
          have HK2 := Hidden.mk hc2
          clear hb3 H2 him2 hhas hms hB3 hqn hq1l hq2 hq2l hc1 hc2 C5 C6
          go_wp2_with (at_range; refine wpList_range_own _ rfl _ 89 rfl 9 3 str_keyed Tryz.underlying89 heldR q1 k1 Dm rfl hown ?_; intro w4 hrg4 hg4 hs4)
          go_frame
          generalize hr : w3.heap.size = r at *
          have hB4 : Below w.heap.size w w4 := HB3.out.grown hg4 HB3.out.size (fun q hq => by cases hq)
          have hI4 : IM Tryz.prog 9 strL w4 q2 (leadF Lb) k2 := HI2.out.block (hg4.block _ HI2.out.lt (by simp))
          have HR : Hidden (w3.heap.size = r ∧ q2 < w3.heap.size) := ⟨hr, HI2.out.lt⟩
          have HI4 := Hidden.mk (And.intro hB4 hI4)
          clear hB4 hI4 hr hown hg4 hs4
          go_loopg [] (Maps.size Dm) (fun m wr => ∃ left : Lit → Bool, wr.ranges Tryz.prog 9 heldR q1 r k1 Dm left m ∧ Hidden (Below w.heap.size w wr ∧ IM Tryz.prog 9 strL wr q2 (leadF Lb) k2 ∧ (∀ l, left l = true → Maps.has Dm l = true) ∧ ∀ s h, leadN La s = some h → left (strL s) = false → (leadN Lb s).getD 0 = h))
          case atStart =>
            refine ⟨_, hrg4, ⟨HI4.out.1, HI4.out.2, fun _ h => h, fun s h hs hl => ?_⟩⟩
            have := ((HHAS.out.1 s).2 (.int .i64 h) (by unfold leadF; rw [hs]; rfl)).1
            rw [this] at hl; cases hl
          case round =>
            obtain ⟨left, hrg, hst⟩ := hrel
            clear hrg4 HI4
            go_wp2_with (at_next; refine wpList_next_ranges _ rfl _ rfl 9 str_keyed heldR sv (fun v => v) (fun key kl hkey => (by obtain ⟨x, hx, _⟩ := Go.WideMaps.string_of_keyOf Tryz.underlying9 hkey; exact ⟨x.data.toList, by rw [hx]⟩)) (fun v y _ => ⟨v, rfl⟩) q1 r k1 Dm left _ rfl hrg ?_ ?_)
            · intro hc0 hl0
              have hall : (La.all fun p => (leadN Lb p.1).getD 0 == (leadN La p.1).getD 0) = true := by
                rw [List.all_eq_true]
                intro p hp
                obtain ⟨h, hh⟩ := Option.isSome_iff_exists.1 (leadN_has hp)
                rw [hst.out.2.2.2 p.1 h hh (hl0 _), hh]; simp
              have HF : Hidden (sameB a b = (k1 == k2)) := ⟨by rw [HOB.out, HLB.out, hall]; rfl⟩
              have h1 := IM.len_ (P := Tryz.prog) (K := 9) (T := 89) (E := 3) (kl := strL) (w := wr) (b := q1) (f := leadF La) (cnt := k1) ⟨Dm, hrg.owns, HMS.out, HHAS.out⟩ Tryz.underlying89
              have h2 := IM.len_ (T := 89) hst.out.2.1 Tryz.underlying89
              have HBQ : Hidden (((k1 : Int) == (k2 : Int)) = (k1 == k2)) := ⟨by rw [Bool.eq_iff_iff]; simp; omega⟩
              clear hrg hc0 hl0 hall
              go_wp2_with fail
              go_ret2
              exact ⟨by rw [HF.out, ← HBQ.out]; rfl, hst.out.1⟩
            · intro x c kl y y2 w5 cnt5 hkey hlk hy hat hrg5 hlt5 hg5 hs5 hen
              obtain ⟨s, rfl, hfk⟩ := HHAS.out.2 kl (hst.out.2.2.1 kl hlk)
              obtain ⟨s', es, el, _⟩ := Go.WideMaps.string_of_keyOf Tryz.underlying9 hkey
              have hxs : x = s := by
                unfold sv at es
                unfold strL at el
                injection es with es
                injection el with el
                rw [el, ← es]
              subst hxs
              rw [leadF_isSome] at hfk
              obtain ⟨h, hh⟩ := Option.isSome_iff_exists.1 hfk
              have hch : c = .int .i64 (h : Int) := by
                have ha := ((HHAS.out.1 x).2 _ (show leadF La x = some (.int .i64 (h : Int)) by unfold leadF; rw [hh]; rfl)).2 (.held c)
                rw [hat] at ha
                unfold heldR at hy
                rw [← (Prod.mk.inj (Option.some.inj hy)).1] at ha
                simpa using ha
              subst hch
              have hx8 : x.length ≤ 8 := HN.out _ (leadN_mem hh)
              have him5 := hst.out.2.1.block (hg5.block _ hst.out.2.1.lt (fun e => by obtain ⟨h1, h2⟩ := HR.out; have := Option.some.inj e; omega))
              have hlook : (Instr.lookup 89 (.map (some q2)) (sv x) false).run Tryz.prog w5 = .ok (.int .i64 (((leadN Lb x).getD 0 : Nat) : Int)) w5 := by
                cases hb : leadN Lb x with
                | none => exact (him5.look_none str_keyed (T := 89) Tryz.underlying89 (zero_int w5) (str_key (s := x) (by omega)) (by unfold leadF; rw [hb]; rfl)).2
                | some h' => exact (him5.look_some str_keyed (T := 89) Tryz.underlying89 (zero_int w5) (str_key (s := x) (by omega)) (by unfold leadF; rw [hb]; rfl)).2
              have hB5 : Below w.heap.size w w5 := hst.out.1.grown hg5 hst.out.1.size (fun q hq => by obtain ⟨h1, h2⟩ := HR.out; have := HB3.out.size; have := Option.some.inj hq; omega)
              have HNEXT : Hidden ((leadN Lb x).getD 0 = h → w5.ranges Tryz.prog 9 heldR q1 r k1 Dm (fun z => left z && !z.sameKey (strL x)) cnt5 ∧ Hidden (Below w.heap.size w w5 ∧ IM Tryz.prog 9 strL w5 q2 (leadF Lb) k2 ∧ (∀ l, (left l && !l.sameKey (strL x)) = true → Maps.has Dm l = true) ∧ ∀ s h, leadN La s = some h → (left (strL s) && !(strL s).sameKey (strL x)) = false → (leadN Lb s).getD 0 = h)) := ⟨fun he => ⟨hrg5, ⟨hB5, him5, fun l hl => hst.out.2.2.1 l (by simp only [Bool.and_eq_true] at hl; exact hl.1), fun s2 h2 hs2 hl2 => by
                rw [str_sameKey] at hl2
                by_cases hsx : s2 = x
                · subst hsx; rw [hs2] at hh; rw [Option.some.inj hh]; exact he
                · exact hst.out.2.2.2 s2 h2 hs2 (by simpa [hsx] using hl2)⟩⟩⟩
              have HBAD : Hidden ((leadN Lb x).getD 0 ≠ h → sameB a b = false) := ⟨fun he => by
                rw [HOB.out, HLB.out, Bool.and_eq_false_iff]
                left
                rw [List.all_eq_false]
                exact ⟨(x, h), leadN_mem hh, by rw [hh]; simpa using he⟩⟩
              have HB5 := Hidden.mk hB5
              have HLT := Hidden.mk hlt5
              generalize (leadN Lb x).getD 0 = g at *
              by_cases hgh : g = h
              · subst hgh
                have HN := Hidden.mk (HNEXT.out rfl)
                clear hrg hkey hlk hy hat hrg5 hlt5 hg5 hs5 hfk hh hx8 him5 hB5 HNEXT HBAD hst HHAS es el
                go_wp2_with fail
                go_roundg cnt5
                case measure => exact HLT.out
                case rel => exact ⟨_, HN.out⟩
              · have HF := Hidden.mk (HBAD.out hgh)
                have t1 : (((g : Nat) : Int) == (h : Int)) = false := by simp; omega
                have t2 : (((g : Nat) : Int) != (h : Int)) = true := by simp; omega
                clear hrg hkey hlk hy hat hrg5 hlt5 hg5 hs5 hfk hh hx8 him5 hB5 HNEXT HBAD hst HHAS es el
                go_wp2_with fail
                go_ret2
                exact ⟨by rw [HF.out]; rfl, HB5.out⟩
end Go.Proofs.YtnceheienlekaaaGreat
/- MoveKeeps: the walk. -/
namespace Go.Proofs.YtnceheienlekaaaGreat
open Go.RowKit

theorem Rd.moved {w0 w w' : World} {F F' : Nat → Prop} {h p off : Nat} {l m : Bytes} (hr : Rd w (some ⟨p, off, none⟩) m) (hm : HpM w0 w w' F F' h l) (hp : ¬ F p) (hl : 0 < m.length) : Rd w' (some ⟨p, off, none⟩) m ∧ ¬ F' p := by
  obtain ⟨p', off', e, hlt⟩ := hr.lt hl
  have e := Option.some.inj e
  injection e with e1 e2
  subst e1 e2
  refine ⟨fun j hj => ?_, fun hk => by rcases hm.nw _ hk with h' | h'; exact hp h'; omega⟩
  obtain ⟨q, o, eq, hc⟩ := hr j hj
  refine ⟨q, o, eq, ?_⟩
  have e := Option.some.inj eq
  injection e with e1 e2
  subst e1 e2
  exact (World.cell?_of_block (a := ⟨p, off + j, none⟩) (hm.kp.block p hlt hp)).trans hc
set_option maxRecDepth 100000 in
set_option maxHeartbeats 2000000 in
theorem moveKeeps_walk (A : Option Addr) (n c : Nat) (b : Bytes) (w : World) (hn : b.length = n) (hnc : n ≤ c) (hrd : Rd w A b) :
    Calls Tryz.prog 3 #[.slice A n c] w fun e w' => e = .returned (.bool true) ∧ Below w.heap.size w w' := by
  have HA := Hidden.mk (And.intro hn (And.intro hnc hrd))
  have HN := Hidden.mk (hnew_ok 320 w (by decide))
  rw [show ((320 : Nat) : Int) = 320 from rfl] at HN
  obtain ⟨l1, l2, l3, L0, hh, k1, k2, k3, k4, k5, k6, k7, k8, k9, k10, k11, k12, o0, u0, m0, k13⟩ := keeps_start
  clear hn hnc hrd
  go_enter Tryz.func3, Tryz.ntmps3
  go_wp2_with fail
  refine HN.out.mono ?_
  rintro e w1 ⟨h0, F0, rfl, hp⟩
  have HC := Hidden.mk (halloc_any 5 0 hp)
  rw [k1, k2, k3, show errV 0 = Value.nilIface from rfl] at HC
  clear hp HN k1 k2 k3
  go_wp2_with fail
  refine HC.out.mono ?_
  rintro e w2 ⟨rfl, F1, hm1⟩
  have HC2 := Hidden.mk (halloc_any 5 1 hm1.hp)
  rw [k4, k5, k6, show errV 0 = Value.nilIface from rfl] at HC2
  clear hm1 HC k4 k5 k6
  go_wp2_with fail
  refine HC2.out.mono ?_
  rintro e w3 ⟨rfl, F2, hm2⟩
  have HC3 := Hidden.mk (hfree_any 1 hm2.hp)
  rw [k7, k8, show errV 0 = Value.nilIface from rfl] at HC3
  clear hm2 HC2 k7 k8
  go_wp2_with fail
  refine HC3.out.mono ?_
  rintro e w4 ⟨rfl, F3, hm3⟩
  have HC4 := Hidden.mk (mall_any hm3.hp k9)
  rw [k10, k11, show ((1 : Nat) : Int) = 1 from rfl] at HC4
  clear hm3 HC3 k9 k10 k11
  go_wp2_with fail
  refine HC4.out.mono ?_
  rintro e w5 ⟨rfl, F4, hm4⟩
  have HC5 := Hidden.mk (sheap_any hm4.hp k12)
  rw [k13] at HC5
  unfold statV at HC5
  have HP := Hidden.mk hm4.hp
  clear hm4 HC4 k12 k13
  go_wp2_with fail
  refine HC5.out.mono ?_
  rintro e w6 ⟨rfl, hb6⟩
  have HP6 := HP.out.below hb6
  have HBE := Hidden.mk (HP6.below ((Below.refl w6.heap.size w6).alloc (Nat.le_refl _) (.cells #[.int .i64 o0, .int .i64 u0, .int .i64 27, .int .i64 m0, .int .i64 1] 33))).bel
  clear hb6 HC5 HP HP6
  have HLD := Hidden.mk (fun (W : World) (hW : Below w.heap.size w W) => loaded_ok A n c b W HA.out.1 HA.out.2.1 (HA.out.2.2.below hW))
  have HGL := Hidden.mk (loadL_good b)
  generalize loadL b = ll at *
  go_wp2_with fail
  refine (HLD.out _ HBE.out).mono ?_
  rintro e w7 ⟨h, F, p, off, c1, rfl, hc1, hp7, hr7, hfp⟩
  have HFIN : Hidden (∀ W, Below (w6.alloc (.cells #[.int .i64 o0, .int .i64 u0, .int .i64 27, .int .i64 m0, .int .i64 1] 33)).heap.size (w6.alloc (.cells #[.int .i64 o0, .int .i64 u0, .int .i64 27, .int .i64 m0, .int .i64 1] 33)) W → Below w.heap.size w W) := ⟨fun W hW => HBE.out.trans (hW.mono HBE.out.size)⟩
  generalize w6.alloc (.cells #[.int .i64 o0, .int .i64 u0, .int .i64 27, .int .i64 m0, .int .i64 1] 33) = wb at *
  have HP := Hidden.mk hp7
  have HR := Hidden.mk (And.intro hr7 hfp)
  clear hp7 hr7 hfp HLD HBE
  have HS := Hidden.mk (sheap_any HP.out HGL.out)
  rw [statH_good HGL.out] at HS
  unfold statV at HS
  go_wp2_with fail
  refine HS.out.mono ?_
  rintro e w8 ⟨rfl, hb8⟩
  have HP8 := HP.out.below hb8
  have H9 := Five.made (a0 := ((takenL ll).length : Int)) (a1 := sumX (takenL ll)) (a2 := (ll.length : Int) - 288 - sumX (takenL ll)) (a3 := mostX (holesX ((ll.length : Int) - 288) (takenL ll))) (a4 := ((holesX ((ll.length : Int) - 288) (takenL ll)).length : Int)) HP8
  have hal := (Below.refl w8.heap.size w8).alloc (Nat.le_refl _) (.cells #[.int .i64 ((takenL ll).length : Int), .int .i64 (sumX (takenL ll)), .int .i64 ((ll.length : Int) - 288 - sumX (takenL ll)), .int .i64 (mostX (holesX ((ll.length : Int) - 288) (takenL ll))), .int .i64 ((holesX ((ll.length : Int) - 288) (takenL ll)).length : Int)] 33)
  have HP9 := HP8.below hal
  have hR9 := (HR.out.1.below hb8).below hal
  have HST := Hidden.mk (And.intro HP9 (And.intro H9 (And.intro hR9 HR.out.2)))
  have h288 := HGL.out.bd.1
  clear hb8 HP8 H9 hal HP9 hR9 HS HP HR
  go_wp2_with fail
  generalize w8.alloc (.cells #[.int .i64 ((takenL ll).length : Int), .int .i64 (sumX (takenL ll)), .int .i64 ((ll.length : Int) - 288 - sumX (takenL ll)), .int .i64 (mostX (holesX ((ll.length : Int) - 288) (takenL ll))), .int .i64 ((holesX ((ll.length : Int) - 288) (takenL ll)).length : Int)] 33) = w9 at *
  generalize w8.heap.size = sb at *
  generalize ((holesX ((ll.length : Int) - 288) (takenL ll)).length : Int) = ru at *
  generalize mostX (holesX ((ll.length : Int) - 288) (takenL ll)) = mo at *
  go_loopg [18] 50 (fun q iv wr => ∃ (i : Nat) (F : Nat → Prop) (l : Bytes), i ≤ 40 ∧ q = 50 - i ∧ iv = .int .i64 (i : Int) ∧ Hidden (Hp wb wr F h l ∧ MovedR ll l ∧ packM 288 (sortM l) + i ≤ 40 ∧ Five wr F sb ((takenL ll).length : Int) (sumX (takenL ll)) ((ll.length : Int) - 288 - sumX (takenL ll)) mo ru ∧ Rd wr (some ⟨p, off, none⟩) ll ∧ ¬ F p))
  case atStart => exact ⟨0, F, ll, by omega, rfl, rfl, ⟨HST.out.1, MovedR.refl HGL.out, by have := pack40 ll; omega, HST.out.2.1, HST.out.2.2⟩⟩
  case round =>
    obtain ⟨i, F, l, hi, rfl, rfl, hst⟩ := hrel
    have d0 : decide ((i : Int) < 50) = true := by simp; omega
    have s1 : IntKind.i64.wrap ((i : Int) + 1) = (i : Int) + 1 := IntWalk.i64_in _ (by omega)
    obtain ⟨hp1, hmv, hpk, hfv, hrd, hnp⟩ := hst.out
    have HM := Hidden.mk (And.intro hmv hpk)
    have HSM := Hidden.mk (step_moved hmv.good)
    have HC := Hidden.mk (mstep_any hp1 hmv.good)
    have HW := Hidden.mk (And.intro hfv (And.intro hrd hnp))
    clear hst hp1 hmv hpk hfv hrd hnp HST
    go_wp2_with fail
    refine HC.out.mono ?_
    rintro e w10 ⟨rfl, F2, hm⟩
    have HP2 := Hidden.mk hm.hp
    have HF2 := Hidden.mk (HW.out.1.moved hm)
    have HR2 := Hidden.mk (HW.out.2.1.moved hm HW.out.2.2 (by omega))
    have HMV := Hidden.mk (HM.out.1.trans HSM.out.1)
    have HBY := Hidden.mk (hbytes_ok _ _ F2 h _ hm.hp)
    clear hm HC HW
    go_wp2_with fail
    refine HBY.out.mono ?_
    rintro e w11 ⟨g, cap, rfl, -, hrow, hb11⟩
    have HP3 := Hidden.mk (HP2.out.below hb11)
    have HF3 := Hidden.mk (HF2.out.below hb11)
    have HR3 := Hidden.mk (And.intro (HR2.out.1.below hb11) HR2.out.2)
    have HSAME := Hidden.mk (same_ok (some ⟨p, off, none⟩) (some ⟨g, 0, none⟩) ll.length (stepL l).length c1 cap ll (stepL l) w11 rfl rfl HGL.out.len HMV.out.good.len hc1 hrow.le.1 HR3.out.1 hrow.rd HGL.out.chk HMV.out.good.chk)
    rw [same_moved HMV.out HGL.out] at HSAME
    clear hb11 hrow HBY HP2 HF2 HR2
    go_wp2_with fail
    refine HSAME.out.mono ?_
    rintro e w12 ⟨rfl, hb12⟩
    have HP4 := Hidden.mk (HP3.out.below hb12)
    have HF4 := Hidden.mk (HF3.out.below hb12)
    have HR4 := Hidden.mk (And.intro (HR3.out.1.below hb12) HR3.out.2)
    clear hb12 HSAME HP3 HF3 HR3
    cases hb : stepB l with
    | true =>
      have HLT := Hidden.mk (HSM.out.2.1 hb)
      have HPK : Hidden (packM 288 (sortM (stepL l)) + (i + 1) ≤ 40) := ⟨by have := HLT.out; have := HM.out.2; omega⟩
      have hi40 : i + 1 ≤ 40 := by have := HPK.out; omega
      clear hb HSM HM HLT
      generalize stepL l = l' at *
      go_wp2_with fail
      go_roundg (50 - (i + 1))
      case measure => omega
      case rel => exact ⟨i + 1, F2, l', by omega, rfl, by go_num, ⟨HP4.out, HMV.out, HPK.out, HF4.out, HR4.out⟩⟩
    | false =>
      obtain ⟨hsl, hgap⟩ := HSM.out.2.2 hb
      rw [hsl] at HP4 HMV
      have hph := packed_holes HMV.out.good hgap
      have HS2 := Hidden.mk (sheap_any HP4.out HMV.out.good)
      rw [statH_good HMV.out.good] at HS2
      unfold statV at HS2
      rw [hph.2, HMV.out.many, HMV.out.sum, HMV.out.len] at HS2
      have HGN : Hidden (∀ W, Below w12.heap.size w12 W → Calls Tryz.prog 14 #[.pointer (some ⟨h, 0, none⟩)] W fun e w' => e = .returned (.int .i64 0) ∧ Hp wb w' F2 h l) := ⟨fun W hW => (mgain_any (HP4.out.below hW) HMV.out.good).mono fun e w' ⟨h1, h2⟩ => ⟨by
        rw [h1]; unfold gainL; rw [hph.2, HMV.out.sum, HMV.out.len, Int.sub_self], (HP4.out.below hW).below h2⟩⟩
      have hru : decide (((holesX ((l.length : Int) - 288) (takenL l)).length : Int) ≤ 1) = true := by simp; have := hph.1; omega
      rw [HMV.out.len] at hru
      clear hsl hgap hb HSM HM hph
      generalize ((holesX ((ll.length : Int) - 288) (takenL l)).length : Int) = ru' at *
      generalize (ll.length : Int) - 288 - sumX (takenL ll) = fr at *
      generalize sumX (takenL ll) = su at *
      generalize ((takenL ll).length : Int) = ob at *
      go_wp2_with fail
      refine HS2.out.mono ?_
      rintro e w13 ⟨rfl, hb13⟩
      have hal := (Below.refl w13.heap.size w13).alloc (Nat.le_refl _) (.cells #[.int .i64 ob, .int .i64 su, .int .i64 fr, .int .i64 fr, .int .i64 ru'] 33)
      have H14 := (HF4.out.below hb13).below hal
      obtain ⟨x0, x1, x2, x3, x4⟩ := H14.cells
      have HB14 := Hidden.mk (hb13.trans (hal.mono hb13.size))
      clear hb13 hal H14 HS2
      go_wp2_with fail
      refine (HGN.out _ HB14.out).mono ?_
      rintro e w15 ⟨rfl, hp15⟩
      have HF := Hidden.mk (HFIN.out _ hp15.bel)
      clear hp15 HGN x0 x1 x2 x3 x4
      go_wp2_with fail
      go_ret
      exact ⟨rfl, HF.out⟩
end Go.Proofs.YtnceheienlekaaaGreat
