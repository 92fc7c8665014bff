/- Contracts and plain laws, put together: PagesS, PagesT, DevA, Pages1, Pages2, Pages3, PagesU, PagesLost, PagesPlaysP, Lst0, ErrI, Img1, Img2, Img3, DiffP, DiffQ, CheckP, Img4, Chk1, Chk2, Chk4, Img5, RefN, RefP, RefM, RefNm, RefI1, RefI2, RefD1, Rows2, RefD2, RefD3, RefD4, RefD5, RefD6, RefD7, RefD8, RefPg1. -/
import Derived.Test.YtbnobjlphmkgeaaDoorPagesPlaysFrameM1
import Derived.Deep.LoopGhost
import Derived.Laws.CopyOwn
import Derived.Deep.RegionHeld3
import Derived.Deep.AppendLies
import Derived.Deep.RegionLaw
import Derived.Deep.DeepCutAuto
import Derived.Deep.CutBlock
import Derived.StillTailTactics
/- Pages: what is safe, wherever the power goes. No program in sight. -/
namespace Go.Proofs.YtbnobjlphmkgeaaDoor
open Go.RowKit

/-- a mark that counts for nothing beside the stamp st -/
def Oth (st : Nat) (x : Bytes) : Prop := x.length = 32 ∧ (ofB (x.drop 28) = 0 ∨ (ofB (x.drop 28) < st ∧ ofB (x.drop 28) % 2 = (st + 1) % 2))
theorem mark_stamp (n : Nat) (x : Bytes) : (markOf n x).1 = 0 ∨ ((markOf n x).1 = ofB (x.drop 28) ∧ (markOf n x).1 ≠ 0) := by
  unfold markOf
  split
  · exact .inl rfl
  · rename_i h
    split
    · exact .inl rfl
    · split
      · right
        have h0 : (openF x).2.2 = 0 := by simpa using h
        unfold openF at h0
        split at h0
        · cases h0
        · split at h0
          · cases h0
          · split at h0
            · cases h0
            · rename_i h1 h2 h3
              refine ⟨?_, h3⟩
              show ofB (x.take 4) = _
              rw [Decidable.not_not.1 h2]
      · exact .inl rfl
theorem oth_mark {n st : Nat} {x : Bytes} (h : Oth st x) (h1 : 1 ≤ st) : (markOf n x).1 < st := by
  rcases mark_stamp n x with h' | ⟨h', h0⟩
  · omega
  · rcases h.2 with h2 | ⟨h2, _⟩ <;> omega
theorem oth_num {nx E e A Q B : Nat} (hE : E = A + B * Q) (_hA : A < B) (hQ : E < nx) (he : e = nx % B + B * Q) (hB : B = 256 ∨ B = 65536 ∨ B = 16777216 ∨ B = 4294967296) : e = nx ∨ (e < nx ∧ e % 2 = nx % 2) := by
  rcases hB with rfl | rfl | rfl | rfl <;> omega
theorem oth_mix {st : Nat} {x b : Bytes} (c : Nat) (h : Oth st x) (hst : st + 1 ≤ 4294967295) (hb : b.length ≤ 24) (hc : c ≤ 32) (h1 : 1 ≤ st) :
    (makeB (st + 1) b).take c ++ x.drop c = makeB (st + 1) b ∨ Oth st ((makeB (st + 1) b).take c ++ x.drop c) := by
  have hl := makeB_len (st + 1) b hb
  have hlt : ((makeB (st + 1) b).take c).length = c := by simp; omega
  have hyl : ((makeB (st + 1) b).take c ++ x.drop c).length = 32 := by rw [List.length_append, hlt, List.length_drop, h.1]; omega
  by_cases h28 : c ≤ 28
  · right
    refine ⟨hyl, ?_⟩
    rw [List.drop_append, hlt, List.drop_of_length_le (by omega), List.nil_append, List.drop_drop, show c + (28 - c) = 28 by omega]
    exact h.2
  · have hd : ((makeB (st + 1) b).take c ++ x.drop c).drop 28 = numB (st + 1) (c - 28) ++ (x.drop 28).drop (c - 28) := by
      rw [List.drop_append, hlt, show 28 - c = 0 by omega, List.drop_zero, List.drop_take, makeB_drop _ _ hb, numB_take _ _ _ (by omega), List.drop_drop, show 28 + (c - 28) = c by omega]
    have hx4 : (x.drop 28).length = 4 := by simp [h.1]
    have hA : ofB ((x.drop 28).take (c - 28)) < 2 ^ (8 * (c - 28)) := by
      have := ofB_lt ((x.drop 28).take (c - 28))
      rwa [List.length_take, hx4, Nat.min_eq_left (by omega)] at this
    have hE : ofB (x.drop 28) = ofB ((x.drop 28).take (c - 28)) + 2 ^ (8 * (c - 28)) * ofB ((x.drop 28).drop (c - 28)) := by
      conv => lhs; rw [← List.take_append_drop (c - 28) (x.drop 28)]
      rw [ofB_append, List.length_take, hx4, Nat.min_eq_left (by omega)]
    have he : ofB (((makeB (st + 1) b).take c ++ x.drop c).drop 28) = (st + 1) % 2 ^ (8 * (c - 28)) + 2 ^ (8 * (c - 28)) * ofB ((x.drop 28).drop (c - 28)) := by
      rw [hd, ofB_append, ofB_numB, numB_length]
    have hB : 2 ^ (8 * (c - 28)) = 256 ∨ 2 ^ (8 * (c - 28)) = 65536 ∨ 2 ^ (8 * (c - 28)) = 16777216 ∨ 2 ^ (8 * (c - 28)) = 4294967296 := by
      have : c - 28 = 1 ∨ c - 28 = 2 ∨ c - 28 = 3 ∨ c - 28 = 4 := by omega
      rcases this with h | h | h | h <;> rw [h] <;> decide
    have hlt' : ofB (x.drop 28) < st + 1 := by rcases h.2 with h | ⟨h, _⟩ <;> omega
    rcases oth_num hE hA hlt' he hB with h' | ⟨h', hp⟩
    · left
      have e4 : ((makeB (st + 1) b).take c ++ x.drop c).drop 28 = numB (st + 1) 4 := by
        refine ofB_inj _ _ ?_ (by rw [h', ofB_numB4 _ hst])
        rw [List.length_drop, hyl, numB_length]
      have e28 : ((makeB (st + 1) b).take c ++ x.drop c).take 28 = (makeB (st + 1) b).take 28 := by
        rw [List.take_append_of_le_length (by omega), List.take_take, Nat.min_eq_left (by omega)]
      rw [← List.take_append_drop 28 ((makeB (st + 1) b).take c ++ x.drop c), e4, e28, ← makeB_drop (st + 1) b hb, List.take_append_drop]
    · right
      exact ⟨hyl, .inr ⟨by omega, hp⟩⟩

/-- what is wrong with pages: nothing -/
theorem chkL_zero {n : Nat} : ∀ (l : List (Int × Bytes)) (seen : List Int), chkL n seen l = 0 → (∀ x ∈ l, 0 ≤ x.1 ∧ x.1 < n ∧ x.2.length = 32 ∧ x.1 ∉ seen) ∧ (l.map (·.1)).Nodup
  | [], _, _ => ⟨by simp, by simp⟩
  | x :: r, seen, h => by
    unfold chkL at h
    split at h
    · cases h
    · split at h
      · cases h
      · split at h
        · cases h
        · rename_i h1 h2 h3
          obtain ⟨a, b⟩ := chkL_zero r _ h
          refine ⟨fun y hy => ?_, ?_⟩
          · rcases List.mem_cons.1 hy with rfl | hy
            · exact ⟨by omega, by omega, by omega, h3⟩
            · have := a y hy
              exact ⟨this.1, this.2.1, this.2.2.1, fun hs => this.2.2.2 (List.mem_append.2 (.inl hs))⟩
          · rw [List.map_cons, List.nodup_cons]
            refine ⟨fun hm => ?_, b⟩
            obtain ⟨y, hy, e⟩ := List.mem_map.1 hm
            exact (a y hy).2.2.2 (List.mem_append.2 (.inr (by simp [e])))
structure ChkOk (n : Nat) (m : List (Int × Bytes)) : Prop where
  len : m.length ≤ 23
  each : ∀ x ∈ m, 0 ≤ x.1 ∧ x.1 < n ∧ x.2.length = 32
  nd : (m.map (·.1)).Nodup
theorem chkP_zero {n : Nat} {m : List (Int × Bytes)} (h : chkP n m = 0) : ChkOk n m := by
  unfold chkP at h
  split at h
  · cases h
  · obtain ⟨a, b⟩ := chkL_zero m [] h
    exact ⟨by omega, fun x hx => ⟨(a x hx).1, (a x hx).2.1, (a x hx).2.2.1⟩, b⟩
theorem u8_small {k : Nat} (h : k < 256) : (UInt8.ofNat k).toNat = k := by simp; omega
/-- the mark of pages that are right says so -/
theorem markOf_markB {n nx : Nat} {m : List (Int × Bytes)} (hm : ChkOk n m) (hn : n ≤ 200) (h1 : 1 ≤ nx) (h2 : nx ≤ 4294967295) : markOf n (markB nx m) = (nx, numsB m) ∧ (markB nx m).length = 32 := by
  have hl := hm.len
  have hbl : (UInt8.ofNat m.length :: numsB m).length ≤ 24 := by simp [numsB]; omega
  have hlen : (markB nx m).length = 32 := makeB_len _ _ hbl
  have hst : stampOf (markB nx m) = nx := makeB_stamp _ _ h2
  have hbody : bodyOf (markB nx m) = (UInt8.ofNat m.length :: numsB m) ++ List.replicate (24 - (UInt8.ofNat m.length :: numsB m).length) 0 := makeB_body _ _ hbl
  have h0 : ((bodyOf (markB nx m)).getD 0 0).toNat = m.length := by rw [hbody]; show (UInt8.ofNat m.length).toNat = _; exact u8_small (by omega)
  have hmk : mkL (markB nx m) = numsB m := by
    unfold mkL
    rw [h0, hbody]
    show (numsB m ++ _).take m.length = _
    rw [List.take_append_of_le_length (by simp [numsB]), List.take_of_length_le (by simp [numsB])]
  refine ⟨?_, hlen⟩
  have ho : (openF (markB nx m)).2.2 = 0 := by
    unfold openF
    rw [if_neg (by omega), if_neg (by unfold markB; rw [makeB_take, makeB_drop _ _ hbl]; simp), if_neg (by omega)]
  unfold markOf
  rw [if_neg (by omega), if_neg (by omega), hmk, hst, if_pos]
  rw [List.all_eq_true]
  intro x hx
  obtain ⟨y, hy, rfl⟩ := List.mem_map.1 hx
  have := hm.each y hy
  have e : (UInt8.ofNat y.1.toNat).toNat = y.1.toNat := u8_small (by omega)
  rw [e]
  simp; omega
/-- pages behind a commit -/
def updPg (pg : Nat → Bytes) (m : List (Int × Bytes)) (i : Nat) : Bytes := m.foldl (fun d x => if x.1 = (i : Int) then x.2 else d) (pg i)
theorem fold_not {i : Nat} : ∀ (m : List (Int × Bytes)) (d : Bytes), (∀ x ∈ m, x.1 ≠ (i : Int)) → m.foldl (fun d x => if x.1 = (i : Int) then x.2 else d) d = d
  | [], _, _ => rfl
  | x :: r, d, h => by
    rw [List.foldl_cons, if_neg (h x List.mem_cons_self)]
    exact fold_not r d fun y hy => h y (List.mem_cons_of_mem _ hy)
theorem fold_at {i : Nat} : ∀ (m : List (Int × Bytes)) (d : Bytes) (k : Nat) (hk : k < m.length), (m.map (·.1)).Nodup → m[k].1 = (i : Int) → m.foldl (fun d x => if x.1 = (i : Int) then x.2 else d) d = m[k].2
  | [], _, k, hk, _, _ => by simp at hk
  | x :: r, d, 0, _, hn, e => by
    rw [List.map_cons, List.nodup_cons] at hn
    have e' : x.1 = (i : Int) := e
    rw [List.foldl_cons, if_pos e']
    exact fold_not r _ fun y hy e2 => hn.1 (List.mem_map.2 ⟨y, hy, by rw [e2, e']⟩)
  | x :: r, d, k + 1, hk, hn, e => by
    rw [List.map_cons, List.nodup_cons] at hn
    rw [List.foldl_cons]
    exact fold_at r _ k (by simpa using hk) hn.2 e

/-- the pages pg are there, of the stamp st: whatever is kept of what is pending, what is opened is they -/
structure Hold (n : Nat) (D : Dv) (st : Nat) (l : Bytes) (pg : Nat → Bytes) : Prop where
  n0 : n = nP D
  ln : 49 ≤ D.S.length
  mrk : ∃ v, Stab D (st % 2) v ∧ markOf n v = (st, l)
  pos : 1 ≤ st
  l23 : l.length ≤ 23
  inl : ∀ x ∈ l, x.toNat < n
  ar : ∀ k (hk : k < l.length), Stab D (areaP (st % 2) k) (pg l[k].toNat)
  rest : ∀ i, i < n → (∀ x ∈ l, x.toNat ≠ i) → Stab D (48 + i) (pg i)
  oth : ∃ v, Stab D ((st + 1) % 2) v ∧ Oth st v
/-- and they stand at their places, too -/
structure Full (n : Nat) (D : Dv) (st : Nat) (l : Bytes) (pg : Nat → Bytes) : Prop where
  hold : Hold n D st l pg
  all : ∀ i, i < n → Stab D (48 + i) (pg i)
section
variable {n st : Nat} {D D' : Dv} {l : Bytes} {pg : Nat → Bytes}
/-- all that counts is as it was -/
theorem Hold.same (h : Hold n D st l pg) (hl : D'.S.length = D.S.length)
    (hs : ∀ j v, j < D.S.length → (j < 2 ∨ (∃ k, k < l.length ∧ j = areaP (st % 2) k) ∨ (∃ i, i < n ∧ (∀ x ∈ l, x.toNat ≠ i) ∧ j = 48 + i)) → Stab D j v → Stab D' j v) : Hold n D' st l pg := by
  have hln := h.ln
  have hn := nP_le D
  have h23 := h.l23
  refine ⟨by rw [h.n0]; unfold nP; rw [hl], by rw [hl]; exact h.ln, ?_, h.pos, h.l23, h.inl, fun k hk => hs _ _ (by unfold areaP; omega) (.inr (.inl ⟨k, hk, rfl⟩)) (h.ar k hk), fun i hi hx => hs _ _ (by rw [h.n0] at hi; omega) (.inr (.inr ⟨i, hi, hx, rfl⟩)) (h.rest i hi hx), ?_⟩
  · obtain ⟨v, h1, h2⟩ := h.mrk
    exact ⟨v, hs _ _ (by omega) (.inl (by omega)) h1, h2⟩
  · obtain ⟨v, h1, h2⟩ := h.oth
    exact ⟨v, hs _ _ (by omega) (.inl (by omega)) h1, h2⟩
theorem Hold.fl (h : Hold n D st l pg) : Hold n (flD D).1 st l pg := h.same (flD_len D) fun _ _ hj _ hv => hv.fl hj
theorem Full.fl (h : Full n D st l pg) : Full n (flD D).1 st l pg := by
  refine ⟨h.hold.fl, fun i hi => (h.all i hi).fl ?_⟩
  have := nP_le D
  have := h.hold.ln
  rw [h.hold.n0] at hi; omega
theorem Hold.crash (h : Hold n D st l pg) (hw : WfD D) (keep : List Bool) (torn : Int) (c : Nat) (hc : c ≤ 32) : Hold n (crashD D keep torn c) st l pg := h.same (crash_len _ _ _ _) fun _ _ hj _ hv => hv.crash hw hj keep torn c hc
/-- what is written into the other area, or where a page stands that the mark names -/
theorem Hold.wrA (h : Hold n D st l pg) (k : Nat) (hk : k < 23) (b : Bytes) : Hold n (wrD D (areaP ((st + 1) % 2) k : Nat) b).1 st l pg :=
  h.same (by rw [wrD_len]) fun j v _ hj hv => hv.wr _ _ (by
    have := h.l23
    rcases hj with h' | ⟨q, hq, rfl⟩ | ⟨i, _, _, rfl⟩ <;> (unfold areaP; omega))
theorem Full.wrA (h : Full n D st l pg) (k : Nat) (hk : k < 23) (b : Bytes) : Full n (wrD D (areaP ((st + 1) % 2) k : Nat) b).1 st l pg :=
  ⟨h.hold.wrA k hk b, fun i hi => (h.all i hi).wr _ _ (by unfold areaP; omega)⟩
theorem Hold.wrP (h : Hold n D st l pg) (x : UInt8) (hx : x ∈ l) (b : Bytes) : Hold n (wrD D (48 + (x.toNat : Int)) b).1 st l pg :=
  h.same (by rw [wrD_len]) fun j v _ hj hv => hv.wr _ _ (by
    have := h.l23
    rcases hj with h' | ⟨q, hq, rfl⟩ | ⟨i, _, hi, rfl⟩
    · omega
    · unfold areaP; omega
    · have := hi x hx; omega)
end
section
variable {X : Type} {f : Nat → X → Dv → Dv × Nat}
theorem runE_inv {P : Dv → Prop} : ∀ (l : List X) (k : Nat) (D : Dv), P D → (∀ j x D, k ≤ j → j < k + l.length → x ∈ l → P D → P (f j x D).1) → P (runE f k l D).1
  | [], _, _, h, _ => h
  | x :: r, k, D, h, hf => by
    unfold runE
    have h1 := hf k x D (Nat.le_refl _) (by simp) List.mem_cons_self h
    split
    · exact runE_inv r (k + 1) _ h1 fun j y D h2 h3 h4 h5 => hf j y D (by omega) (by simp at *; omega) (List.mem_cons_of_mem _ h4) h5
    · exact h1
theorem runE_err {P : Dv → Prop} (e : Nat) : ∀ (l : List X) (k : Nat) (D : Dv), P D → (∀ j x D, k ≤ j → j < k + l.length → x ∈ l → P D → P (f j x D).1 ∧ ((f j x D).2 ≠ 0 → (f j x D).2 = e)) → (runE f k l D).2 ≠ 0 → (runE f k l D).2 = e
  | [], _, _, _, _, h => absurd rfl h
  | x :: r, k, D, h, hf, hn => by
    unfold runE at hn ⊢
    have h1 := hf k x D (Nat.le_refl _) (by simp) List.mem_cons_self h
    split
    · rename_i h0
      rw [if_pos h0] at hn
      exact runE_err e r (k + 1) _ h1.1 (fun j y D h2 h3 h4 h5 => hf j y D (by omega) (by simp at *; omega) (List.mem_cons_of_mem _ h4) h5) hn
    · rename_i h0
      exact h1.2 h0
end
theorem wrD_read {D : Dv} {i : Int} {b : Bytes} (h : (wrD D i b).2 = 0) (j : Nat) : readD (wrD D i b).1 j = if i = (j : Int) then b else readD D j := by
  rcases wrD_cases D i b with ⟨_, h'⟩ | ⟨h0, _, _, _, h1, _⟩
  · exact absurd h h'
  · rw [h1, readD_step, readD_put]
    by_cases hj : i = (j : Int)
    · rw [if_pos (by omega), if_pos hj]
    · rw [if_neg (by omega), if_neg hj]
theorem wrD_read' (D : Dv) {i : Int} {b : Bytes} (j : Nat) (hij : i ≠ (j : Int)) : readD (wrD D i b).1 j = readD D j := by
  rcases wrD_cases D i b with ⟨h', _⟩ | ⟨h0, _, _, _, h1, _⟩
  · rw [h']
  · rw [h1, readD_step, readD_put, if_neg (by omega)]
theorem runA_other (a : Nat) (j : Nat) : ∀ (m : List (Int × Bytes)) (k : Nat) (D : Dv), (∀ q, k ≤ q → q < k + m.length → areaP a q ≠ j) → readD (runE (areaF a) k m D).1 j = readD D j
  | [], _, _, _ => rfl
  | x :: r, k, D, h => by
    unfold runE
    have h1 : readD (areaF a k x D).1 j = readD D j := wrD_read' D j (by have := h k (Nat.le_refl _) (by simp); omega)
    split
    · rw [runA_other a j r (k + 1) _ (fun q h2 h3 => h q (by omega) (by simp; omega)), h1]
    · exact h1
theorem runA_read (a : Nat) : ∀ (m : List (Int × Bytes)) (k : Nat) (D : Dv), (runE (areaF a) k m D).2 = 0 → ∀ q (hq : q < m.length), readD (runE (areaF a) k m D).1 (areaP a (k + q)) = m[q].2
  | [], _, _, _, q, hq => by simp at hq
  | x :: r, k, D, h, q, hq => by
    unfold runE at h ⊢
    by_cases h0 : (areaF a k x D).2 = 0
    · rw [if_pos h0] at h ⊢
      rcases q with _ | q
      · rw [runA_other a _ r (k + 1) _ (fun q h2 h3 => by unfold areaP; omega), Nat.add_zero]
        show readD (wrD D _ _).1 _ = x.2
        rw [wrD_read h0, if_pos rfl]
      · have := runA_read a r (k + 1) _ h q (by simpa using hq)
        rw [show k + (q + 1) = k + 1 + q by omega, this]; rfl
    · rw [if_neg h0] at h; exact absurd h h0
theorem runP_read (i : Nat) : ∀ (m : List (Int × Bytes)) (k : Nat) (D : Dv), (runE pageF k m D).2 = 0 → readD (runE pageF k m D).1 (48 + i) = m.foldl (fun d x => if x.1 = (i : Int) then x.2 else d) (readD D (48 + i))
  | [], _, _, _ => rfl
  | x :: r, k, D, h => by
    unfold runE at h ⊢
    by_cases h0 : (pageF k x D).2 = 0
    · rw [if_pos h0] at h ⊢
      rw [runP_read i r (k + 1) _ h, List.foldl_cons]
      congr 1
      show readD (wrD D _ _).1 _ = _
      rw [wrD_read h0]
      by_cases e : x.1 = (i : Int)
      · rw [if_pos (by omega), if_pos e]
      · rw [if_neg (by omega), if_neg e]
    · rw [if_neg h0] at h; exact absurd h h0
theorem runC_read (a : Nat) (ha : a < 2) (pg : Nat → Bytes) (i : Nat) : ∀ (l : Bytes) (k : Nat) (D : Dv), k + l.length ≤ 23 → (∀ q (hq : q < l.length), readD D (areaP a (k + q)) = pg l[q].toNat) → (runE (copyF a) k l D).2 = 0 →
    readD (runE (copyF a) k l D).1 (48 + i) = if ∃ x ∈ l, x.toNat = i then pg i else readD D (48 + i)
  | [], _, _, _, _, _ => by simp [runE]
  | x :: r, k, D, hk, har, h => by
    unfold runE at h ⊢
    by_cases h0 : (copyF a k x D).2 = 0
    · rw [if_pos h0] at h ⊢
      have hlen : (x :: r).length = r.length + 1 := rfl
      have hr : ∀ q (hq : q < r.length), readD (copyF a k x D).1 (areaP a (k + 1 + q)) = pg r[q].toNat := fun q hq => by
        have := har (q + 1) (by simpa using hq)
        rw [show k + (q + 1) = k + 1 + q by omega] at this
        show readD (wrD D _ _).1 _ = _
        rw [wrD_read' D _ (by unfold areaP; omega), this]; rfl
      rw [runC_read a ha pg i r (k + 1) _ (by omega) hr h]
      have hx : readD (copyF a k x D).1 (48 + i) = if x.toNat = i then pg i else readD D (48 + i) := by
        show readD (wrD D _ _).1 _ = _
        rw [wrD_read h0]
        by_cases e : x.toNat = i
        · rw [if_pos (by omega), if_pos e]
          have := har 0 (by simp)
          rw [Nat.add_zero] at this
          rw [this]; show pg x.toNat = _; rw [e]
        · rw [if_neg (by omega), if_neg e]
      rw [hx]
      by_cases e : x.toNat = i
      · rw [if_pos e]
        rw [if_pos (⟨x, List.mem_cons_self, e⟩ : ∃ y ∈ x :: r, y.toNat = i)]
        split <;> rfl
      · rw [if_neg e]
        have : (∃ y ∈ x :: r, y.toNat = i) ↔ ∃ y ∈ r, y.toNat = i := ⟨fun ⟨y, hy, h'⟩ => by
          rcases List.mem_cons.1 hy with rfl | hy
          · exact absurd h' e
          · exact ⟨y, hy, h'⟩, fun ⟨y, hy, h⟩ => ⟨y, List.mem_cons_of_mem _ hy, h⟩⟩
        simp only [this]
    · rw [if_neg h0] at h; exact absurd h h0
end Go.Proofs.YtbnobjlphmkgeaaDoor
/- Pages: what Open and Commit keep, wherever the power goes. No program in sight. -/
namespace Go.Proofs.YtbnobjlphmkgeaaDoor
open Go.RowKit

section
variable {n st : Nat} {D : Dv} {l : Bytes} {pg : Nat → Bytes}
theorem Hold.lens (h : Hold n D st l pg) : n ≤ 200 ∧ n + 48 ≤ D.S.length ∧ 1 ≤ n := by
  have := h.ln
  have h0 := h.n0
  unfold nP at h0
  omega
/-- what is opened is what counts -/
theorem Hold.opened (h : Hold n D st l pg) : openMk D = (st, st % 2, l) := by
  obtain ⟨v, h1, h2⟩ := h.mrk
  obtain ⟨u, h3, h4⟩ := h.oth
  have ho := oth_mark (n := n) h4 h.pos
  unfold openMk
  rw [← h.n0]
  by_cases hp : st % 2 = 0
  · have hq : (st + 1) % 2 = 1 := by omega
    rw [hp] at h1
    rw [hq] at h3
    rw [h1.2, h3.2, h2]
    unfold pick
    dsimp only
    rw [if_neg (by omega), hp]
  · have hp1 : st % 2 = 1 := by omega
    have hq : (st + 1) % 2 = 0 := by omega
    rw [hp1] at h1
    rw [hq] at h3
    rw [h1.2, h3.2, h2]
    unfold pick
    dsimp only
    rw [if_pos ho, hp1]
/-- while pages are copied -/
theorem Hold.copy (_h : Hold n D st l pg) (k : Nat) (x : UInt8) (hx : x ∈ l) (D' : Dv) (h' : Hold n D' st l pg) : Hold n (copyF (st % 2) k x D').1 st l pg := h'.wrP x hx _
/-- a device that is safe, opened -/
theorem open_safe (h : Hold n D st l pg) (hw : WfD D) :
    ((openP D).2 = 0 ∧ Full n (openP D).1 st l pg ∧ (openP D).1.O = [] ∧ (openP D).1.down = false ∧ WfD (openP D).1 ∨ (openP D).2 = 9 ∧ Hold n (openP D).1 st l pg ∧ WfD (openP D).1) ∧ (openP D).1.S.length = D.S.length := by
  have hl := h.ln
  have hlens := h.lens
  have hop := h.opened
  unfold openP
  rw [if_neg (by omega), hop]
  by_cases hd : D.down = true
  · rw [if_pos hd]; exact ⟨.inr ⟨rfl, h, hw⟩, rfl⟩
  rw [if_neg hd]
  dsimp only
  rw [if_neg (by have := h.pos; omega)]
  have hI := runE_inv (P := fun E => Hold n E st l pg ∧ WfD E ∧ E.S.length = D.S.length) l 0 D ⟨h, hw, rfl⟩ (f := copyF (st % 2)) (fun j x E _ _ hx hE => ⟨hE.1.wrP x hx _, wrD_wf hE.2.1 _ _, by show (wrD _ _ _).1.S.length = _; rw [wrD_len]; exact hE.2.2⟩)
  have hErr := runE_err (P := fun E => Hold n E st l pg ∧ WfD E ∧ E.S.length = D.S.length) 9 l 0 D ⟨h, hw, rfl⟩ (f := copyF (st % 2)) (fun j x E hj hjl hx hE => ⟨⟨hE.1.wrP x hx _, wrD_wf hE.2.1 _ _, by show (wrD _ _ _).1.S.length = _; rw [wrD_len]; exact hE.2.2⟩, fun hne => by
    have hxn := h.inl x hx
    have := h.l23
    have ha : st % 2 < 2 := by omega
    exact wrD_9 (i := 48 + x.toNat) (by rw [hE.2.2]; omega) (hE.2.1.rd (by rw [hE.2.2]; unfold areaP; omega)) hne⟩)
  have hRd := runC_read (st % 2) (by omega) pg
  generalize hX : runE (copyF (st % 2)) 0 l D = X at *
  obtain ⟨hX1, hX2, hX3⟩ := hI
  unfold andThen
  by_cases h0 : X.2 = 0
  · rw [if_pos h0]
    have hF := hX1.fl
    have hwF := flD_wf hX2
    have hlF := flD_len X.1
    by_cases hf : (flD X.1).2 = 0
    · refine ⟨.inl ⟨hf, ⟨hF, fun i hi => ?_⟩, (flD_zero hf).2.2, (flD_zero hf).2.1, hwF⟩, by rw [hlF, hX3]⟩
      have hs := stab_flushed hf (j := 48 + i) (by rw [hX3]; omega)
      have hr := hRd i l 0 D (by have := h.l23; omega) (fun q hq => by rw [Nat.zero_add]; exact (h.ar q hq).2) (by rw [hX]; exact h0)
      rw [hX] at hr
      rw [hr] at hs
      by_cases hm : ∃ x ∈ l, x.toNat = i
      · rw [if_pos hm] at hs; exact hs
      · rw [if_neg hm] at hs
        have := (h.rest i hi (fun x hx e => hm ⟨x, hx, e⟩)).2
        rw [this] at hs
        exact hs
    · exact ⟨.inr ⟨flD_nz hf, hF, hwF⟩, by rw [hlF, hX3]⟩
  · rw [if_neg h0]
    exact ⟨.inr ⟨hErr h0, hX1, hX2⟩, hX3⟩
/-- what a commit that was cut leaves: what was, or what was to be -/
def Cut (n : Nat) (D : Dv) (st : Nat) (l : Bytes) (pg : Nat → Bytes) (l' : Bytes) (pg' : Nat → Bytes) : Prop :=
  ∀ keep torn c, c ≤ 32 → Hold n (crashD D keep torn c) st l pg ∨ Hold n (crashD D keep torn c) (st + 1) l' pg'
theorem Hold.cutOld (h : Hold n D st l pg) (hw : WfD D) (l' : Bytes) (pg' : Nat → Bytes) : Cut n D st l pg l' pg' := fun keep torn c hc => .inl (h.crash hw keep torn c hc)
theorem Hold.cutNew {l' : Bytes} {pg' : Nat → Bytes} (h : Hold n D (st + 1) l' pg') (hw : WfD D) (l : Bytes) (pg : Nat → Bytes) : Cut n D st l pg l' pg' := fun keep torn c hc => .inr (h.crash hw keep torn c hc)
theorem numsB_mem {m : List (Int × Bytes)} (hm : ChkOk n m) (hn : n ≤ 200) (x : UInt8) (hx : x ∈ numsB m) : ∃ y ∈ m, y.1 = (x.toNat : Int) ∧ x.toNat < n := by
  obtain ⟨y, hy, rfl⟩ := List.mem_map.1 hx
  have := hm.each y hy
  have e : (UInt8.ofNat y.1.toNat).toNat = y.1.toNat := u8_small (by omega)
  exact ⟨y, hy, by rw [e]; omega, by rw [e]; omega⟩
theorem numsB_at {m : List (Int × Bytes)} (hm : ChkOk n m) (hn : n ≤ 200) (k : Nat) (hk : k < m.length) (hk' : k < (numsB m).length) : ((numsB m)[k].toNat : Int) = m[k].1 := by
  have := hm.each m[k] (List.getElem_mem hk)
  have e : (numsB m)[k] = UInt8.ofNat m[k].1.toNat := by simp [numsB]
  rw [e, u8_small (by omega)]
  omega
/-- the new mark is there, and all that it names -/
theorem new_hold {m : List (Int × Bytes)} (h : Full n D st l pg) (hm : ChkOk n m) (har : ∀ q (hq : q < m.length), Stab D (areaP ((st + 1) % 2) q) m[q].2) (hst : st + 1 ≤ 4294967295)
    {D' : Dv} (hl : D'.S.length = D.S.length) (hmk : Stab D' ((st + 1) % 2) (markB (st + 1) m)) (hs : ∀ j v, j < D.S.length → j ≠ (st + 1) % 2 → Stab D j v → Stab D' j v) : Hold n D' (st + 1) (numsB m) (updPg pg m) := by
  have hlens := h.hold.lens
  have hpos := h.hold.pos
  have hmark := markOf_markB hm (by omega) (show 1 ≤ st + 1 by omega) hst
  have hnl : (numsB m).length = m.length := by simp [numsB]
  refine ⟨by rw [h.hold.n0]; unfold nP; rw [hl], by rw [hl]; exact h.hold.ln, ⟨_, hmk, hmark.1⟩, by omega, by rw [hnl]; exact hm.len, fun x hx => (numsB_mem hm (by omega) x hx).choose_spec.2.2, fun k hk => ?_, fun i hi hx => ?_, ?_⟩
  · have hk' : k < m.length := by omega
    have hkk := hm.len
    have e := numsB_at hm (by omega) k hk' hk
    have hu : updPg pg m (numsB m)[k].toNat = m[k].2 := fold_at m _ k hk' hm.nd e.symm
    rw [hu]
    exact hs _ _ (by unfold areaP; omega) (by unfold areaP; omega) (har k hk')
  · have hu : updPg pg m i = pg i := fold_not m _ fun y hy e => by
      have hye := hm.each y hy
      refine hx (UInt8.ofNat y.1.toNat) (List.mem_map.2 ⟨y, hy, rfl⟩) ?_
      rw [u8_small (by omega)]; omega
    rw [hu]
    exact hs _ _ (by omega) (by omega) (h.all i hi)
  · obtain ⟨v, h1, h2⟩ := h.hold.mrk
    rw [show (st + 1 + 1) % 2 = st % 2 by omega]
    refine ⟨v, hs _ _ (by omega) (by omega) h1, ?_⟩
    have hl32 : v.length = 32 := by
      by_cases e : v.length = 32
      · exact e
      · have : (openF v).2.2 = 3 := by unfold openF; rw [if_pos e]
        unfold markOf at h2
        rw [if_pos (by omega)] at h2
        injection h2 with h2; omega
    refine ⟨hl32, ?_⟩
    rcases mark_stamp n v with h' | ⟨h', _⟩
    · rw [h2] at h'; dsimp only at h'; omega
    · rw [h2] at h'; dsimp only at h'
      exact .inr ⟨by omega, by omega⟩
/-- the new mark is written, and pending -/
theorem mark_cut {m : List (Int × Bytes)} (h : Full n D st l pg) (_hw : WfD D) (hm : ChkOk n m) (har : ∀ q (hq : q < m.length), Stab D (areaP ((st + 1) % 2) q) m[q].2) (hst : st + 1 ≤ 4294967295)
    {D' : Dv} (hw' : WfD D') (hS : D'.S = D.S) (hr : ∀ j, readD D' j = if j = (st + 1) % 2 then markB (st + 1) m else readD D j) : Cut n D' st l pg (numsB m) (updPg pg m) := by
  intro keep torn c hc
  have hlens := h.hold.lens
  obtain ⟨v, h1, h2⟩ := h.hold.oth
  have hj2 : (st + 1) % 2 < D'.S.length := by rw [hS]; omega
  obtain ⟨k, hk, hx⟩ := crash_mix hw' keep torn c ((st + 1) % 2) hc hj2
  rw [hr, if_pos rfl, hS, h1.1] at hx
  have hO : (crashD D' keep torn c).O = [] := rfl
  have hst1 := Stab.none_ hO ((st + 1) % 2)
  rw [hx] at hst1
  have hcl := crash_len D' keep torn c
  have hoth : ∀ j u, j < D.S.length → j ≠ (st + 1) % 2 → Stab D j u → Stab (crashD D' keep torn c) j u := fun j u hj hne hu => by
    have hu' : Stab D' j u := ⟨by rw [hS]; exact hu.1, by rw [hr, if_neg hne]; exact hu.2⟩
    exact hu'.crash hw' (by rw [hS]; exact hj) keep torn c hc
  have hbl : (UInt8.ofNat m.length :: numsB m).length ≤ 24 := by have := hm.len; simp [numsB]; omega
  rcases oth_mix k h2 hst hbl hk h.hold.pos with e | e
  · right
    have e' : (markB (st + 1) m).take k ++ v.drop k = markB (st + 1) m := e
    rw [e'] at hst1
    exact new_hold h hm har hst (by rw [hcl, hS]) hst1 hoth
  · left
    refine ⟨by rw [h.hold.n0]; unfold nP; rw [hcl, hS], by rw [hcl, hS]; exact h.hold.ln, ?_, h.hold.pos, h.hold.l23, h.hold.inl, fun q hq => hoth _ _ (by have := h.hold.l23; unfold areaP; omega) (by unfold areaP; omega) (h.hold.ar q hq), fun i hi hxi => hoth _ _ (by omega) (by omega) (h.hold.rest i hi hxi), ⟨_, hst1, e⟩⟩
    obtain ⟨u, hu, hu'⟩ := h.hold.mrk
    exact ⟨u, hoth _ _ (by omega) (by omega) hu, hu'⟩
/-- what a commit comes to -/
structure Comm (n st : Nat) (D : Dv) (l : Bytes) (pg : Nat → Bytes) (m : List (Int × Bytes)) (r : Dv × Nat) : Prop where
  wf : WfD r.1
  len : r.1.S.length = D.S.length
  done : r.2 = 0 → m.length ≠ 0 → Full n r.1 (st + 1) (numsB m) (updPg pg m) ∧ r.1.O = [] ∧ r.1.down = false ∧ ChkOk n m
  none_ : r.2 = 0 → m.length = 0 → r.1 = D
  bad : r.2 ≠ 0 → r.2 ≠ 9 → r.1 = D
  lost : r.2 = 9 → Cut n r.1 st l pg (numsB m) (updPg pg m)
  cut0 : m.length = 0 → r.1 = D
theorem commit_safe (m : List (Int × Bytes)) (h : Full n D st l pg) (hw : WfD D) : Comm n st D l pg m (commitP st n m D) := by
  have hlens := h.hold.lens
  unfold commitP
  by_cases h1 : chkP n m ≠ 0
  · rw [if_pos h1]
    exact ⟨hw, rfl, fun e => absurd e h1, fun e => absurd e h1, fun _ _ => rfl, fun e => h.hold.cutOld hw _ _, fun _ => rfl⟩
  rw [if_neg h1]
  have hm := chkP_zero (Decidable.not_not.1 h1)
  by_cases h2 : D.down = true
  · rw [if_pos h2]
    exact ⟨hw, rfl, fun e => absurd e (by simp), fun e => absurd e (by simp), fun _ _ => rfl, fun e => h.hold.cutOld hw _ _, fun _ => rfl⟩
  rw [if_neg h2]
  by_cases h3 : m.length = 0
  · rw [if_pos h3]
    exact ⟨hw, rfl, fun _ e => absurd h3 e, fun _ _ => rfl, fun _ _ => rfl, fun e => absurd e (by simp), fun _ => rfl⟩
  rw [if_neg h3]
  by_cases h4 : 4294967295 < st + 1
  · rw [if_pos h4]
    exact ⟨hw, rfl, fun e => absurd e (by simp), fun e => absurd e (by simp), fun _ _ => rfl, fun e => absurd e (by simp), fun e => absurd e h3⟩
  rw [if_neg h4]
  have hst : st + 1 ≤ 4294967295 := by omega
  have hm23 := hm.len
  have ha2 : (st + 1) % 2 < 2 := by omega
  -- bodies
  have hA := runE_inv (P := fun E => Full n E st l pg ∧ WfD E ∧ E.S = D.S) m 0 D ⟨h, hw, rfl⟩ (f := areaF ((st + 1) % 2)) (fun j x E _ hj _ hE => ⟨hE.1.wrA j (by omega) _, wrD_wf hE.2.1 _ _, by show (wrD _ _ _).1.S = _; rw [wrD_len]; exact hE.2.2⟩)
  have hAe := runE_err (P := fun E => Full n E st l pg ∧ WfD E ∧ E.S = D.S) 9 m 0 D ⟨h, hw, rfl⟩ (f := areaF ((st + 1) % 2)) (fun j x E _ hj hx hE => ⟨⟨hE.1.wrA j (by omega) _, wrD_wf hE.2.1 _ _, by show (wrD _ _ _).1.S = _; rw [wrD_len]; exact hE.2.2⟩, fun hne => wrD_9 (by rw [hE.2.2]; unfold areaP; omega) (hm.each x hx).2.2 hne⟩)
  have hAr := runA_read ((st + 1) % 2) m 0 D
  generalize runE (areaF ((st + 1) % 2)) 0 m D = A at *
  obtain ⟨hA1, hA2, hA3⟩ := hA
  have mkC : ∀ (r : Dv × Nat), WfD r.1 → r.1.S.length = D.S.length → r.2 = 9 → Cut n r.1 st l pg (numsB m) (updPg pg m) → Comm n st D l pg m r := fun r w1 w2 w3 w4 => ⟨w1, w2, fun e => absurd e (by omega), fun e => absurd e (by omega), fun _ e => absurd w3 e, fun _ => w4, fun e => absurd e h3⟩
  unfold andThen
  by_cases a0 : A.2 ≠ 0
  · rw [if_neg a0, if_neg a0, if_neg a0, if_neg a0, if_neg a0]
    exact mkC _ hA2 (by rw [hA3]) (hAe a0) (hA1.hold.cutOld hA2 _ _)
  replace a0 := Decidable.not_not.1 a0
  rw [if_pos a0]
  -- flushed
  have hBl := flD_len A.1
  have hB1 := hA1.fl
  have hB2 := flD_wf hA2
  by_cases b0 : (flD A.1).2 ≠ 0
  · rw [if_neg b0, if_neg b0, if_neg b0, if_neg b0]
    exact mkC _ hB2 (by rw [hBl, hA3]) (flD_nz b0) (hB1.hold.cutOld hB2 _ _)
  replace b0 := Decidable.not_not.1 b0
  rw [if_pos b0]
  have har : ∀ q (hq : q < m.length), Stab (flD A.1).1 (areaP ((st + 1) % 2) q) m[q].2 := fun q hq => by
    have := stab_flushed b0 (j := areaP ((st + 1) % 2) q) (by rw [hA3]; unfold areaP; omega)
    have hr := hAr a0 q hq
    rw [Nat.zero_add] at hr
    rw [hr] at this
    exact this
  have hBlen : (flD A.1).1.S.length = D.S.length := by rw [hBl, hA3]
  have hBd := (flD_zero b0).2.1
  generalize (flD A.1).1 = B at *
  -- the mark
  have hmkl := (markOf_markB hm (by omega) (show 1 ≤ st + 1 by omega) hst).2
  have hC : markF ((st + 1) % 2) (markB (st + 1) m) B = _ := wrD_ok (D := B) (i := (st + 1) % 2) (b := markB (st + 1) m) (by omega) hmkl hBd
  have hCw : WfD (markF ((st + 1) % 2) (markB (st + 1) m) B).1 := wrD_wf hB2 (((st + 1) % 2 : Nat) : Int) (markB (st + 1) m)
  have hCS : (markF ((st + 1) % 2) (markB (st + 1) m) B).1.S = B.S := wrD_len B (((st + 1) % 2 : Nat) : Int) (markB (st + 1) m)
  have hCr : ∀ j, readD (markF ((st + 1) % 2) (markB (st + 1) m) B).1 j = if j = (st + 1) % 2 then markB (st + 1) m else readD B j := fun j => by rw [hC, readD_step, readD_put]
  have hCe : (markF ((st + 1) % 2) (markB (st + 1) m) B).2 ≠ 0 → (markF ((st + 1) % 2) (markB (st + 1) m) B).2 = 9 := wrD_9 (D := B) (i := (st + 1) % 2) (b := markB (st + 1) m) (by omega) hmkl
  clear hC
  generalize markF ((st + 1) % 2) (markB (st + 1) m) B = C at *
  have hCut := mark_cut hB1 hB2 hm har hst hCw hCS hCr
  by_cases c0 : C.2 ≠ 0
  · rw [if_neg c0, if_neg c0, if_neg c0]
    exact mkC _ hCw (by rw [hCS, hBlen]) (hCe c0) hCut
  replace c0 := Decidable.not_not.1 c0
  rw [if_pos c0]
  -- flushed
  have hDw := flD_wf hCw
  have hDl := flD_len C.1
  by_cases d0 : (flD C.1).2 ≠ 0
  · rw [if_neg d0, if_neg d0]
    refine mkC _ hDw (by rw [hDl, hCS, hBlen]) (flD_nz d0) ?_
    rcases flD_cases C.1 with ⟨e1, e2, _⟩ | ⟨_, e1⟩
    · exact mark_cut hB1 hB2 hm har hst hDw (by rw [e1, hCS]) (fun j => by rw [e2, hCr])
    · rw [e1] at d0; exact absurd rfl d0
  replace d0 := Decidable.not_not.1 d0
  rw [if_pos d0]
  have hNew : Hold n (flD C.1).1 (st + 1) (numsB m) (updPg pg m) := by
    refine new_hold hB1 hm har hst (by rw [hDl, hCS]) ?_ (fun j v hj hne hv => ?_)
    · have := stab_flushed d0 (j := (st + 1) % 2) (by rw [hCS]; omega)
      rw [hCr, if_pos rfl] at this
      exact this
    · have := stab_flushed d0 (j := j) (by rw [hCS]; exact hj)
      rw [hCr, if_neg hne, hv.2] at this
      exact this
  have hDr : ∀ i, i < n → readD (flD C.1).1 (48 + i) = pg i := fun i hi => by
    have := stab_flushed d0 (j := 48 + i) (by rw [hCS]; omega)
    rw [this.2, hCr, if_neg (by omega)]
    exact (hB1.all i hi).2
  have hDlen : (flD C.1).1.S.length = D.S.length := by rw [hDl, hCS, hBlen]
  generalize (flD C.1).1 = E at *
  -- pages
  have hP := runE_inv (P := fun G => Hold n G (st + 1) (numsB m) (updPg pg m) ∧ WfD G ∧ G.S = E.S) m 0 E ⟨hNew, hDw, rfl⟩ (f := pageF) (fun j x G _ _ hx hG => ⟨by
    have hxe := hm.each x hx
    have e : (UInt8.ofNat x.1.toNat).toNat = x.1.toNat := u8_small (by omega)
    have := hG.1.wrP (UInt8.ofNat x.1.toNat) (List.mem_map.2 ⟨x, hx, rfl⟩) x.2
    rw [e, Int.toNat_of_nonneg hxe.1] at this
    exact this, wrD_wf hG.2.1 _ _, by show (wrD _ _ _).1.S = _; rw [wrD_len]; exact hG.2.2⟩)
  have hPe := runE_err (P := fun G => WfD G ∧ G.S = E.S) 9 m 0 E ⟨hDw, rfl⟩ (f := pageF) (fun j x G _ _ hx hG => ⟨⟨wrD_wf hG.1 _ _, by show (wrD _ _ _).1.S = _; rw [wrD_len]; exact hG.2⟩, fun hne => by
    have hxe := hm.each x hx
    have e : (48 + x.1 : Int) = ((48 + x.1.toNat : Nat) : Int) := by omega
    have hne' : (wrD G (48 + x.1) x.2).2 ≠ 0 := hne
    show (wrD G (48 + x.1) x.2).2 = 9
    rw [e] at hne' ⊢
    exact wrD_9 (by rw [hG.2]; omega) hxe.2.2 hne'⟩)
  have hPr := fun i => runP_read i m 0 E
  generalize runE pageF 0 m E = P at *
  obtain ⟨hP1, hP2, hP3⟩ := hP
  by_cases p0 : P.2 ≠ 0
  · rw [if_neg p0]
    exact mkC _ hP2 (by rw [hP3, hDlen]) (hPe p0) (hP1.cutNew hP2 _ _)
  replace p0 := Decidable.not_not.1 p0
  rw [if_pos p0]
  have hQw := flD_wf hP2
  have hQl := flD_len P.1
  by_cases q0 : (flD P.1).2 ≠ 0
  · exact mkC _ hQw (by rw [hQl, hP3, hDlen]) (flD_nz q0) (hP1.fl.cutNew hQw _ _)
  replace q0 := Decidable.not_not.1 q0
  refine ⟨hQw, by rw [hQl, hP3, hDlen], fun _ _ => ⟨⟨hP1.fl, fun i hi => ?_⟩, (flD_zero q0).2.2, (flD_zero q0).2.1, hm⟩, fun _ e => absurd e h3, fun e => absurd q0 e, fun e => absurd e (by omega), fun e => absurd e h3⟩
  have hs := stab_flushed q0 (j := 48 + i) (by rw [hP3]; omega)
  rw [hPr i p0, hDr i hi] at hs
  exact hs
end
end Go.Proofs.YtbnobjlphmkgeaaDoor
/- A device: Write, Flush, Read of whatever, in one form each. -/
namespace Go.Proofs.YtbnobjlphmkgeaaDoor
open Go.RowKit Go.Maps Go.ChangeMaps

theorem errV0 : errV 0 = .nilIface := rfl
theorem errV_pos {n : Nat} (h : n ≠ 0) : errV n = .iface 69 (.int .i64 n) := by unfold errV; rw [if_neg h]
/-- what a call says that hands back bytes of its own, or a fault -/
def SlAns (w : World) (l : Bytes) (k : Nat) (e : Ending) (w' : World) : Prop :=
  ∃ A c, e = .returned (.tuple #[.slice A l.length c, errV k]) ∧ l.length ≤ c ∧ Rd w' A l ∧ (∀ ad, A = some ad → w.heap.size ≤ ad.block) ∧ Below w.heap.size w w'
theorem SlAns.mk {w w' : World} {l : Bytes} {k : Nat} {e : Ending} (h : ∃ A c, e = .returned (.tuple #[.slice A l.length c, errV k]) ∧ l.length ≤ c ∧ Rd w' A l ∧ (∀ ad, A = some ad → w.heap.size ≤ ad.block) ∧ Below w.heap.size w w') : SlAns w l k e w' := h
theorem SlAns.none_ {w : World} {k : Nat} {e : Ending} (h : e = .returned (.tuple #[.slice none 0 0, errV k])) : SlAns w [] k e w := ⟨none, 0, h, Nat.le_refl _, Rd.nil_, (fun ad e => by cases e), Below.refl _ _⟩
section
variable {w0 w : World} {F : Nat → Prop} {d : Nat} {D : Dv}
theorem DevB.write_all (h : DevB w0 w F d D) (i : Int) (A : Option Addr) (n c : Nat) (b : Bytes) (hn : b.length = n) (hrd : Rd w A b) (hAF : n = 32 → ∀ ad, A = some ad → ¬ F ad.block) :
    Calls Tryd.prog 32 #[.pointer (some ⟨d, 0, none⟩), .int .i64 i, .slice A n c] w fun e w' => e = .returned (errV (wrD D i b).2) ∧ ∃ F', DevB w0 w' F' d (wrD D i b).1 ∧ Keep F w w' ∧ ∀ k, F' k → F k ∨ w.heap.size ≤ k := by
  by_cases h1 : i < 0 ∨ (D.S.length : Int) ≤ i
  · have e : wrD D i b = (D, 1) := by unfold wrD; rw [if_pos h1]
    rw [e]
    refine (h.write_e1 i A n c h1).mono ?_
    rintro e w' ⟨rfl, rfl⟩
    exact ⟨rfl, F, h, Keep.refl _ _, fun k hk => .inl hk⟩
  · obtain ⟨i, rfl⟩ : ∃ k : Nat, i = k := ⟨i.toNat, by omega⟩
    have hi : i < D.S.length := by omega
    by_cases h2 : b.length ≠ 32
    · have e : wrD D (i : Int) b = (D, 3) := by unfold wrD; rw [if_neg h1, if_pos h2]
      rw [e]
      refine (h.write_e3 i A n c hi (by omega)).mono ?_
      rintro e w' ⟨rfl, rfl⟩
      exact ⟨rfl, F, h, Keep.refl _ _, fun k hk => .inl hk⟩
    · have hb : b.length = 32 := by omega
      obtain rfl : n = 32 := by omega
      cases hd : D.down with
      | true =>
        have e : wrD D (i : Int) b = (D, 9) := by unfold wrD; rw [if_neg h1, if_neg h2, if_pos hd]
        rw [e]
        refine (h.write_e9 i A c hi hd).mono ?_
        rintro e w' ⟨rfl, rfl⟩
        exact ⟨rfl, F, h, Keep.refl _ _, fun k hk => .inl hk⟩
      | false =>
        rw [wrD_ok hi hb hd]
        refine (h.write i A c b hi hd hb hrd (hAF rfl)).mono ?_
        rintro e w' ⟨rfl, F', hd', hk, hF⟩
        refine ⟨?_, F', hd', hk, hF⟩
        dsimp only
        unfold powV
        split <;> rfl
theorem DevB.flush_all (h : DevB w0 w F d D) :
    Calls Tryd.prog 33 #[.pointer (some ⟨d, 0, none⟩)] w fun e w' => e = .returned (errV (flD D).2) ∧ DevB w0 w' F d (flD D).1 ∧ Keep F w w' := by
  cases hd : D.down with
  | true =>
    have e : flD D = (D, 9) := by unfold flD; rw [if_pos hd]
    rw [e]
    refine (h.flush_dn hd).mono ?_
    rintro e w' ⟨rfl, rfl⟩
    exact ⟨rfl, h, Keep.refl _ _⟩
  | false =>
    by_cases hl : D.left = 0
    · have e : flD D = (stepD D, 9) := by unfold flD; rw [if_neg (by rw [hd]; decide), if_pos hl]
      rw [e]
      refine (h.flush_lost hd hl).mono ?_
      rintro e w' ⟨rfl, h1, h2⟩
      exact ⟨rfl, h1, h2⟩
    · have e : flD D = (flushD (stepD D), 0) := by unfold flD; rw [if_neg (by rw [hd]; decide), if_neg hl]
      rw [e]
      refine (h.flush hd hl).mono ?_
      rintro e w' ⟨rfl, h1, h2⟩
      exact ⟨rfl, h1, h2⟩
theorem DevB.read_all (h : DevB w0 w F d D) (i : Int) :
    Calls Tryd.prog 48 #[.pointer (some ⟨d, 0, none⟩), .int .i64 i] w (SlAns w (rdL D i) (rdE D i)) := by
  unfold rdL
  by_cases h1 : i < 0 ∨ (D.S.length : Int) ≤ i
  · have e : rdE D i = 1 := by unfold rdE; rw [if_pos h1]
    rw [e]
    refine (h.read_e1 i h1).mono ?_
    rintro e w' ⟨rfl, rfl⟩
    exact ⟨none, 0, rfl, Nat.le_refl _, Rd.nil_, (fun ad e => by cases e), Below.refl _ _⟩
  · obtain ⟨i, rfl⟩ : ∃ k : Nat, i = k := ⟨i.toNat, by omega⟩
    have hi : i < D.S.length := by omega
    cases hd : D.down with
    | true =>
      have e : rdE D (i : Int) = 9 := by unfold rdE; rw [if_neg h1, if_pos hd]
      rw [e]
      refine (h.read_e9 i hi hd).mono ?_
      rintro e w' ⟨rfl, rfl⟩
      exact ⟨none, 0, rfl, Nat.le_refl _, Rd.nil_, (fun ad e => by cases e), Below.refl _ _⟩
    | false =>
      have e : rdE D (i : Int) = 0 := by unfold rdE; rw [if_neg h1, if_neg (by rw [hd]; decide)]
      rw [e, if_pos rfl, Int.toNat_natCast]
      refine (h.read i hi hd).mono ?_
      rintro e w' ⟨g, cap, rfl, hg, hr, hl, hb, _⟩
      exact ⟨some ⟨g, 0, none⟩, cap, by rw [hl]; rfl, hr.le.1, hr.rd, fun ad e => by obtain rfl := Option.some.inj e; exact hg, hb⟩
end
end Go.Proofs.YtbnobjlphmkgeaaDoor
/- The contracts of package pages: area, of, mark, and what is read of pages. -/
namespace Go.Proofs.YtbnobjlphmkgeaaDoor
open Go.RowKit Go.Maps Go.ChangeMaps

/-- block p is Pages of the device d, of the stamp st; it is none of the device's blocks -/
def PgH (w : World) (F : Nat → Prop) (p d st n : Nat) : Prop := w.heap[p]? = some (.cells #[.pointer (some ⟨d, 0, none⟩), .int .i64 st, .int .i64 n] 78 (0, 0)) ∧ ¬ F p
theorem three {w : World} {p : Nat} {a b c : Value} {t : TypeId} (h : w.heap[p]? = some (.cells #[a, b, c] t (0, 0))) :
    (w.cell? ⟨p, 0, none⟩ = some a ∧ w.cell? ⟨p, 1, none⟩ = some b ∧ w.cell? ⟨p, 2, none⟩ = some c) ∧ ∀ k, w.frozen? ⟨p, k, none⟩ = false := by
  refine ⟨⟨?_, ?_, ?_⟩, fun k => by simp [World.frozen?, h]⟩ <;> simp [World.cell?, h]
section
variable {w0 w w' : World} {F F' : Nat → Prop} {p d st n : Nat} {D : Dv}
theorem PgH.lt (h : PgH w F p d st n) : p < w.heap.size := (Array.getElem?_eq_some_iff.1 h.1).1
theorem PgH.below (h : PgH w F p d st n) (hb : Below w.heap.size w w') : PgH w' F p d st n := ⟨(hb.block _ h.lt).trans h.1, h.2⟩
theorem PgH.keep (h : PgH w F p d st n) (hk : Keep F w w') (hF : ∀ k, F' k → F k ∨ w.heap.size ≤ k) : PgH w' F' p d st n :=
  ⟨(hk.block _ h.lt h.2).trans h.1, fun hf => by rcases hF p hf with h' | h'; exact h.2 h'; have := h.lt; omega⟩
theorem PgH.cell (h : PgH w F p d st n) : w.cell? ⟨p, 0, none⟩ = some (.pointer (some ⟨d, 0, none⟩)) ∧ w.cell? ⟨p, 1, none⟩ = some (.int .i64 st) ∧ w.cell? ⟨p, 2, none⟩ = some (.int .i64 n) := (three h.1).1
theorem pstamp_any (h : PgH w F p d st n) : Calls Tryd.prog 20 #[.pointer (some ⟨p, 0, none⟩)] w fun e w' => e = .returned (.int .i64 st) ∧ w = w' := by
  obtain ⟨c0, c1, c2⟩ := h.cell
  go_enter Tryd.func20, Tryd.ntmps20
  go_wp2_with fail
  go_ret
  exact ⟨rfl, rfl⟩
theorem plen_any (h : PgH w F p d st n) : Calls Tryd.prog 21 #[.pointer (some ⟨p, 0, none⟩)] w fun e w' => e = .returned (.int .i64 n) ∧ w = w' := by
  obtain ⟨c0, c1, c2⟩ := h.cell
  go_enter Tryd.func21, Tryd.ntmps21
  go_wp2_with fail
  go_ret
  exact ⟨rfl, rfl⟩
theorem area_any (a k : Nat) (w : World) (ha : a < 2) (hk : k ≤ 100) : Calls Tryd.prog 43 #[.int .i64 (a : Int), .int .i64 (k : Int)] w fun e w' => e = .returned (.int .i64 (areaP a k : Nat)) ∧ w = w' := by
  have e : ((areaP a k : Nat) : Int) = 2 + 23 * (a : Int) + k := by unfold areaP; omega
  rw [e]
  go_enter Tryd.func43, Tryd.ntmps43
  go_wp2_with fail
  go_ret
  exact ⟨rfl, rfl⟩
/-- what is read of a page; the fault -/
def pgE (D : Dv) (i : Int) : Nat := if i < 0 ∨ (nP D : Int) ≤ i then 1 else if D.down = true then 9 else 0
def pgL (D : Dv) (i : Int) : Bytes := if pgE D i = 0 then readD D (48 + i.toNat) else []
theorem pread_any (h : DevB w0 w F d D) (hp : PgH w F p d st (nP D)) (i : Int) :
    Calls Tryd.prog 19 #[.pointer (some ⟨p, 0, none⟩), .int .i64 i] w (SlAns w (pgL D i) (pgE D i)) := by
  obtain ⟨c0, c1, c2⟩ := hp.cell
  have hn := nP_le D
  by_cases h1 : i < 0
  · have e : pgE D i = 1 := by unfold pgE; rw [if_pos (.inl h1)]
    unfold pgL
    rw [e]
    have d1 : decide (i < 0) = true := by simpa using h1
    clear h hp
    go_enter Tryd.func19, Tryd.ntmps19
    go_wp2_with fail
    go_ret2
    exact SlAns.none_ rfl
  by_cases h2 : (nP D : Int) ≤ i
  · have e : pgE D i = 1 := by unfold pgE; rw [if_pos (.inr h2)]
    unfold pgL
    rw [e]
    have d1 : decide (i < 0) = false := by simpa using h1
    have d2 : decide ((nP D : Int) ≤ i) = true := by simpa using h2
    clear h hp
    go_enter Tryd.func19, Tryd.ntmps19
    go_wp2_with fail
    go_ret2
    exact SlAns.none_ rfl
  · obtain ⟨k, rfl⟩ := Int.eq_ofNat_of_zero_le (show 0 ≤ i by omega)
    have e1 : pgE D (k : Int) = rdE D (48 + (k : Int)) := by
      unfold pgE rdE
      rw [if_neg (by omega), if_neg (c := 48 + (k : Int) < 0 ∨ (D.S.length : Int) ≤ 48 + (k : Int)) (by unfold nP at h2; omega)]
    have e2 : pgL D (k : Int) = rdL D (48 + (k : Int)) := by
      unfold pgL rdL
      rw [e1, show (48 + (k : Int)).toNat = 48 + ((k : Int)).toNat by omega]
    rw [e1, e2]
    have HR := Hidden.mk (h.read_all (48 + (k : Int)))
    have d1 : decide ((k : Int) < 0) = false := by simp
    have d2 : decide ((nP D : Int) ≤ (k : Int)) = false := by simpa using h2
    have d3 : decide (nP D ≤ k) = false := by simp; omega
    have hk : (k : Int) ≤ 200 := by omega
    generalize rdL D (48 + (k : Int)) = l at *
    generalize rdE D (48 + (k : Int)) = ee at *
    clear h hp e1 e2 h1 h2
    go_enter Tryd.func19, Tryd.ntmps19
    go_wp2_with fail
    refine HR.out.mono ?_
    rintro e w1 ⟨A, c, rfl, hc, hrd, hA, hb⟩
    have H := Hidden.mk (And.intro hc (And.intro hrd (And.intro hA hb)))
    clear hc hrd hA hb HR
    go_wp2_with fail
    go_ret2
    exact SlAns.mk ⟨A, c, rfl, H.out⟩
theorem pof_e1 (h : DevB w0 w F d D) (hl : D.S.length < 49) :
    Calls Tryd.prog 30 #[.pointer (some ⟨d, 0, none⟩)] w fun e w' => e = .returned (.tuple #[.pointer none, .iface 69 (.int .i64 1)]) ∧ w = w' := by
  have HL := Hidden.mk h.len
  have s1 : IntKind.i64.wrap ((D.S.length : Int) - 48) = (D.S.length : Int) - 48 := IntWalk.i64_in _ (by omega)
  have t1 : decide ((D.S.length : Int) - 48 < 1) = true := by simp; omega
  generalize D.S.length = m at *
  clear h
  go_enter Tryd.func30, Tryd.ntmps30
  go_wp2_with fail
  refine HL.out.mono ?_
  rintro e w1 ⟨rfl, rfl⟩
  go_wp2_with fail
  go_ret2
  exact ⟨rfl, rfl⟩
theorem pof_ok (h : DevB w0 w F d D) (hl : 49 ≤ D.S.length) :
    Calls Tryd.prog 30 #[.pointer (some ⟨d, 0, none⟩)] w fun e w' => ∃ p, e = .returned (.tuple #[.pointer (some ⟨p, 0, none⟩), .nilIface]) ∧ PgH w' F p d 0 (nP D) ∧ w.heap.size ≤ p ∧ Below w.heap.size w w' := by
  have HL := Hidden.mk h.len
  have h300 := h.lens.2.1
  have hn : ((nP D : Nat) : Int) = min ((D.S.length : Int) - 48) 200 := by unfold nP; omega
  have s1 : IntKind.i64.wrap ((D.S.length : Int) - 48) = (D.S.length : Int) - 48 := IntWalk.i64_in _ (by omega)
  have t1 : decide ((D.S.length : Int) - 48 < 1) = false := by simp; omega
  have HP : Hidden (PgH (w.alloc (.cells #[.pointer (some ⟨d, 0, none⟩), .int .i64 0, .int .i64 (min ((D.S.length : Int) - 48) 200)] 78)) F w.heap.size d 0 (nP D)) :=
    ⟨⟨by rw [← hn]; exact heap_alloc_new w _, fun hf => by have := h.flt _ hf; omega⟩⟩
  clear hn
  generalize nP D = nn at *
  generalize D.S.length = m at *
  clear h
  go_enter Tryd.func30, Tryd.ntmps30
  go_wp2_with fail
  refine HL.out.mono ?_
  rintro e w1 ⟨rfl, rfl⟩
  go_wp2_with fail
  all_goals
    go_ret2
    refine ⟨w.heap.size, rfl, ?_, Nat.le_refl _, (Below.refl _ _).alloc (Nat.le_refl _) _⟩
    have := HP.out
    first | exact this | rwa [show min ((m : Int) - 48) 200 = (m : Int) - 48 by omega] at this | rwa [show min ((m : Int) - 48) 200 = 200 by omega] at this
end
end Go.Proofs.YtbnobjlphmkgeaaDoor
/- The contracts of package pages: a mark that is read, Format, Open. -/
namespace Go.Proofs.YtbnobjlphmkgeaaDoor
open Go.RowKit Go.Maps Go.ChangeMaps

/-- s[i:k] of bytes, where k is a byte -/
theorem run_cut8 (p off n c i k : Nat) (hik : i ≤ k) (hkc : k ≤ c) (hlt : i < c) (W : World) :
    (Instr.sliceAt 41 (.slice (some ⟨p, off, none⟩) n c) (some (.int .i64 i)) (some (.int .u8 k)) none).run Tryd.prog W = .ok (.slice (some ⟨p, off + i, none⟩) (k - i) (c - i)) W := by
  obtain ⟨i0, hi0, hz0, hz1, hz2⟩ := info_parts byte_info
  have h3 : ¬ c = i := by omega
  simp [Instr.sliceAt, Instr.slice, Instr.sliceBounds, Instr.sliceBound, run_underlying Tryd.underlying41, asIntOf, sizeOf, typeInfo, hi0, hz1, hik, hkc, h3, Addr.add_lit]
theorem openF_zero {b : Bytes} (h : (openF b).2.2 = 0) : b.length = 32 ∧ (openF b).1 = stampOf b ∧ (openF b).2.1 = bodyOf b ∧ (bodyOf b).length = 24 ∧ b.take 4 = b.drop 28 ∧ stampOf b ≠ 0 := by
  have hl : b.length = 32 := by
    by_cases e : b.length = 32
    · exact e
    · unfold openF at h; rw [if_pos e] at h; cases h
  have hb : (bodyOf b).length = 24 := by simp [bodyOf, hl]
  unfold openF at *
  rw [if_neg (by omega)] at *
  by_cases h2 : b.take 4 ≠ b.drop 28
  · rw [if_pos h2] at h; cases h
  rw [if_neg h2] at *
  by_cases h3 : stampOf b = 0
  · rw [if_pos h3] at h; cases h
  rw [if_neg h3] at *
  exact ⟨hl, rfl, rfl, hb, Decidable.not_not.1 h2, h3⟩
/-- what is said of a mark -/
def MkAns (w : World) (mo : Nat × Bytes) (k : Nat) (e : Ending) (w' : World) : Prop :=
  ∃ A c, e = .returned (.tuple #[.int .i64 (mo.1 : Nat), .slice A mo.2.length c, errV k]) ∧ Rd w' A mo.2 ∧ mo.2.length ≤ 23 ∧ (∀ ad, A = some ad → w.heap.size ≤ ad.block) ∧ Below w.heap.size w w'
theorem mkAns_none {w w' : World} {mo : Nat × Bytes} {e : Ending} (hm : mo = (0, [])) (h : e = .returned (.tuple #[.int .i64 0, .slice none 0 0, .nilIface])) (hb : Below w.heap.size w w') : MkAns w mo 0 e w' := by
  subst hm
  exact ⟨none, 0, h, Rd.nil_, by simp, (fun ad e => by cases e), hb⟩
theorem mkAns_ok {w w' : World} {mo : Nat × Bytes} {e : Ending} {s m c : Nat} {L : Bytes} {A : Option Addr} (hm : mo = (s, L)) (hl : L.length = m) (h : e = .returned (.tuple #[.int .i64 (s : Int), .slice A m c, .nilIface])) (hr : Rd w' A L) (h23 : m ≤ 23) (hA : ∀ ad, A = some ad → w.heap.size ≤ ad.block) (hb : Below w.heap.size w w') : MkAns w mo 0 e w' := by
  subst hm hl
  exact ⟨A, c, h, hr, h23, hA, hb⟩
section
variable {w0 w w' : World} {F F' : Nat → Prop} {p d st n : Nat} {D : Dv}
set_option maxRecDepth 100000 in
theorem pmark_ok (h : DevB w0 w F d D) (hp : PgH w F p d st n) (i : Nat) (hi : i < D.S.length) (hd : D.down = false) :
    Calls Tryd.prog 47 #[.pointer (some ⟨p, 0, none⟩), .int .i64 (i : Int)] w (MkAns w (markOf n (readD D i)) 0) := by
  obtain ⟨c0, c1, c2⟩ := hp.cell
  have HC2 := Hidden.mk c2
  have HR := Hidden.mk (h.read i hi hd)
  have hl32 : (readD D i).length = 32 := h.wf.rd hi
  have hplt := hp.lt
  generalize readD D i = b at *
  clear h hp hi hd c1 c2
  go_enter Tryd.func47, Tryd.ntmps47
  go_wp2_with fail
  refine HR.out.mono ?_
  rintro e w1 ⟨g, cap, rfl, hg, hrow, -, hb1, -⟩
  have HB1 := Hidden.mk hb1
  have hcap : 32 ≤ cap := by have := hrow.le.1; omega
  have HM : Hidden (markOf n b = if (openF b).2.2 ≠ 0 then (0, []) else if 23 < ((bodyOf b).getD 0 0).toNat then (0, []) else if (mkL b).all (fun x => decide (x.toNat < n)) = true then (stampOf b, mkL b) else (0, [])) := ⟨rfl⟩
  by_cases h0 : (openF b).2.2 = 0
  · obtain ⟨-, -, -, e3, e4, e5⟩ := openF_zero h0
    have HO := Hidden.mk (open_ok (some ⟨g, 0, none⟩) cap b w1 hl32 hcap hrow.rd e4 e5)
    obtain ⟨x0, hx⟩ : ∃ x0, (bodyOf b).getD 0 0 = x0 := ⟨_, rfl⟩
    have HX : Hidden (∀ h : 0 < (bodyOf b).length, (bodyOf b)[0] = x0) := ⟨fun h => by rw [← hx]; simp [h]⟩
    have HM := Hidden.mk (show markOf n b = if 23 < x0.toNat then (0, []) else if (mkL b).all (fun x => decide (x.toNat < n)) = true then (stampOf b, mkL b) else (0, []) by rw [HM.out, if_neg (by omega), hx])
    have hmk : mkL b = ((bodyOf b).drop 1).take x0.toNat := by rw [← hx]; rfl
    have HMK := Hidden.mk hmk
    have HE3 := Hidden.mk e3
    clear hrow hb1 HR hg hl32 hx hmk e3 e4 e5 h0
    go_wp2_with fail
    refine HO.out.mono ?_
    rintro e w2 ⟨q, c, rfl, hq, hrow2, hb2⟩
    have HQ := Hidden.mk (Nat.le_trans HB1.out.size hq)
    clear hq
    have HB2 := Hidden.mk (HB1.out.trans (hb2.mono HB1.out.size))
    have c24 : 24 ≤ c := by have := hrow2.le.1; rw [HE3.out] at this; exact this
    have hb0 := hrow2.rd.at_ 0 (by rw [HE3.out]; omega)
    rw [Nat.add_zero, HX.out] at hb0
    have hcut := hrow2.rd.cut 1 x0.toNat
    have hpl' : (((bodyOf b).drop 1).take x0.toNat).length = min x0.toNat 23 := by simp [HE3.out]
    rw [← HMK.out, Option.map_some, Addr.add_lit, HE3.out] at hcut
    rw [← HMK.out] at hpl'
    clear HX
    have hx0 := UInt8.toNat_lt x0
    generalize mkL b = L at *
    generalize stampOf b = sb at *
    generalize markOf n b = mo at *
    clear hrow2 hb2 HO HB1 HMK
    by_cases h23 : 23 < x0.toNat
    · have HMM := Hidden.mk (show mo = (0, []) by rw [HM.out, if_pos h23])
      have t1 : decide (23 < (x0.toNat : Int)) = true := by simp; omega
      have t2 : decide (23 < x0.toNat) = true := by simp; omega
      clear h23 hcut HM hpl'
      go_wp2_with fail
      go_ret3
      exact mkAns_none HMM.out rfl HB2.out
    · have t1 : decide (23 < (x0.toNat : Int)) = false := by simp; omega
      have t2 : decide (23 < x0.toNat) = false := by simp; omega
      have hle : x0.toNat ≤ 23 := by omega
      have s1 : IntKind.u8.wrap (1 + (x0.toNat : Int)) = ((1 + x0.toNat : Nat) : Int) := by rw [IntWalk.u8_in _ (by omega)]; omega
      have hsl := run_cut8 q 0 24 c 1 (1 + x0.toNat) (by omega) (by omega) (by omega)
      rw [Nat.add_sub_cancel_left] at hsl
      have HM := Hidden.mk (show mo = if L.all (fun x => decide (x.toNat < n)) = true then (sb, L) else (0, []) by rw [HM.out, if_neg h23])
      have HRP := Hidden.mk (hcut (by omega))
      have HPL := Hidden.mk (show L.length = x0.toNat by rw [hpl']; omega)
      have c2' := (HB2.out.cell (p := ⟨p, 2, none⟩) hplt).trans HC2.out
      simp only [Int.natCast_add, Int.natCast_one, Nat.zero_add] at s1 hsl HRP
      clear h23 hcut hpl' t2
      go_wp2_with fail
      go_loopg [4, 5, 46] x0.toNat (fun r v4 v5 i wr => ∃ k : Nat, k ≤ x0.toNat ∧ r = x0.toNat - k ∧ v4 = .int .i64 (sb : Int) ∧ v5 = .slice (some ⟨q, 1, none⟩) x0.toNat (c - 1) ∧ i = .int .i64 (k : Int) ∧ w2 = wr ∧ Hidden (∀ y ∈ L.take k, y.toNat < n))
      case atStart => exact ⟨0, by omega, rfl, rfl, rfl, rfl, rfl, ⟨by simp⟩⟩
      case round =>
        obtain ⟨k, hk, rfl, rfl, rfl, rfl, rfl, hall⟩ := hrel
        by_cases hlt : k < x0.toNat
        · have hkl : k < L.length := by rw [HPL.out]; exact hlt
          have y0 := HRP.out.at_ k hkl
          have i0 : (k : Int) < x0.toNat := by omega
          have i1 : (0 : Int) ≤ k := by omega
          have hnx : L[k].toNat < n → ∀ y ∈ L.take (k + 1), y.toNat < n := fun h y hy => by
            rw [List.take_succ_eq_append_getElem hkl] at hy
            rcases List.mem_append.1 hy with hy | hy
            · exact hall.out y hy
            · rw [List.mem_singleton.1 hy]; exact h
          have hbd : ¬ L[k].toNat < n → mo = (0, []) := fun h => by
            rw [HM.out, if_neg]
            intro ha
            have := List.all_eq_true.1 ha L[k] (List.getElem_mem hkl)
            simp at this; omega
          have HN := Hidden.mk hnx
          have HBD := Hidden.mk hbd
          generalize L[k] = y at *
          have hy8 := UInt8.toNat_lt y
          have s2 : IntKind.i64.wrap (y.toNat : Int) = (y.toNat : Int) := IntWalk.i64_in _ (by omega)
          clear hnx hbd hall
          by_cases hy : y.toNat < n
          · have HALL := Hidden.mk (HN.out hy)
            have d1 : decide ((n : Int) ≤ y.toNat) = false := by simp; omega
            have d2 : decide (n ≤ y.toNat) = false := by simp; omega
            clear hy HN HBD
            go_wp2_with fail
            go_roundg (x0.toNat - (k + 1))
            case measure => omega
            case rel => exact ⟨k + 1, by omega, rfl, rfl, rfl, by go_num, rfl, HALL⟩
          · have HMM := Hidden.mk (HBD.out hy)
            have d1 : decide ((n : Int) ≤ y.toNat) = true := by simp; omega
            have d2 : decide (n ≤ y.toNat) = true := by simp; omega
            clear hy HN HBD
            go_wp2_with fail
            go_ret3
            exact mkAns_none HMM.out rfl HB2.out
        · obtain rfl : k = x0.toNat := by omega
          have HMM : Hidden (mo = (sb, L)) := ⟨by
            rw [HM.out, if_pos]
            rw [List.all_eq_true]
            intro y hy
            have := hall.out y (by rw [← HPL.out, List.take_of_length_le (Nat.le_refl _)]; exact hy)
            simpa using this⟩
          clear hall
          go_wp2_with fail
          go_ret3
          exact mkAns_ok HMM.out HPL.out rfl HRP.out (by omega) (fun ad e => by obtain rfl := Option.some.inj e; exact HQ.out) HB2.out
  · have HO := Hidden.mk (open_any (some ⟨g, 0, none⟩) 32 cap b w1 hl32 hcap hrow.rd)
    have HMM := Hidden.mk (show markOf n b = (0, []) by rw [HM.out, if_pos h0])
    have hev := errV_pos h0
    rw [hev] at HO
    generalize (openF b).1 = sb at *
    generalize (openF b).2.2 = eb at *
    generalize (openF b).2.1 = bb at *
    generalize markOf n b = mo at *
    clear h0 hev hrow hb1 HR hg hl32 HM
    go_wp2_with fail
    refine HO.out.mono ?_
    rintro e w2 ⟨A, c, rfl, hrd, hb2⟩
    have HB2 := Hidden.mk (HB1.out.trans (hb2.mono HB1.out.size))
    clear hb2 HO HB1 hrd
    go_wp2_with fail
    go_ret3
    exact mkAns_none HMM.out rfl HB2.out
theorem pmark_dn (h : DevB w0 w F d D) (hp : PgH w F p d st n) (i : Nat) (hi : i < D.S.length) (hd : D.down = true) :
    Calls Tryd.prog 47 #[.pointer (some ⟨p, 0, none⟩), .int .i64 (i : Int)] w fun e w' => e = .returned (.tuple #[.int .i64 0, .slice none 0 0, .iface 69 (.int .i64 9)]) ∧ w = w' := by
  obtain ⟨c0, c1, c2⟩ := hp.cell
  have HR := Hidden.mk (h.read_e9 i hi hd)
  clear h hp hi hd c1 c2
  go_enter Tryd.func47, Tryd.ntmps47
  go_wp2_with fail
  refine HR.out.mono ?_
  rintro e w1 ⟨rfl, rfl⟩
  go_wp2_with fail
  go_ret3
  exact ⟨rfl, rfl⟩
end
end Go.Proofs.YtbnobjlphmkgeaaDoor
/- The contracts of package pages: Format, Open. -/
namespace Go.Proofs.YtbnobjlphmkgeaaDoor
open Go.RowKit Go.Maps Go.ChangeMaps

theorem keep_cell {w : World} {p o : Nat} (v : Value) : Keep (fun k => k = p) w (w.setCell ⟨p, o, none⟩ v) := (Keep.refl (fun k => k = p) w).setCell (p := ⟨p, o, none⟩) (.inl rfl) v
section
variable {w0 w w' : World} {F F' : Nat → Prop} {p d st n : Nat} {D : Dv}
theorem PgH.set (h : PgH w F p d st n) (s : Nat) : PgH (w.setCell ⟨p, 1, none⟩ (.int .i64 (s : Int))) F p d s n := by
  refine ⟨?_, h.2⟩
  rw [heap_setK h.1]
  rfl
theorem DevB.other (h : DevB w0 w F d D) (hk : Keep (fun k => k = p) w w') (hp : ¬ F p) (h0 : w0.heap.size ≤ p) : DevB w0 w' F d D :=
  h.keep hk (fun k hf e => hp (by rw [← e]; exact hf)) (fun k e => by rw [e]; exact h0)
/-- what is left of a device, and of the rest -/
structure PdM (w0 w w' : World) (F F' : Nat → Prop) (d : Nat) (D : Dv) : Prop where
  dev : DevB w0 w' F' d D
  kp : Keep F w w'
  sub : ∀ k, F' k → F k ∨ w.heap.size ≤ k
theorem PdM.refl (h : DevB w0 w F d D) : PdM w0 w w F F d D := ⟨h, Keep.refl _ _, fun _ hk => .inl hk⟩
theorem PdM.below {w1 : World} (h : PdM w0 w w' F F' d D) (hb : Below w'.heap.size w' w1) : PdM w0 w w1 F F' d D :=
  ⟨h.dev.below hb, h.kp.trans (Keep.of_below (F := F) hb) (fun _ hk => .inl hk), h.sub⟩
theorem PdM.next {w1 : World} {F1 : Nat → Prop} {D1 : Dv} (h : PdM w0 w w' F F' d D) (k : PdM w0 w' w1 F' F1 d D1) : PdM w0 w w1 F F1 d D1 :=
  ⟨k.dev, h.kp.trans k.kp h.sub, fun x hx => by
    rcases k.sub x hx with h' | h'
    · exact h.sub x h'
    · exact .inr (Nat.le_trans h.kp.size h')⟩
/-- a cell of a block of one's own is written -/
theorem PdM.cell (h : PdM w0 w w' F F' d D) {o : Nat} (v : Value) (hp : ¬ F' p) (hw : w.heap.size ≤ p) (h0 : w0.heap.size ≤ p) : PdM w0 w (w'.setCell ⟨p, o, none⟩ v) F F' d D :=
  ⟨h.dev.other (keep_cell v) hp h0, h.kp.trans (keep_cell v) (fun x e => .inr (by rw [e]; exact hw)), h.sub⟩
theorem pdm_write {w1 : World} (D1 : Dv) (hh : ∃ F', DevB w0 w1 F' d D1 ∧ Keep F w w1 ∧ ∀ k, F' k → F k ∨ w.heap.size ≤ k) : ∃ F', PdM w0 w w1 F F' d D1 := by
  obtain ⟨F', a, b, c⟩ := hh
  exact ⟨F', a, b, c⟩
theorem PgH.mod (h : PgH w F p d st n) {D1 : Dv} (k : PdM w0 w w' F F' d D1) : PgH w' F' p d st n := h.keep k.kp k.sub
/-- what a device is behind Format -/
def formatD (D : Dv) : Dv := flushD (stepD (stepD (putD (stepD (putD D 0 (makeB 2 []))) 1 (List.replicate 32 0))))
theorem step_up {D : Dv} (h : Up D) : Up (stepD D) := by
  refine ⟨?_, ?_⟩
  · show max (-1) (D.left - 1) = -1
    rw [h.1]; decide
  · show (D.left == 0) = false
    rw [h.1]; decide
theorem wrD_up {D : Dv} (h : Up D) {i : Nat} {b : Bytes} (hi : i < D.S.length) (hb : b.length = 32) : wrD D (i : Int) b = (stepD (putD D i b), 0) ∧ Up (stepD (putD D i b)) := by
  rw [wrD_ok hi hb h.2, if_neg (by rw [h.1]; decide)]
  exact ⟨rfl, step_up h⟩
theorem flD_up {D : Dv} (h : Up D) : flD D = (flushD (stepD D), 0) ∧ Up (flushD (stepD D)) := by
  unfold flD
  rw [if_neg (by rw [h.2]; decide), if_neg (by rw [h.1]; decide)]
  exact ⟨rfl, (up_flush h).1⟩
set_option maxRecDepth 100000 in
theorem pformat_ok (h : DevB w0 w F d D) (hu : Up D) (hl : 49 ≤ D.S.length) :
    Calls Tryd.prog 7 #[.pointer (some ⟨d, 0, none⟩)] w fun e w' => ∃ p F', e = .returned (.tuple #[.pointer (some ⟨p, 0, none⟩), .nilIface]) ∧ PdM w0 w w' F F' d (formatD D) ∧ PgH w' F' p d 2 (nP D) ∧ w.heap.size ≤ p := by
  have HO := Hidden.mk (pof_ok h hl)
  have HM := Hidden.mk (PdM.refl h)
  have hmk : (makeB 2 []).length = 32 := makeB_len _ _ (by simp)
  obtain ⟨e1, u1⟩ := wrD_up hu (i := 0) (b := makeB 2 []) (by omega) hmk
  obtain ⟨e2, u2⟩ := wrD_up u1 (i := 1) (b := List.replicate 32 0) (by show 1 < D.S.length; omega) (by simp)
  obtain ⟨e3, u3⟩ := flD_up u2
  have H1 := Hidden.mk e1
  have H2 := Hidden.mk e2
  have H3 := Hidden.mk e3
  have HK := Hidden.mk hmk
  have HD : Hidden (formatD D = flushD (stepD (stepD (putD (stepD (putD D 0 (makeB 2 []))) 1 (List.replicate 32 0))))) := ⟨rfl⟩
  have H0 := Hidden.mk h.bel.size
  generalize formatD D = Df at *
  generalize nP D = n at *
  clear h e1 e2 e3 u1 u2 u3 hmk hu
  go_enter Tryd.func7, Tryd.ntmps7
  go_wp2_with fail
  refine HO.out.mono ?_
  rintro e w1 ⟨p, rfl, hp1, hpn, hb1⟩
  have HPN := Hidden.mk hpn
  have HM1 := Hidden.mk ((HM.out.below hb1).cell (p := p) (o := 1) (.int .i64 2) hp1.2 hpn (Nat.le_trans H0.out hpn))
  have HP1 := Hidden.mk (hp1.set 2)
  obtain ⟨c0, c1, c2⟩ := hp1.cell
  have f1 := (three hp1.1).2 1
  obtain ⟨-, z1, -⟩ := HP1.out.cell
  have HMK := Hidden.mk (fun W => make_ok 2 none 0 0 [] W rfl (by omega) (by omega) (by omega) Rd.nil_)
  clear hp1 hpn hb1 HO HM c0 c2
  go_wp2_with fail
  refine (HMK.out _).mono ?_
  rintro e w3 ⟨g, rfl, hg, hrow, hb3⟩
  have HM3 := Hidden.mk (HM1.out.below hb3)
  have HP3 := Hidden.mk (HP1.out.below hb3)
  have hgF : ¬ F g := fun hf => by have := HM1.out.dev.flt g hf; omega
  have HW := Hidden.mk (HM3.out.dev.write_all 0 (some ⟨g, 0, none⟩) 32 32 (makeB 2 []) HK.out hrow.rd (fun _ ad e hf => hgF (by obtain rfl := Option.some.inj e; exact hf)))
  rw [show (0 : Int) = ((0 : Nat) : Int) from rfl, H1.out] at HW
  clear hg hrow hb3 hgF HMK HM1 HP1 z1 c1 f1
  go_wp2_with fail
  refine HW.out.mono ?_
  rintro e w4 ⟨rfl, hh⟩
  obtain ⟨F4, hm4⟩ := pdm_write _ hh
  have HP4 := Hidden.mk (HP3.out.mod hm4)
  have hmz := fun W => mk_bytes 32 32 rfl (by omega) W
  have hal := (Below.refl w4.heap.size w4).alloc (Nat.le_refl _) (.cells (zeroRow 32) 5)
  have HM4 := Hidden.mk ((HM3.out.next hm4).below hal)
  have HP5 := Hidden.mk (HP4.out.below hal)
  have hgF : ¬ F4 w4.heap.size := fun hf => by have := hm4.dev.flt _ hf; omega
  have HW2 := Hidden.mk (HM4.out.dev.write_all 1 (some ⟨w4.heap.size, 0, none⟩) 32 32 (List.replicate 32 0) (by simp) (row_zeros w4 32 (by simp [maxLen])).rd (fun _ ad e hf => hgF (by obtain rfl := Option.some.inj e; exact hf)))
  rw [show (1 : Int) = ((1 : Nat) : Int) from rfl, H2.out] at HW2
  rw [errV0]
  clear hh hm4 hal hgF HW HM3 HP3 HP4
  go_wp2_with fail
  refine HW2.out.mono ?_
  rintro e w5 ⟨rfl, hh⟩
  obtain ⟨F5, hm5⟩ := pdm_write _ hh
  have HP6 := Hidden.mk (HP5.out.mod hm5)
  have HM5 := Hidden.mk (HM4.out.next hm5)
  have HFL := Hidden.mk HM5.out.dev.flush_all
  rw [H3.out] at HFL
  rw [errV0]
  clear hh hm5 HW2 HM4 HP5 hmz
  go_wp2_with fail
  refine HFL.out.mono ?_
  rintro e w6 ⟨rfl, hd6, hk6⟩
  have hm6 : PdM w0 w5 w6 F5 F5 d _ := ⟨hd6, hk6, fun _ hk => .inl hk⟩
  have HFIN := Hidden.mk (And.intro (HM5.out.next hm6) (HP6.out.mod hm6))
  rw [← HD.out] at HFIN
  clear hd6 hk6 hm6 HFL HM5 HP6
  go_wp2_with fail
  go_ret2
  exact ⟨p, F5, rfl, HFIN.out.1, HFIN.out.2, HPN.out⟩
/-- what Open comes to -/
def OpAns (w0 w : World) (F : Nat → Prop) (d : Nat) (D : Dv) (r : Dv × Nat) (st : Nat) (e : Ending) (w' : World) : Prop :=
  ∃ F', PdM w0 w w' F F' d r.1 ∧ ((r.2 = 0 ∧ ∃ p, e = .returned (.tuple #[.pointer (some ⟨p, 0, none⟩), .nilIface]) ∧ PgH w' F' p d st (nP D) ∧ w.heap.size ≤ p) ∨ (r.2 ≠ 0 ∧ e = .returned (.tuple #[.pointer none, errV r.2])))
theorem opAns_bad {D : Dv} {r : Dv × Nat} {k : Nat} {e : Ending} (hm : PdM w0 w w' F F' d r.1) (hk : r.2 ≠ 0) (he : e = .returned (.tuple #[.pointer none, errV r.2])) : OpAns w0 w F d D r k e w' := ⟨F', hm, .inr ⟨hk, he⟩⟩
theorem opAns_ok {D : Dv} {r : Dv × Nat} {k p : Nat} {e : Ending} (hm : PdM w0 w w' F F' d r.1) (hk : r.2 = 0) (he : e = .returned (.tuple #[.pointer (some ⟨p, 0, none⟩), .nilIface])) (hp : PgH w' F' p d k (nP D)) (hn : w.heap.size ≤ p) : OpAns w0 w F d D r k e w' := ⟨F', hm, .inl ⟨hk, p, he, hp, hn⟩⟩
/-- which mark counts, of the first k -/
def pk (D : Dv) : Nat → Nat × Nat × Bytes
  | 0 => (0, 0, [])
  | k + 1 => if (pk D k).1 < (markOf (nP D) (readD D k)).1 then ((markOf (nP D) (readD D k)).1, k, (markOf (nP D) (readD D k)).2) else pk D k
theorem markOf_zero {n : Nat} {b : Bytes} (h : (markOf n b).1 = 0) : (markOf n b).2 = [] := by
  unfold markOf at h ⊢
  by_cases h0 : (openF b).2.2 ≠ 0
  · rw [if_pos h0]
  rw [if_neg h0] at h ⊢
  split
  · rfl
  · rename_i h1
    rw [if_neg h1] at h
    split
    · rename_i h2
      rw [if_pos h2] at h
      exact absurd h (openF_zero (Decidable.not_not.1 h0)).2.2.2.2.2
    · rfl
theorem pk_two (D : Dv) : pk D 2 = openMk D := by
  have h0 := markOf_zero (n := nP D) (b := readD D 0)
  have e1 : pk D 1 = ((markOf (nP D) (readD D 0)).1, 0, (markOf (nP D) (readD D 0)).2) := by
    show (if 0 < (markOf (nP D) (readD D 0)).1 then _ else _) = _
    by_cases h : 0 < (markOf (nP D) (readD D 0)).1
    · rw [if_pos h]
    · have hz : (markOf (nP D) (readD D 0)).1 = 0 := by omega
      rw [if_neg h, h0 hz, hz]; rfl
  show (if (pk D 1).1 < (markOf (nP D) (readD D 1)).1 then _ else pk D 1) = _
  rw [e1]; rfl
theorem pk_len (D : Dv) : ∀ k, k ≤ 2 → (pk D k).2.1 < 2
  | 0, _ => by simp [pk]
  | k + 1, h => by
    unfold pk
    split
    · show k < 2; omega
    · exact pk_len D k (by omega)
end
end Go.Proofs.YtbnobjlphmkgeaaDoor
/- Pages: while the power stays; and what comes behind a commit that was cut. No program in sight. -/
namespace Go.Proofs.YtbnobjlphmkgeaaDoor
open Go.RowKit

theorem wrD_stays {D : Dv} (h : Up D) (i : Int) (b : Bytes) : Up (wrD D i b).1 ∧ (wrD D i b).2 ≠ 9 := by
  unfold wrD
  split
  · exact ⟨h, by simp⟩
  · split
    · exact ⟨h, by simp⟩
    · rw [if_neg (by rw [h.2]; decide)]
      exact ⟨step_up (D := putD D i.toNat b) h, by rw [if_neg (by rw [h.1]; decide)]; simp⟩
theorem flD_stays {D : Dv} (h : Up D) : Up (flD D).1 ∧ (flD D).2 = 0 := by
  obtain ⟨a, b⟩ := flD_up h
  rw [a]; exact ⟨b, rfl⟩
theorem runE_stays {X : Type} {f : Nat → X → Dv → Dv × Nat} (hf : ∀ k x D, Up D → Up (f k x D).1 ∧ (f k x D).2 ≠ 9) : ∀ (l : List X) (k : Nat) (D : Dv), Up D → Up (runE f k l D).1 ∧ (runE f k l D).2 ≠ 9
  | [], _, _, h => ⟨h, by simp [runE]⟩
  | x :: r, k, D, h => by
    rw [runE_cons]
    obtain ⟨h1, h2⟩ := hf k x D h
    split
    · exact runE_stays hf r (k + 1) _ h1
    · exact ⟨h1, h2⟩
theorem andThen_stays {a : Dv × Nat} {g : Dv → Dv × Nat} (h : Up a.1 ∧ a.2 ≠ 9) (hg : ∀ D, Up D → Up (g D).1 ∧ (g D).2 ≠ 9) : Up (andThen a g).1 ∧ (andThen a g).2 ≠ 9 := by
  unfold andThen
  split
  · exact hg _ h.1
  · exact h
theorem flD_stays' (D : Dv) (h : Up D) : Up (flD D).1 ∧ (flD D).2 ≠ 9 := by
  obtain ⟨a, b⟩ := flD_stays h
  exact ⟨a, by omega⟩
theorem open_stays {D : Dv} (h : Up D) : Up (openP D).1 ∧ (openP D).2 ≠ 9 := by
  unfold openP
  split
  · exact ⟨h, by simp⟩
  · rw [if_neg (by rw [h.2]; decide)]
    split
    · exact ⟨h, by simp⟩
    · exact andThen_stays (runE_stays (fun k x D hD => wrD_stays hD _ _) _ 0 D h) flD_stays'
section
variable {n st : Nat} {D : Dv} {l : Bytes} {pg : Nat → Bytes}
/-- other steps till the power goes -/
theorem Hold.left (h : Hold n D st l pg) (x : Int) (b : Bool) : Hold n { D with left := x, down := b } st l pg := h.same rfl fun _ _ _ _ hv => hv
theorem Full.left (h : Full n D st l pg) (x : Int) (b : Bool) : Full n { D with left := x, down := b } st l pg := ⟨h.hold.left x b, h.all⟩
theorem WfD.left (h : WfD D) (x : Int) (b : Bool) : WfD { D with left := x, down := b } := ⟨h.nd, h.lt, h.sl, h.ml⟩
theorem open_up (h : Hold n D st l pg) (hw : WfD D) (hu : Up D) : (openP D).2 = 0 ∧ Full n (openP D).1 st l pg ∧ (openP D).1.O = [] ∧ Up (openP D).1 ∧ WfD (openP D).1 ∧ (openP D).1.S.length = D.S.length := by
  obtain ⟨h1, h2⟩ := open_safe h hw
  rcases h1 with ⟨a, b, c, _, e⟩ | ⟨a, _⟩
  · exact ⟨a, b, c, (open_stays hu).1, e, h2⟩
  · exact absurd a (open_stays hu).2
end
theorem format_full (nn : Nat) (h1 : 49 ≤ nn) (_h3 : nn ≤ 300) : Full (nP (newD nn)) (formatD (newD nn)) 2 [] (fun _ => List.replicate 32 0) ∧ Up (formatD (newD nn)) ∧ WfD (formatD (newD nn)) ∧ (formatD (newD nn)).S.length = nn ∧ nP (newD nn) = min (nn - 48) 200 := by
  have hlen : (newD nn).S.length = nn := by simp [newD]
  have hu : Up (newD nn) := ⟨rfl, rfl⟩
  have hw : WfD (newD nn) := ⟨by simp [newD], fun i hi => by simp [newD] at hi, fun i hi => by
    have : i < nn := by rwa [hlen] at hi
    simp [newD, this], fun i hi => by simp [newD] at hi⟩
  have hmk : (makeB 2 []).length = 32 := makeB_len _ _ (by simp)
  obtain ⟨e1, u1⟩ := wrD_up hu (i := 0) (b := makeB 2 []) (by omega) hmk
  have w1 := wrD_wf hw ((0 : Nat) : Int) (makeB 2 [])
  rw [e1] at w1
  dsimp only at w1
  have l1 : (stepD (putD (newD nn) 0 (makeB 2 []))).S.length = nn := hlen
  obtain ⟨e2, u2⟩ := wrD_up u1 (i := 1) (b := List.replicate 32 0) (by omega) (by simp)
  have w2 := wrD_wf w1 ((1 : Nat) : Int) (List.replicate 32 0)
  rw [e2] at w2
  dsimp only at w2
  have l2 : (stepD (putD (stepD (putD (newD nn) 0 (makeB 2 []))) 1 (List.replicate 32 0))).S.length = nn := hlen
  obtain ⟨e3, u3⟩ := flD_up u2
  have w3 := flD_wf w2
  rw [e3] at w3
  have l3 := flD_len (stepD (putD (stepD (putD (newD nn) 0 (makeB 2 []))) 1 (List.replicate 32 0)))
  rw [e3, l2] at l3
  have hst : ∀ j, j < nn → Stab (formatD (newD nn)) j (if j = 1 then List.replicate 32 0 else if j = 0 then makeB 2 [] else List.replicate 32 0) := fun j hj => by
    have := stab_flushed (D := stepD (putD (stepD (putD (newD nn) 0 (makeB 2 []))) 1 (List.replicate 32 0))) (by rw [e3]) (j := j) (by omega)
    rw [e3, readD_step, readD_put, readD_step, readD_put] at this
    have hn : readD (newD nn) j = List.replicate 32 0 := by unfold readD; rw [if_neg (by simp [newD])]; simp [newD, hj]
    rw [hn] at this
    exact this
  have hnp : nP (newD nn) = min (nn - 48) 200 := by unfold nP; rw [hlen]
  have hmark : markOf (nP (newD nn)) (makeB 2 []) = (2, []) := by
    have ho : (openF (makeB 2 [])).2.2 = 0 := by decide
    have hb : bodyOf (makeB 2 []) = List.replicate 24 0 := by decide
    have hs : stampOf (makeB 2 []) = 2 := by decide
    unfold markOf
    have hm : mkL (makeB 2 []) = [] := by unfold mkL; rw [hb]; rfl
    rw [if_neg (by omega), hb, if_neg (by decide), hm, hs]
    rfl
  refine ⟨⟨⟨by unfold nP; rw [hlen]; show _ = min ((formatD (newD nn)).S.length - 48) 200; rw [show (formatD (newD nn)).S.length = nn from l3], by rw [show (formatD (newD nn)).S.length = nn from l3]; exact h1, ⟨_, hst 0 (by omega), by rw [if_neg (by decide), if_pos rfl]; exact hmark⟩, by omega, by simp, by simp, fun k hk => by simp at hk, fun i hi _ => ?_, ⟨_, hst 1 (by omega), by rw [if_pos rfl]; exact ⟨by simp, .inl (by decide)⟩⟩⟩, fun i hi => ?_⟩, u3, w3, l3, hnp⟩
  · have := hst (48 + i) (by rw [hnp] at hi; omega)
    rw [if_neg (by omega), if_neg (by omega)] at this
    exact this
  · have := hst (48 + i) (by rw [hnp] at hi; omega)
    rw [if_neg (by omega), if_neg (by omega)] at this
    exact this
end Go.Proofs.YtbnobjlphmkgeaaDoor
/- Pages: who says that the power is gone is without it. No program in sight. -/
namespace Go.Proofs.YtbnobjlphmkgeaaDoor
open Go.RowKit

/-- who says that the power is gone is without it -/
def Lost (r : Dv × Nat) : Prop := r.2 = 9 → r.1.down = true
theorem wrD_lost (D : Dv) (i : Int) (b : Bytes) : Lost (wrD D i b) := by
  unfold Lost wrD
  split
  · intro h; cases h
  split
  · intro h; cases h
  split
  · rename_i h; intro _; exact h
  · intro h
    have h0 : D.left = 0 := by
      by_cases hl : D.left = 0
      · exact hl
      · rw [if_neg hl] at h; cases h
    show ((putD D i.toNat b).left == 0) = true
    have : (putD D i.toNat b).left = 0 := h0
    rw [this]; rfl
theorem flD_lost (D : Dv) : Lost (flD D) := by
  unfold Lost flD
  split
  · rename_i h; intro _; exact h
  split
  · rename_i hl
    intro _
    show (D.left == 0) = true
    rw [hl]; rfl
  · intro h; cases h
theorem runE_lost {X : Type} {f : Nat → X → Dv → Dv × Nat} (hf : ∀ k x D, Lost (f k x D)) : ∀ (l : List X) (k : Nat) (D : Dv), Lost (runE f k l D)
  | [], _, _ => fun h => by cases h
  | x :: l, k, D => by
    rw [runE_cons]
    split
    · exact runE_lost hf l (k + 1) _
    · exact hf k x D
theorem andThen_lost {a : Dv × Nat} {g : Dv → Dv × Nat} (ha : Lost a) (hg : ∀ D, Lost (g D)) : Lost (andThen a g) := by
  unfold andThen
  split
  · exact hg _
  · exact ha
theorem commit_lost (st n : Nat) (m : List (Int × Bytes)) (D : Dv) : (commitP st n m D).2 = 9 → (commitP st n m D).1.down = true := by
  have h9 : chkP n m ≠ 9 := by
    unfold chkP
    split
    · decide
    · have : ∀ (l : List (Int × Bytes)) (s : List Int), chkL n s l ≠ 9 := by
        intro l
        induction l with
        | nil => intro s; show (0 : Nat) ≠ 9; decide
        | cons x r ih =>
          intro s
          unfold chkL
          split
          · decide
          split
          · decide
          split
          · decide
          · exact ih _
      exact this _ _
  show Lost _
  unfold commitP
  split
  · exact fun h => absurd h h9
  split
  · rename_i h; exact fun _ => h
  split
  · intro h; cases h
  split
  · intro h; cases h
  · exact andThen_lost (andThen_lost (andThen_lost (andThen_lost (andThen_lost (runE_lost (fun _ _ _ => wrD_lost _ _ _) _ _ _) flD_lost) (fun _ => wrD_lost _ _ _)) flD_lost) (fun _ => runE_lost (fun _ _ _ => wrD_lost _ _ _) _ _ _)) flD_lost
theorem commit_dn {st n : Nat} {m : List (Int × Bytes)} {D : Dv} (hd : D.down = true) : (commitP st n m D).1 = D ∧ (commitP st n m D).2 ≠ 0 := by
  unfold commitP
  split
  · rename_i h; exact ⟨rfl, h⟩
  · first
    | exact ⟨rfl, show (9 : Nat) ≠ 0 by decide⟩
    | (rw [if_pos hd]; exact ⟨rfl, show (9 : Nat) ≠ 0 by decide⟩)
theorem crashS_left (D : Dv) (x : Int) (keep : List Bool) (torn : Int) (c : Nat) : ∀ k, crashS { D with left := x } keep torn c k = crashS D keep torn c k
  | 0 => rfl
  | k + 1 => by
    have ih := crashS_left D x keep torn c k
    unfold crashS
    rw [ih]
    rfl
theorem crashD_left (D : Dv) (x : Int) (keep : List Bool) (torn : Int) (c : Nat) : crashD { D with left := x } keep torn c = crashD D keep torn c := by
  unfold crashD
  rw [crashS_left]
end Go.Proofs.YtbnobjlphmkgeaaDoor
/- PagesPlays: the plain law: what a device with pages on it is, whatever is committed, wherever the power goes. No program in sight. -/
namespace Go.Proofs.YtbnobjlphmkgeaaDoor
open Go.RowKit

/-- pages on a device; behind a crash there is a stamp that is at most one more -/
structure PvS (nn n st : Nat) (D : Dv) : Prop where
  wf : WfD D
  len : D.S.length = nn
  n0 : n = nP D
  on : D.down = false → ∃ l pg, Full n D st l pg
  off : D.down = true → ∀ keep torn c, c ≤ 32 → ∃ st' l pg, Hold n (crashD D keep torn c) st' l pg ∧ st' ≤ st + 1
section
variable {nn n st : Nat} {D : Dv}
theorem nP_cong {D D' : Dv} (h : D'.S.length = D.S.length) : nP D' = nP D := by unfold nP; rw [h]
theorem PvS.commit (h : PvS nn n st D) (m : List (Int × Bytes)) : PvS nn n (if (commitP st n m D).2 = 0 ∧ m.length ≠ 0 then st + 1 else st) (commitP st n m D).1 := by
  cases hd : D.down with
  | true =>
    obtain ⟨a, b⟩ := commit_dn (st := st) (n := n) (m := m) hd
    rw [if_neg (fun x => b x.1), a]
    exact h
  | false =>
    obtain ⟨l, pg, hl⟩ := h.on hd
    have H := commit_safe m hl h.wf
    have H9 := commit_lost st n m D
    have hn := nP_cong H.len
    generalize commitP st n m D = r at *
    by_cases h0 : r.2 = 0
    · by_cases hm : m.length = 0
      · rw [if_neg (fun x => x.2 hm), H.none_ h0 hm]
        exact h
      · rw [if_pos ⟨h0, hm⟩]
        obtain ⟨a, b, c, e⟩ := H.done h0 hm
        exact ⟨H.wf, H.len.trans h.len, h.n0.trans hn.symm, fun _ => ⟨_, _, a⟩, fun hx => by rw [c] at hx; cases hx⟩
    · rw [if_neg (fun x => h0 x.1)]
      by_cases h9 : r.2 = 9
      · have hdn := H9 h9
        refine ⟨H.wf, H.len.trans h.len, h.n0.trans hn.symm, (fun hx => by rw [hdn] at hx; cases hx), fun _ keep torn c hc => ?_⟩
        rcases H.lost h9 keep torn c hc with h' | h'
        · exact ⟨_, _, _, h', Nat.le_succ _⟩
        · exact ⟨_, _, _, h', Nat.le_refl _⟩
      · rw [H.bad h0 h9]
        exact h
theorem PvS.left (h : PvS nn n st D) (x : Int) : PvS nn n st { D with left := x } where
  wf := ⟨h.wf.nd, h.wf.lt, h.wf.sl, h.wf.ml⟩
  len := h.len
  n0 := h.n0
  on := fun hd => by
    obtain ⟨l, pg, hl⟩ := h.on hd
    exact ⟨l, pg, hl.left x D.down⟩
  off := fun hd keep torn c hc => by
    show ∃ st' l pg, Hold n (crashD { D with left := x } keep torn c) st' l pg ∧ st' ≤ st + 1
    rw [crashD_left]
    exact h.off hd keep torn c hc
/-- crashed, and opened -/
theorem PvS.crash (h : PvS nn n st D) (keep : List Bool) (torn : Int) (c : Nat) (hc : c ≤ 32) : (openP (crashD D keep torn c)).2 = 0 ∧ (openMk (crashD D keep torn c)).1 ≤ st + 1 ∧ nP (crashD D keep torn c) = n ∧ PvS nn n (openMk (crashD D keep torn c)).1 (openP (crashD D keep torn c)).1 := by
  have hx : ∃ st' l pg, Hold n (crashD D keep torn c) st' l pg ∧ st' ≤ st + 1 := by
    cases hd : D.down with
    | true => exact h.off hd keep torn c hc
    | false =>
      obtain ⟨l, pg, hl⟩ := h.on hd
      exact ⟨st, l, pg, hl.hold.crash h.wf keep torn c hc, Nat.le_succ _⟩
  obtain ⟨st', l, pg, hh, hle⟩ := hx
  have hwf := crash_wf h.wf keep torn c hc
  have hup : Up (crashD D keep torn c) := ⟨rfl, rfl⟩
  obtain ⟨a, b, _, e, f, g⟩ := open_up hh hwf hup
  have hst : (openMk (crashD D keep torn c)).1 = st' := by rw [hh.opened]
  have hcl := crash_len D keep torn c
  rw [hst]
  exact ⟨a, hle, (nP_cong hcl).trans h.n0.symm, ⟨f, g.trans (hcl.trans h.len), h.n0.trans ((nP_cong (g.trans hcl)).symm), fun _ => ⟨l, pg, b⟩, fun hx => by rw [e.2] at hx; cases hx⟩⟩
end
theorem pvs_format (nn : Nat) (h1 : 49 ≤ nn) (h3 : nn ≤ 300) : PvS nn (nP (newD nn)) 2 (formatD (newD nn)) := by
  obtain ⟨a, b, c, d, e⟩ := format_full nn h1 h3
  exact ⟨c, d, a.hold.n0, fun _ => ⟨_, _, a⟩, fun hx => by rw [b.2] at hx; cases hx⟩
end Go.Proofs.YtbnobjlphmkgeaaDoor
/- A list of rows of one's own, beside a device; what is pending; booleans that came in. -/
namespace Go.Proofs.YtbnobjlphmkgeaaDoor
open Go.RowKit Go.Maps Go.ChangeMaps

section
variable {w w' : World} {F F' : Nat → Prop} {go n k : Nat} {f : Nat → Bytes}
end
theorem rdb_of {w : World} {A : Option Addr} {l : List Bool} (h : RdX (fun b => [.bool b]) 1 w A l) : RdB w A l := fun j hj => by
  obtain ⟨b, off, hA, hc⟩ := h j hj
  refine ⟨b, off, hA, ?_⟩
  have := hc 0 (.bool l[j]) rfl
  rwa [Nat.mul_one, Nat.add_zero] at this
theorem RdB.below {w w' : World} {A : Option Addr} {l : List Bool} (h : RdB w A l) (hb : Below w.heap.size w w') : RdB w' A l := fun j hj => by
  obtain ⟨b, off, hA, hc⟩ := h j hj
  exact ⟨b, off, hA, (hb.cell (p := ⟨b, off + j, none⟩) (block_lt_of_cell hc)).trans hc⟩
end Go.Proofs.YtbnobjlphmkgeaaDoor
/- Is an error nil? As equations, for a walk. -/
namespace Go.Proofs.YtbnobjlphmkgeaaDoor
open Go.RowKit

end Go.Proofs.YtbnobjlphmkgeaaDoor
/- Contracts of package image: the small ones, and New. -/
namespace Go.Proofs.YtbnobjlphmkgeaaDoor
open Go.RowKit

end Go.Proofs.YtbnobjlphmkgeaaDoor
/- The contract of image.Put. -/
namespace Go.Proofs.YtbnobjlphmkgeaaDoor
open Go.RowKit

end Go.Proofs.YtbnobjlphmkgeaaDoor
/- The contract of image.PutRoot. -/
namespace Go.Proofs.YtbnobjlphmkgeaaDoor
open Go.RowKit

end Go.Proofs.YtbnobjlphmkgeaaDoor
/- Plain facts on changes of bytes. No program in sight. -/
namespace Go.Proofs.YtbnobjlphmkgeaaDoor

end Go.Proofs.YtbnobjlphmkgeaaDoor
/- Plain facts on where changes lie. No program in sight. -/
namespace Go.Proofs.YtbnobjlphmkgeaaDoor

end Go.Proofs.YtbnobjlphmkgeaaDoor
/- Plain words for what is wrong with an image, and what mending makes of it. No walk here. -/
namespace Go.Proofs.YtbnobjlphmkgeaaDoor

/-- a fault -/
structure Flt where
  what : Nat
  which : Nat
end Go.Proofs.YtbnobjlphmkgeaaDoor
/- image.find and image.Get: an entry read back. -/
namespace Go.Proofs.YtbnobjlphmkgeaaDoor
open Go.RowKit

end Go.Proofs.YtbnobjlphmkgeaaDoor
/- The contracts of check.stray, check.over and image.Zero. -/
namespace Go.Proofs.YtbnobjlphmkgeaaDoor
open Go.RowKit

end Go.Proofs.YtbnobjlphmkgeaaDoor
/- The contract of check.handles. -/
namespace Go.Proofs.YtbnobjlphmkgeaaDoor
open Go.RowKit

section
variable {w w' : World} {base : Nat} {vf vr vw vf' : Value} {F : List Flt} {R W : List (Int × Bytes)}
end
end Go.Proofs.YtbnobjlphmkgeaaDoor
/- The contract of check.roots: closures and slices.Contains over names. -/
namespace Go.Proofs.YtbnobjlphmkgeaaDoor
open Go.RowKit

section
variable {w w' : World} {base : Nat} {vf vn vf' vn' : Value} {F : List Flt} {N : List Bytes}
end
end Go.Proofs.YtbnobjlphmkgeaaDoor
/- The contracts of image.Entries, Roots and Drop, and of image.Get where there is none. -/
namespace Go.Proofs.YtbnobjlphmkgeaaDoor
open Go.RowKit

end Go.Proofs.YtbnobjlphmkgeaaDoor
/- The contracts of the reference's Get, Put, Name, NameBytes and ReadName. -/
namespace Go.Proofs.YtbnobjlphmkgeaaDoor
open Go.RowKit

end Go.Proofs.YtbnobjlphmkgeaaDoor
/- The contract of the reference's Put. -/
namespace Go.Proofs.YtbnobjlphmkgeaaDoor
open Go.RowKit

end Go.Proofs.YtbnobjlphmkgeaaDoor
/- The contract of the reference's Make. -/
namespace Go.Proofs.YtbnobjlphmkgeaaDoor
open Go.RowKit

theorem Row.keepB {B : Nat} {w w' : World} (hb : Below B w w') {g p : Nat} (hg : B ≤ g) (v : Value) : Below B w (w'.setCell ⟨g, p, none⟩ v) := hb.setCell (p := ⟨g, p, none⟩) hg v
/-- the sector as it is after k bytes of the stamp -/
def makeK (l1 : Bytes) (st k : Nat) : Bytes := splice (splice l1 0 (numB st k)) 28 (numB st k)
theorem makeK_len (l1 : Bytes) (st k : Nat) (h : l1.length = 32) (hk : k ≤ 4) : (makeK l1 st k).length = 32 := by
  unfold makeK
  have h1 : (splice l1 0 (numB st k)).length = 32 := by rw [splice_len _ _ _ (by rw [numB_length]; omega), h]
  rw [splice_len _ _ _ (by rw [numB_length]; omega), h1]
theorem makeK_get (l1 : Bytes) (st k p : Nat) (h : l1.length = 32) (hk : k ≤ 4) : (makeK l1 st k)[p]? = if p < k then some (UInt8.ofNat (st / 2 ^ (8 * p) % 256)) else if 28 ≤ p ∧ p < 28 + k then some (UInt8.ofNat (st / 2 ^ (8 * (p - 28)) % 256)) else l1[p]? := by
  unfold makeK
  have hn := numB_length st k
  have h1 : (splice l1 0 (numB st k)).length = 32 := by rw [splice_len _ _ _ (by omega), h]
  rw [splice_rd _ _ _ _ (by omega), splice_rd _ _ _ _ (by omega), hn]
  by_cases a : p < k
  · rw [if_neg (by omega), if_pos (by omega), if_pos a, Nat.sub_zero, numB_get k st p a]
  · rw [if_neg a]
    by_cases b : 28 ≤ p ∧ p < 28 + k
    · rw [if_pos b, if_pos b, numB_get k st (p - 28) (by omega)]
    · rw [if_neg b, if_neg b, if_neg (by omega)]
theorem makeK_step (l1 : Bytes) (st k : Nat) (h : l1.length = 32) (hk : k < 4) : ((makeK l1 st k).set k (UInt8.ofNat (st / 2 ^ (8 * k) % 256))).set (28 + k) (UInt8.ofNat (st / 2 ^ (8 * k) % 256)) = makeK l1 st (k + 1) := by
  have hl := makeK_len l1 st k h (by omega)
  apply List.ext_getElem?
  intro p
  rw [makeK_get l1 st (k + 1) p h (by omega), List.getElem?_set, List.getElem?_set, List.length_set, hl, makeK_get l1 st k p h (by omega)]
  by_cases a : 28 + k = p
  · subst a
    rw [if_pos rfl, if_pos (by omega), if_neg (by omega), if_pos (by omega), Nat.add_sub_cancel_left]
  · rw [if_neg a]
    by_cases b : k = p
    · subst b
      rw [if_pos rfl, if_pos (by omega), if_pos (by omega)]
    · rw [if_neg b]
      by_cases c : p < k
      · rw [if_pos c, if_pos (show p < k + 1 from by omega)]
      · rw [if_neg c, if_neg (show ¬ p < k + 1 from by omega)]
        by_cases d : 28 ≤ p ∧ p < 28 + k
        · rw [if_pos d, if_pos (show 28 ≤ p ∧ p < 28 + (k + 1) from by omega)]
        · rw [if_neg d, if_neg (show ¬ (28 ≤ p ∧ p < 28 + (k + 1)) from by omega)]
theorem splice_take_succ (z b : Bytes) (o k : Nat) (hk : k < b.length) (hz : o + b.length ≤ z.length) : (splice z o (b.take k)).set (o + k) b[k] = splice z o (b.take (k + 1)) := by
  have h1 : (b.take k).length = k := by simp; omega
  have h2 : (b.take (k + 1)).length = k + 1 := by simp; omega
  apply List.ext_getElem?
  intro p
  rw [List.getElem?_set, splice_len _ _ _ (by omega), splice_rd _ _ _ _ (by omega), splice_rd _ _ _ _ (by omega), h1, h2]
  by_cases a : o + k = p
  · subst a
    rw [if_pos rfl, if_pos (by omega), if_pos (by omega), Nat.add_sub_cancel_left, List.getElem?_take, if_pos (by omega), List.getElem?_eq_getElem hk]
  · rw [if_neg a]
    by_cases c : o ≤ p ∧ p < o + k
    · rw [if_pos c, if_pos (by omega), List.getElem?_take, List.getElem?_take, if_pos (by omega), if_pos (by omega)]
    · rw [if_neg c, if_neg (by omega)]
theorem makeK_done (st : Nat) (b : Bytes) (h : b.length ≤ 24) : makeK (splice (List.replicate 32 0) 4 b) st 4 = makeB st b := by
  rw [← makeB_steps st b h]
  unfold makeK
  have hn := numB_length st 4
  have hz : (List.replicate 32 (0 : UInt8)).length = 32 := by simp
  congr 1
  apply List.ext_getElem?
  intro p
  have h1 : (splice (List.replicate 32 (0 : UInt8)) 4 b).length = 32 := by rw [splice_len _ _ _ (by omega), hz]
  have h2 : (splice (List.replicate 32 (0 : UInt8)) 0 (numB st 4)).length = 32 := by rw [splice_len _ _ _ (by omega), hz]
  rw [splice_rd _ _ _ _ (by omega), splice_rd _ _ _ _ (by omega), splice_rd _ _ _ _ (by omega), splice_rd _ _ _ _ (by omega), hn]
  by_cases a : 0 ≤ p ∧ p < 0 + 4
  · rw [if_pos a, if_neg (by omega), if_pos a]
  · rw [if_neg a]
    by_cases c : 4 ≤ p ∧ p < 4 + b.length
    · rw [if_pos c, if_pos c]
    · rw [if_neg c, if_neg c, if_neg a]

set_option maxRecDepth 100000 in
theorem refMake_ok (st : Nat) (A : Option Addr) (n c : Nat) (b : Bytes) (w : World) (hbn : b.length = n) (h1 : 1 ≤ st) (h2 : st ≤ 4294967295) (hn : n ≤ 24) (hr : Rd w A b) :
    Calls Tryd.prog 35 #[.int .i64 st, .slice A n c] w fun e w' => ∃ g, e = .returned (.tuple #[.slice (some ⟨g, 0, none⟩) 32 32, .int .i64 0]) ∧ w.heap.size ≤ g ∧ Row w' 5 g 32 (makeB st b) ∧ Below w.heap.size w w' := by
  have hmk := mk_bytes 32 32 rfl (by omega) w
  have hz := row_zeros w 32 (by simp [maxLen])
  have hB1 : Below w.heap.size w (w.alloc (.cells (zeroRow 32) 5)) := (Below.refl _ _).alloc (Nat.le_refl _) _
  have hzl : (List.replicate 32 (0 : UInt8)).length = 32 := by simp
  have HZ := Hidden.mk hzl
  obtain ⟨z0, hz0⟩ : ∃ z0, z0 = List.replicate 32 (0 : UInt8) := ⟨_, rfl⟩
  rw [← hz0] at hz hzl HZ
  have HZZ := Hidden.mk hz0
  clear hz0
  subst hbn
  go_enter Tryd.func35, Tryd.ntmps35
  go_wp2_with fail
  generalize w.alloc (.cells (zeroRow 32) 5) = w1 at *
  go_loopw [7] (fun i wr => ∃ k : Nat, k ≤ b.length ∧ i = .int .i64 k ∧ Below w.heap.size w wr ∧ Row wr 5 w.heap.size 32 (splice z0 4 (b.take k))) (fun i _ => b.length - (intOf i).toNat)
  case atStart => exact ⟨0, Nat.zero_le _, rfl, hB1, by simpa [splice] using hz⟩
  case round =>
    obtain ⟨k, hk, rfl, hbel, hrow⟩ := hrel
    by_cases hlt : k < b.length
    · obtain ⟨q, off, rfl, hc⟩ := (hr.below hbel) k hlt
      have hsl : (splice z0 4 (b.take k)).length = 32 := by rw [splice_len _ _ _ (by simp; have := HZ.out; omega), HZ.out]
      have hcell := hrow.cell (4 + k) (by omega)
      have hfr := hrow.frozen (4 + k)
      have hst := hrow.store (4 + k) (by omega) b[k]
      rw [splice_take_succ z0 b 4 k hlt (by have := HZ.out; omega)] at hst
      have hbn := Row.keepB hbel (g := w.heap.size) (p := 4 + k) (Nat.le_refl _) (bv b[k])
      have k0 : (0 : Int) ≤ k := by omega
      have k1 : (k : Int) < b.length := by omega
      have s1 : IntKind.i64.wrap (4 + (k : Int)) = 4 + (k : Int) := IntWalk.i64_in _ (by omega)
      generalize (splice z0 4 (b.take k))[4 + k] = u at hcell
      clear hrow hsl
      go_wp2_with fail
      go_roundw
      case rel => exact ⟨k + 1, by omega, by go_num, hbn, hst⟩
      case measure => simp [intOf]; omega
    · obtain rfl : k = b.length := by omega
      rw [List.take_length] at hrow
      have hl1 : (splice z0 4 b).length = 32 := by rw [splice_len _ _ _ (by have := HZ.out; omega), HZ.out]
      have HD : Hidden (makeK (splice z0 4 b) st 4 = makeB st b) := ⟨by rw [HZZ.out]; exact makeK_done st b hn⟩
      generalize splice z0 4 b = l1 at *
      go_wp2_with fail
      go_loopw [8, 9] (fun nv iv w2 => ∃ k : Nat, k ≤ 4 ∧ iv = .int .i64 k ∧ nv = .int .i64 ((st / 2 ^ (8 * k) : Nat) : Int) ∧ Below w.heap.size w w2 ∧ Row w2 5 w.heap.size 32 (makeK l1 st k)) (fun _ iv _ => 4 - (intOf iv).toNat)
      case atStart => exact ⟨0, Nat.zero_le _, rfl, by simp, hbel, by simpa [makeK, numB, splice] using hrow⟩
      case round =>
        obtain ⟨k, hk, rfl, rfl, hbel2, hrow2⟩ := hrel
        by_cases hlt2 : k < 4
        · have hml := makeK_len l1 st k hl1 hk
          have hd := div_step st k
          have hms := makeK_step l1 st k hl1 hlt2
          have HD2 := Hidden.mk hd
          have hcell1 := hrow2.cell k (by omega)
          have hfr1 := hrow2.frozen k
          have hst1 := hrow2.store k (by omega) (UInt8.ofNat (st / 2 ^ (8 * k) % 256))
          have hbn1 := Row.keepB hbel2 (g := w.heap.size) (p := k) (Nat.le_refl _) (bv (UInt8.ofNat (st / 2 ^ (8 * k) % 256)))
          have hcell2 := hst1.cell (28 + k) (by rw [List.length_set]; omega)
          have hfr2 := hst1.frozen (28 + k)
          have hst2 := hst1.store (28 + k) (by rw [List.length_set]; omega) (UInt8.ofNat (st / 2 ^ (8 * k) % 256))
          have hbn2 := Row.keepB hbn1 (g := w.heap.size) (p := 28 + k) (Nat.le_refl _) (bv (UInt8.ofNat (st / 2 ^ (8 * k) % 256)))
          rw [hms] at hst2
          have hbv : bv (UInt8.ofNat (st / 2 ^ (8 * k) % 256)) = .int .u8 ((st / 2 ^ (8 * k) : Nat) % 256 : Int) := by simp only [bv, ofNat_mod]; rfl
          have hmle : st / 2 ^ (8 * k) ≤ 4294967295 := Nat.le_trans (Nat.div_le_self _ _) h2
          rw [hbv] at hst1 hbn1 hcell2 hfr2 hst2 hbn2
          generalize st / 2 ^ (8 * k) = m at *
          have s1 : IntKind.i64.wrap (28 + (k : Int)) = 28 + (k : Int) := IntWalk.i64_in _ (by omega)
          clear hms hd hbv
          go_wp2_with fail
          go_roundw
          case rel => exact ⟨k + 1, by omega, by go_num, int_i64 (by have := HD2.out; omega), hbn2, hst2⟩
          case measure => simp [intOf]; omega
        · obtain rfl : k = 4 := by omega
          go_wp2_with fail
          go_ret2
          exact ⟨w.heap.size, rfl, Nat.le_refl _, by rw [← HD.out]; exact hrow2, hbel2⟩
end Go.Proofs.YtbnobjlphmkgeaaDoor
/- The contracts of the reference's Name, NameBytes and ReadName. -/
namespace Go.Proofs.YtbnobjlphmkgeaaDoor
open Go.RowKit

end Go.Proofs.YtbnobjlphmkgeaaDoor
/- The reference on images: Image, Handle, Zero, RootAt, Entry, Wipe. -/
namespace Go.Proofs.YtbnobjlphmkgeaaDoor
open Go.RowKit

end Go.Proofs.YtbnobjlphmkgeaaDoor
/- The reference on images: copied, Wipe. -/
namespace Go.Proofs.YtbnobjlphmkgeaaDoor
open Go.RowKit

set_option maxRecDepth 100000 in
theorem refCopied_ok (p off n c : Nat) (l : Bytes) (w : World) (hn : l.length = n) (h1 : 1 ≤ n) (hl : n ≤ 140737488351232) (hr : Rd w (some ⟨p, off, none⟩) l) :
    Calls Tryd.prog 46 #[.slice (some ⟨p, off, none⟩) n c] w fun e w' => ∃ g cap, e = .returned (.slice (some ⟨g, 0, none⟩) n cap) ∧ w.heap.size ≤ g ∧ n ≤ cap ∧ Row w' 5 g cap l ∧ Below w.heap.size w w' := by
  obtain ⟨i0, hi0, hz0, hz1, hz2⟩ := info_parts byte_info
  go_enter Tryd.func46, Tryd.ntmps46
  go_wp2_with (at_builtin; refine wpList_append_own _ rfl (.tmp 4) (.tmp 5) _ rfl w.heap.size 5 i0 _ 1 1 Tryd.underlying41 hi0 hz0 hz1 hz2 rfl (by decide) (.slice none 0 0) 0 [] rfl (World.ownsRow_nil _ _ _ _) ⟨p, off, none⟩ n c (l.map bv) rfl (by simp; omega) hr.cells one_bv (by simp only [maxLen]; omega) (by omega) (Nat.le_refl _) ?_; intro v1 w1 hown1 hg1 hnn1)
  have hb1 : Below w.heap.size w w1 := (Below.refl _ _).grown hg1 (Nat.le_refl _) (fun k hk => by simp [Value.ownBlock] at hk)
  have hO : Own w1 w.heap.size 5 v1 l := by unfold Own; simpa [hn] using hown1
  have hne : v1 ≠ .slice none 0 0 := fun h => by
    subst h
    rcases hO.2 with ⟨_, h0⟩ | ⟨g, cap, cur, h, _⟩
    · omega
    · cases h
  obtain ⟨g, cap, hv, hbg, hrow⟩ := Row.of_own hO hne
  rw [hn] at hv
  subst hv
  have hcap := hrow.le.1
  clear hO hne hown1 hg1 hnn1
  go_ret
  exact ⟨g, cap, rfl, hbg, by omega, hrow, hb1⟩
end Go.Proofs.YtbnobjlphmkgeaaDoor
/- The reference's device in memory: what lies where; step, Fail. -/
namespace Go.Proofs.YtbnobjlphmkgeaaDoor
open Go.RowKit Go.Maps Go.ChangeMaps

/-- a slice of one's own in which one cell is set -/
theorem own_set {w : World} {base : Nat} {e : TypeId} {size g n cap : Nat} {xs : List Value} (h : w.ownsRow base e size (.slice (some ⟨g, 0, none⟩) n cap) n xs) (q : Nat) (u : Value) :
    (w.setCell ⟨g, q, none⟩ u).ownsRow base e size (.slice (some ⟨g, 0, none⟩) n cap) n (xs.set q u) := by
  rcases h.2 with ⟨he, _⟩ | ⟨g', cap', cur, he, hb, hh, hc, hm, hz, ht⟩
  · cases he
  · injection he with he1 he2 he3
    injection he1 with he1
    injection he1 with he1
    subst he1 he3
    refine ⟨by rw [List.length_set]; exact h.1, .inr ⟨g, cap, _, rfl, hb, heap_setK hh u, hc, hm, by simpa using hz, ?_⟩⟩
    rw [Array.toList_setIfInBounds, List.take_set, ht]
/-- lines, as cells: of which sector, what -/
def lnC (O : List Nat) (mb mc : Nat → Nat) : List Value := O.flatMap fun i : Nat => [.int .i64 (i : Int), rowV (mb i) (mc i)]
/-- where it lies -/
structure RLay where
  gs : Nat
  cs : Nat
  vl : Value
  sb : Nat → Nat
  sc : Nat → Nat
  mb : Nat → Nat
  mc : Nat → Nat
structure RdIs (w : World) (F : Nat → Prop) (d : Nat) (D : Dv) (Y : RLay) : Prop where
  hd : w.heap[d]? = some (.cells #[.slice (some ⟨Y.gs, 0, none⟩) D.S.length Y.cs, Y.vl, .int .i64 D.left, .bool D.down] 76 (0, 0))
  sec : ∃ cur, w.heap[Y.gs]? = some (.cells cur 41 (0, 0)) ∧ cur.size = Y.cs ∧ ∀ i, i < D.S.length → cur[i]? = some (rowV (Y.sb i) (Y.sc i))
  cap : D.S.length ≤ Y.cs
  row : ∀ i (h : i < D.S.length), Row w 5 (Y.sb i) (Y.sc i) D.S[i] ∧ D.S[i].length = 32
  lin : w.ownsRow 0 91 2 Y.vl D.O.length (lnC D.O Y.mb Y.mc)
  mrow : ∀ i, i ∈ D.O → Row w 5 (Y.mb i) (Y.mc i) (D.M i) ∧ (D.M i).length = 32 ∧ i < D.S.length
  nd : D.O.Nodup
  n0 : 1 ≤ D.S.length
  n1 : D.S.length ≤ 300
  l0 : -1 ≤ D.left
  l1 : D.left ≤ 9223372036854775807
  fd : F d
  fs : F Y.gs
  fo : ∀ q, Y.vl.ownBlock = some q → F q
  fr : ∀ i, i < D.S.length → F (Y.sb i)
  fb : ∀ i, i ∈ D.O → F (Y.mb i)
  flt : ∀ k, F k → k < w.heap.size
section
variable {w w' : World} {F F' : Nat → Prop} {d : Nat} {D : Dv} {Y : RLay}
theorem RdIs.same (h : RdIs w F d D Y) (hb : ∀ k, F k → w'.heap[k]? = w.heap[k]?) (hF : ∀ k, F k → F' k) (hl : ∀ k, F' k → k < w'.heap.size) : RdIs w' F' d D Y where
  hd := (hb _ h.fd).trans h.hd
  sec := by obtain ⟨cur, h0, h1⟩ := h.sec; exact ⟨cur, (hb _ h.fs).trans h0, h1⟩
  cap := h.cap
  row := fun i hi => ⟨(h.row i hi).1.block (hb _ (h.fr i hi)), (h.row i hi).2⟩
  lin := ownsRow_block h.lin fun q hq => hb q (h.fo q hq)
  mrow := fun i hi => ⟨(h.mrow i hi).1.block (hb _ (h.fb i hi)), (h.mrow i hi).2⟩
  nd := h.nd
  n0 := h.n0
  n1 := h.n1
  l0 := h.l0
  l1 := h.l1
  fd := hF _ h.fd
  fs := hF _ h.fs
  fo := fun q hq => hF q (h.fo q hq)
  fr := fun i hi => hF _ (h.fr i hi)
  fb := fun i hi => hF _ (h.fb i hi)
  flt := hl
theorem RdIs.below (h : RdIs w F d D Y) (hb : Below w.heap.size w w') : RdIs w' F d D Y :=
  h.same (fun k hk => hb.block k (h.flt k hk)) (fun _ hk => hk) (fun k hk => Nat.lt_of_lt_of_le (h.flt k hk) hb.size)
theorem RdIs.keep {G : Nat → Prop} (h : RdIs w F d D Y) (hk : Keep G w w') (hG : ∀ k, F k → ¬ G k) : RdIs w' F d D Y :=
  h.same (fun k hf => hk.block k (h.flt k hf) (hG k hf)) (fun _ hk => hk) (fun k hf => Nat.lt_of_lt_of_le (h.flt k hf) hk.size)
/-- its own block turned: other lines, other steps left, up or down -/
theorem RdIs.head (h : RdIs w F d D Y) (l' : Int) (b' : Bool)
    (hh : w'.heap[d]? = some (.cells #[.slice (some ⟨Y.gs, 0, none⟩) D.S.length Y.cs, Y.vl, .int .i64 l', .bool b'] 76 (0, 0)))
    (hb : ∀ k, F k → k ≠ d → w'.heap[k]? = w.heap[k]?) (hs : w.heap.size ≤ w'.heap.size) (h0 : -1 ≤ l') (h1 : l' ≤ 9223372036854775807) : RdIs w' F d { D with left := l', down := b' } Y where
  hd := hh
  sec := by
    obtain ⟨cur, h0, h1⟩ := h.sec
    exact ⟨cur, (hb _ h.fs (DevIs.ne_cells h.hd h0 (by decide)).symm).trans h0, h1⟩
  cap := h.cap
  row := fun i hi => ⟨(h.row i hi).1.block (hb _ (h.fr i hi) (DevIs.ne_row h.hd (h.row i hi).1 (by decide)).symm), (h.row i hi).2⟩
  lin := ownsRow_block h.lin fun q hq => hb q (h.fo q hq) (fun e => DevIs.ne_own h.hd h.lin (by decide) (by rw [hq, e]))
  mrow := fun i hi => ⟨(h.mrow i hi).1.block (hb _ (h.fb i hi) (DevIs.ne_row h.hd (h.mrow i hi).1 (by decide)).symm), (h.mrow i hi).2⟩
  nd := h.nd
  n0 := h.n0
  n1 := h.n1
  l0 := h0
  l1 := h1
  fd := h.fd
  fs := h.fs
  fo := h.fo
  fr := h.fr
  fb := h.fb
  flt := fun k hk => Nat.lt_of_lt_of_le (h.flt k hk) hs
theorem RdIs.ord_le (h : RdIs w F d D Y) : D.O.length ≤ 300 :=
  Nat.le_trans (nodup_le D.S.length D.O h.nd (fun x hx => (h.mrow x hx).2.2)) h.n1
theorem RdIs.set23 (h : RdIs w F d D Y) (l' : Int) (h0 : -1 ≤ l') (h1 : l' ≤ 9223372036854775807) (b : Bool) :
    RdIs ((w.setCell ⟨d, 3, none⟩ (.bool b)).setCell ⟨d, 2, none⟩ (.int .i64 l')) F d { D with left := l', down := b } Y ∧ Keep F w ((w.setCell ⟨d, 3, none⟩ (.bool b)).setCell ⟨d, 2, none⟩ (.int .i64 l')) ∧
      ((w.setCell ⟨d, 3, none⟩ (.bool b)).setCell ⟨d, 2, none⟩ (.int .i64 l')).heap.size = w.heap.size := by
  refine ⟨h.head l' b (heap_set5 (heap_set5 h.hd _) _) (fun k _ hk => ?_) (by simp) h0 h1, ((Keep.refl F w).setCell (.inl h.fd) _).setCell (.inl h.fd) _, by simp⟩
  exact (Below.heap_setCell _ _ _ k hk).trans (Below.heap_setCell _ _ _ k hk)
theorem RdIs.set2 (h : RdIs w F d D Y) (l' : Int) (h0 : -1 ≤ l') (h1 : l' ≤ 9223372036854775807) :
    RdIs (w.setCell ⟨d, 2, none⟩ (.int .i64 l')) F d { D with left := l' } Y ∧ Keep F w (w.setCell ⟨d, 2, none⟩ (.int .i64 l')) ∧ (w.setCell ⟨d, 2, none⟩ (.int .i64 l')).heap.size = w.heap.size :=
  ⟨h.head l' D.down (heap_set5 h.hd _) (fun k _ hk => Below.heap_setCell _ _ _ k hk) (by simp) h0 h1, (Keep.refl F w).setCell (.inl h.fd) _, by simp⟩
theorem fourF {w : World} {p : Nat} {a b c d : Value} {t : TypeId} (h : w.heap[p]? = some (.cells #[a, b, c, d] t (0, 0))) :
    (w.cell? ⟨p, 0, none⟩ = some a ∧ w.cell? ⟨p, 1, none⟩ = some b ∧ w.cell? ⟨p, 2, none⟩ = some c ∧ w.cell? ⟨p, 3, none⟩ = some d) ∧ ∀ k, w.frozen? ⟨p, k, none⟩ = false :=
  ⟨⟨by rw [cell_of_row w p 0 _ _ _ h]; rfl, by rw [cell_of_row w p 1 _ _ _ h]; rfl, by rw [cell_of_row w p 2 _ _ _ h]; rfl, by rw [cell_of_row w p 3 _ _ _ h]; rfl⟩, fun k => frozen_of_row w p k _ _ h⟩
theorem rdstep_any (h : RdIs w F d D Y) (hdn : D.down = false) :
    Calls Tryd.prog 57 #[.pointer (some ⟨d, 0, none⟩)] w fun e w' => e = .returned (.bool (!(D.left == 0))) ∧ RdIs w' F d (stepD D) Y ∧ Keep F w w' ∧ w'.heap.size = w.heap.size := by
  obtain ⟨⟨c0, c1, c2, c3⟩, ff⟩ := fourF h.hd
  have f2 := ff 2
  have f3 := ff 3
  have l0 := h.l0
  have l1 := h.l1
  rw [hdn] at c3
  have s1 : IntKind.i64.wrap (D.left - 1) = D.left - 1 := IntWalk.i64_in _ (by omega)
  have HH := Hidden.mk h
  have HDN := Hidden.mk hdn
  clear h ff hdn
  by_cases q0 : D.left = 0
  · have t0 : (D.left == 0) = true := by simp [q0]
    have t1 : decide (0 ≤ D.left) = true := by simp [q0]
    have hm := Hidden.mk (HH.out.set23 (max (-1) (D.left - 1)) (by omega) (by omega) (D.left == 0))
    rw [show max (-1) (D.left - 1) = D.left - 1 from by omega, t0] at hm
    have HS : Hidden (stepD D = { D with left := D.left - 1, down := true }) := ⟨by unfold stepD; rw [show max (-1) (D.left - 1) = D.left - 1 from by omega, t0]⟩
    rw [HS.out]
    clear q0 HH HDN HS
    generalize D.left = L at *
    go_enter Tryd.func57, Tryd.ntmps57
    go_wp2_with fail
    go_ret
    exact ⟨by rw [t0]; rfl, hm.out⟩
  · have t0 : (D.left == 0) = false := by simpa using q0
    by_cases q1 : 0 ≤ D.left
    · have t1 : decide (0 ≤ D.left) = true := by simpa using q1
      have hm := Hidden.mk (HH.out.set2 (D.left - 1) (by omega) (by omega))
      have HS : Hidden (stepD D = { D with left := D.left - 1 }) := ⟨by unfold stepD; rw [show max (-1) (D.left - 1) = D.left - 1 from by omega, t0, ← HDN.out]⟩
      rw [HS.out]
      clear q0 q1 HH HDN HS
      generalize D.left = L at *
      go_enter Tryd.func57, Tryd.ntmps57
      go_wp2_with fail
      go_ret
      exact ⟨by rw [t0]; rfl, hm.out⟩
    · have t1 : decide (0 ≤ D.left) = false := by simpa using q1
      have HS : Hidden (stepD D = D) := ⟨by unfold stepD; rw [show max (-1) (D.left - 1) = D.left from by omega, t0, ← HDN.out]⟩
      rw [HS.out]
      clear q0 q1 HDN HS
      generalize hL : D.left = L at *
      clear hL
      go_enter Tryd.func57, Tryd.ntmps57
      go_wp2_with fail
      go_ret
      exact ⟨by rw [t0]; rfl, HH.out, Keep.refl _ _, rfl⟩
theorem rfail_any (h : RdIs w F d D Y) (n : Int) (hn : n ≤ 9223372036854775807) :
    Calls Tryd.prog 13 #[.pointer (some ⟨d, 0, none⟩), .int .i64 n] w fun e w' => e = .returned (.tuple #[]) ∧ RdIs w' F d { D with left := max (-1) n } Y ∧ Keep F w w' ∧ w'.heap.size = w.heap.size := by
  obtain ⟨⟨c0, c1, c2, c3⟩, ff⟩ := fourF h.hd
  have f2 := ff 2
  have hm := Hidden.mk (h.set2 (max (-1) n) (by omega) (by omega))
  clear h ff
  by_cases q0 : n < 0
  · have t0 : decide (n < 0) = true := by simpa using q0
    rw [show max (-1) n = -1 from by omega] at *
    clear q0
    go_enter Tryd.func13, Tryd.ntmps13
    go_wp2_with fail
    go_end0
    exact ⟨rfl, hm.out⟩
  · have t0 : decide (n < 0) = false := by simpa using q0
    rw [show max (-1) n = n from by omega] at *
    clear q0
    go_enter Tryd.func13, Tryd.ntmps13
    go_wp2_with fail
    go_end0
    exact ⟨rfl, hm.out⟩
end
end Go.Proofs.YtbnobjlphmkgeaaDoor
/- Slices of the call's own, element by element. -/
namespace Go.Proofs.YtbnobjlphmkgeaaDoor
open Go.RowKit

theorem flat_at {X : Type} (f : X → List Value) (C : Nat) (hC : ∀ x, (f x).length = C) : ∀ (L : List X) (i : Nat) (h : i < L.length) (q : Nat), q < C → (L.flatMap f)[i * C + q]? = (f L[i])[q]?
  | [], i, h, _, _ => absurd h (by simp)
  | x :: r, 0, _, q, hq => by
    rw [List.flatMap_cons, Nat.zero_mul, Nat.zero_add, List.getElem?_append_left (by rw [hC]; exact hq)]; rfl
  | x :: r, i + 1, h, q, hq => by
    have hx := hC x
    rw [List.flatMap_cons, List.getElem?_append_right (by rw [hx, Nat.succ_mul]; omega), hx, show (i + 1) * C + q - C = i * C + q by rw [Nat.succ_mul]; omega]
    exact flat_at f C hC r i (by simpa using h) q hq
section
variable {X : Type} {f : X → List Value} {C : Nat} {w : World} {base : Nat} {e : TypeId} {v : Value} {A : Option Addr} {n c : Nat} {L : List X}
theorem own_at (hC : ∀ x, (f x).length = C) (h : w.ownsRow base e C (.slice A n c) n (L.flatMap f)) (k : Nat) (hk : k < L.length) (h0 : 0 < n) :
    ∃ g off, A = some ⟨g, off, none⟩ ∧ base ≤ g ∧ g < w.heap.size ∧ ∀ q u, (f L[k])[q]? = some u → w.cell? ⟨g, off + k * C + q, none⟩ = some u := by
  rcases h.2 with ⟨he, hn0⟩ | ⟨g, cap, cur, he, hb, hh, _⟩
  · omega
  · injection he with he
    subst he
    refine ⟨g, 0, rfl, hb, (Array.getElem?_eq_some_iff.1 hh).1, fun q u hq => ?_⟩
    have hqC : q < C := by rw [← hC L[k]]; exact (List.getElem?_eq_some_iff.1 hq).1
    have := h.cells (g := g) rfl (k * C + q) u (by rw [flat_at f C hC L k hk q hqC]; exact hq)
    rw [Addr.add_lit] at this
    rw [Nat.add_assoc]
    exact this
theorem own_split (h : w.ownsRow base e C v n (L.flatMap f)) : ∃ A c, v = .slice A n c ∧ n ≤ c ∧ c ≤ maxLen := by
  rcases h.2 with ⟨rfl, rfl⟩ | ⟨g, cap, cur, rfl, _, hh, hc, hm, _⟩
  · exact ⟨none, 0, rfl, Nat.le_refl _, by simp [maxLen]⟩
  · exact ⟨_, cap, rfl, hc, hm⟩
theorem own_rdX3 (hC : ∀ x, (f x).length = C) (hn : L.length = n) (h : w.ownsRow base e C (.slice A n c) n (L.flatMap f)) : RdX f C w A L := fun i hi => by
  obtain ⟨g, off, hA, _, _, hc⟩ := own_at hC h i hi (by omega)
  exact ⟨g, off, hA, hc⟩
end
end Go.Proofs.YtbnobjlphmkgeaaDoor
/- The reference's device: Read. -/
namespace Go.Proofs.YtbnobjlphmkgeaaDoor
open Go.RowKit Go.Maps Go.ChangeMaps

section
variable {w w' : World} {F F' : Nat → Prop} {d : Nat} {D : Dv} {Y : RLay}
def lnF (mb mc : Nat → Nat) (i : Nat) : List Value := [.int .i64 (i : Int), rowV (mb i) (mc i)]
theorem RdIs.lines (h : RdIs w F d D Y) : ∃ A c, Y.vl = .slice A D.O.length c ∧ D.O.length ≤ c ∧ ∀ (k o : Nat), D.O[k]? = some o → ∃ g, A = some ⟨g, 0, none⟩ ∧ F g ∧ w.cell? ⟨g, k * 2, none⟩ = some (.int .i64 (o : Int)) ∧ w.cell? ⟨g, k * 2 + 1, none⟩ = some (rowV (Y.mb o) (Y.mc o)) := by
  have hl : w.ownsRow 0 91 2 Y.vl D.O.length (D.O.flatMap (lnF Y.mb Y.mc)) := h.lin
  have hfo := h.fo
  rcases hl.2 with ⟨hA, h0⟩ | ⟨g, cap, cur, hA, -, hh, hc, -⟩
  · refine ⟨none, 0, by rw [hA, h0], by omega, fun k o hk => ?_⟩
    have := (List.getElem?_eq_some_iff.1 hk).1
    omega
  · refine ⟨_, cap, hA, hc, fun k o hk => ?_⟩
    obtain ⟨hkl, rfl⟩ := List.getElem?_eq_some_iff.1 hk
    rw [hA] at hl hfo
    refine ⟨g, rfl, hfo g rfl, ?_, ?_⟩
    · have := hl.cells (g := g) rfl (k * 2 + 0) (.int .i64 (D.O[k] : Int)) (by rw [flat_at (lnF Y.mb Y.mc) 2 (fun _ => rfl) D.O k hkl 0 (by omega)]; rfl)
      rwa [Addr.add_lit, Nat.add_zero, Nat.zero_add] at this
    · have := hl.cells (g := g) rfl (k * 2 + 1) (rowV (Y.mb D.O[k]) (Y.mc D.O[k])) (by rw [flat_at (lnF Y.mb Y.mc) 2 (fun _ => rfl) D.O k hkl 1 (by omega)]; rfl)
      rwa [Addr.add_lit, Nat.zero_add] at this
/-- what the reference's Read says -/
def RrAns (w : World) (F : Nat → Prop) (l : Bytes) (k : Nat) (e : Ending) (w' : World) : Prop :=
  ∃ A c, e = .returned (.tuple #[.slice A l.length c, .int .i64 (k : Int)]) ∧ l.length ≤ c ∧ Rd w' A l ∧ (∀ ad, A = some ad → F ad.block ∧ ∃ cur, w'.heap[ad.block]? = some (.cells cur 5 (0, 0))) ∧ Below w.heap.size w w'
set_option maxRecDepth 100000 in
theorem rread_any (h : RdIs w F d D Y) (i : Int) :
    Calls Tryd.prog 18 #[.pointer (some ⟨d, 0, none⟩), .int .i64 i] w (RrAns w F (rdL D i) (rdE D i)) := by
  obtain ⟨⟨c0, c1, c2, c3⟩, ff⟩ := fourF h.hd
  have n1 := h.n1
  unfold rdL
  by_cases h1 : i < 0 ∨ (D.S.length : Int) ≤ i
  · have e : rdE D i = 1 := by unfold rdE; rw [if_pos h1]
    rw [e, if_neg (by decide)]
    clear h ff e
    by_cases h2 : i < 0
    · have t1 : decide (i < 0) = true := by simpa using h2
      clear h1 h2
      go_enter Tryd.func18, Tryd.ntmps18
      go_wp2_with fail
      go_ret2
      exact ⟨none, 0, rfl, Nat.le_refl _, Rd.nil_, (fun ad e => by cases e), Below.refl _ _⟩
    · have t1 : decide (i < 0) = false := by simpa using h2
      have t2 : decide ((D.S.length : Int) ≤ i) = true := by simp; omega
      clear h1 h2
      go_enter Tryd.func18, Tryd.ntmps18
      go_wp2_with fail
      go_ret2
      exact ⟨none, 0, rfl, Nat.le_refl _, Rd.nil_, (fun ad e => by cases e), Below.refl _ _⟩
  · obtain ⟨i, rfl⟩ : ∃ k : Nat, i = k := ⟨i.toNat, by omega⟩
    have hi : i < D.S.length := by omega
    have t2 : decide ((D.S.length : Int) ≤ (i : Int)) = false := by simp; omega
    have t3 : decide (D.S.length ≤ i) = false := by simp; omega
    cases hd : D.down with
    | true =>
      have e : rdE D (i : Int) = 9 := by unfold rdE; rw [if_neg h1, if_pos hd]
      rw [e, if_neg (by decide)]
      rw [hd] at c3
      clear h ff e h1 hd hi
      go_enter Tryd.func18, Tryd.ntmps18
      go_wp2_with fail
      go_ret2
      exact ⟨none, 0, rfl, Nat.le_refl _, Rd.nil_, (fun ad e => by cases e), Below.refl _ _⟩
    | false =>
      have e : rdE D (i : Int) = 0 := by unfold rdE; rw [if_neg h1, if_neg (by rw [hd]; decide)]
      rw [e, if_pos rfl, Int.toNat_natCast]
      rw [hd] at c3
      obtain ⟨A, c, hA, hc, hln⟩ := h.lines
      rw [hA] at c1
      obtain ⟨cur, hcur, hcs, hcu⟩ := h.sec
      have hsr := h.row i hi
      have hsc := hcu i hi
      have HSEC : Hidden (w.cell? ⟨Y.gs, i, none⟩ = some (rowV (Y.sb i) (Y.sc i)) ∧ F (Y.sb i) ∧ Row w 5 (Y.sb i) (Y.sc i) D.S[i] ∧ D.S[i].length = 32) := ⟨⟨by rw [cell_of_row w Y.gs i cur _ _ hcur]; exact hsc, h.fr i hi, hsr⟩⟩
      have HM : Hidden (∀ o, o ∈ D.O → Row w 5 (Y.mb o) (Y.mc o) (D.M o) ∧ (D.M o).length = 32 ∧ F (Y.mb o)) := ⟨fun o ho => ⟨(h.mrow _ ho).1, (h.mrow _ ho).2.1, h.fb _ ho⟩⟩
      have HLN := Hidden.mk hln
      have HRD : Hidden (readD D i = if i ∈ D.O then D.M i else D.S[i]) := ⟨by unfold readD; rw [List.getD_eq_getElem?_getD, List.getElem?_eq_getElem hi]; rfl⟩
      have HO := Hidden.mk h.ord_le
      have C1 := c1
      generalize readD D i = R at *
      generalize D.O = O at *
      obtain ⟨m, hOl⟩ : ∃ m, O.length = m := ⟨_, rfl⟩
      rw [hOl] at c1 hc HO
      have HOL := Hidden.mk hOl
      have HC := Hidden.mk (And.intro c0 (And.intro c1 c3))
      have hm3 := HO.out
      clear h ff e h1 hd hcur hcs hcu hsr hsc hln hA hOl C1
      go_enter Tryd.func18, Tryd.ntmps18
      go_wp2_with fail
      go_loopg [6] m (fun r kv wr => ∃ k : Nat, k ≤ m ∧ r = m - k ∧ kv = .int .i64 (k : Int) ∧ Hidden ((∀ j, j < k → O[j]? ≠ some i) ∧ Below w.heap.size w wr))
      case atStart => exact ⟨0, by omega, rfl, rfl, ⟨fun j hj => by omega, Below.refl _ _⟩⟩
      case round =>
        obtain ⟨k, hk, rfl, rfl, hs⟩ := hrel
        have HS := Hidden.mk hs.out
        clear hs
        have hb := HS.out.2
        have z0 := (hb.cell (p := ⟨d, 0, none⟩) (block_lt_of_cell c0)).trans c0
        have z1 := (hb.cell (p := ⟨d, 1, none⟩) (block_lt_of_cell c1)).trans c1
        clear hb
        by_cases hlt : k < m
        · have k0 : (0 : Int) ≤ k := by omega
          have k1 : (k : Int) < m := by omega
          have s1 : IntKind.i64.wrap ((k : Int) + 1) = (k : Int) + 1 := IntWalk.i64_in _ (by omega)
          obtain ⟨o, ho⟩ : ∃ o, O[k]? = some o := ⟨O[k]'(by rw [HOL.out]; exact hlt), List.getElem?_eq_getElem _⟩
          obtain ⟨g, rfl, hFg, y0, y1⟩ := HLN.out k o ho
          have x0 := (HS.out.2.cell (p := ⟨g, k * 2, none⟩) (block_lt_of_cell y0)).trans y0
          have x1 := (HS.out.2.cell (p := ⟨g, k * 2 + 1, none⟩) (block_lt_of_cell y1)).trans y1
          unfold rowV at x1
          clear y0 y1 c0 c1
          by_cases hoi : o = i
          · have HRW := HM.out i (by rw [← hoi]; exact List.mem_of_getElem? ho)
            have hR : R = D.M i := by rw [HRD.out, if_pos (by rw [← hoi]; exact List.mem_of_getElem? ho)]
            subst hoi
            have q1 : ((o : Int) == (o : Int)) = true := by simp
            rw [← hR] at HRW
            have HRW := Hidden.mk HRW
            clear hR ho
            go_wp2_with fail
            go_ret2
            obtain ⟨a1, a2, a3⟩ := HRW.out
            exact ⟨some ⟨Y.mb o, 0, none⟩, Y.mc o, by rw [a2]; rfl, a1.le.1, (a1.below HS.out.2 a1.lt).rd, fun ad e => by obtain rfl := Option.some.inj e; obtain ⟨cur, hcur, -⟩ := a1.below HS.out.2 a1.lt; exact ⟨a3, cur, hcur⟩, HS.out.2⟩
          · have q1 : ((o : Int) == (i : Int)) = false := by simp; omega
            have HN : Hidden ((∀ j, j < k + 1 → O[j]? ≠ some i) ∧ Below w.heap.size w wr) := ⟨fun j hj => by
              by_cases hjk : j = k
              · rw [hjk, ho]; intro e; exact hoi (Option.some.inj e)
              · exact HS.out.1 j (by omega), HS.out.2⟩
            clear hoi ho
            go_wp2_with fail
            go_roundg (m - (k + 1))
            case measure => omega
            case rel => exact ⟨k + 1, by omega, rfl, by go_num, HN⟩
        · obtain rfl : k = m := by omega
          have t4 : decide ((k : Int) < k) = false := by simp
          have hR : R = D.S[i] := by
            rw [HRD.out, if_neg (fun h => ?_)]
            obtain ⟨j, hj, e⟩ := List.getElem_of_mem h
            exact HS.out.1 j (by rw [← HOL.out]; exact hj) (by rw [List.getElem?_eq_getElem hj, e])
          obtain ⟨a0, a1, a2, a3⟩ := HSEC.out
          rw [← hR] at a2 a3
          have x0 := (HS.out.2.cell (p := ⟨Y.gs, i, none⟩) (block_lt_of_cell a0)).trans a0
          unfold rowV at x0
          have HX := Hidden.mk (And.intro a1 (And.intro a2 a3))
          have i0 : (0 : Int) ≤ i := by omega
          have i1 : (i : Int) < D.S.length := by omega
          clear a0 a1 a2 a3 hR c0 c1 HSEC HM
          go_wp2_with fail
          go_ret2
          obtain ⟨a1, a2, a3⟩ := HX.out
          exact ⟨some ⟨Y.sb i, 0, none⟩, Y.sc i, by rw [a3]; rfl, a2.le.1, (a2.below HS.out.2 a2.lt).rd, fun ad e => by obtain rfl := Option.some.inj e; obtain ⟨cur, hcur, -⟩ := a2.below HS.out.2 a2.lt; exact ⟨a1, cur, hcur⟩, HS.out.2⟩
end
end Go.Proofs.YtbnobjlphmkgeaaDoor
/- The reference's device: Write. -/
namespace Go.Proofs.YtbnobjlphmkgeaaDoor
open Go.RowKit Go.Maps Go.ChangeMaps

theorem line_info : (Tryd.prog.info? 91).map (fun i => (i.zero, i.size, i.bytes)) = some (some (.agg #[.int .i64 0, .slice none 0 0]), 2, 32) := by kernel_rfl
/-- the body of the line of o is another one -/
def setAt1 (f : Nat → Nat) (o x : Nat) : Nat → Nat := fun j => if j = o then x else f j
theorem lnC_not {O : List Nat} {mb mc : Nat → Nat} {o g c : Nat} (h : o ∉ O) : lnC O (setAt1 mb o g) (setAt1 mc o c) = lnC O mb mc := by
  unfold lnC
  rw [List.flatMap_def, List.flatMap_def]
  congr 1
  refine List.map_congr_left fun i hi => ?_
  have : i ≠ o := fun e => h (e ▸ hi)
  unfold setAt1
  rw [if_neg this, if_neg this]
theorem lnC_set {g c : Nat} {mb mc : Nat → Nat} : ∀ (O : List Nat) (k o : Nat), O.Nodup → O[k]? = some o → (lnC O mb mc).set (k * 2 + 1) (rowV g c) = lnC O (setAt1 mb o g) (setAt1 mc o c)
  | [], k, o, _, h => by simp at h
  | a :: r, 0, o, hn, h => by
    obtain rfl : a = o := by simpa using h
    have h2 := lnC_not (mb := mb) (mc := mc) (g := g) (c := c) (List.nodup_cons.1 hn).1
    show [.int .i64 (a : Int), rowV g c] ++ lnC r mb mc = [.int .i64 (a : Int), rowV (setAt1 mb a g a) (setAt1 mc a c a)] ++ lnC r (setAt1 mb a g) (setAt1 mc a c)
    rw [h2]
    simp [setAt1]
  | a :: r, k + 1, o, hn, h => by
    have h' : r[k]? = some o := by simpa using h
    have hao : a ≠ o := fun e => (List.nodup_cons.1 hn).1 (e ▸ List.mem_of_getElem? h')
    have ih := lnC_set (g := g) (c := c) (mb := mb) (mc := mc) r k o (List.nodup_cons.1 hn).2 h'
    show ([.int .i64 (a : Int), rowV (mb a) (mc a)] ++ lnC r mb mc).set ((k + 1) * 2 + 1) (rowV g c) = [.int .i64 (a : Int), rowV (setAt1 mb o g a) (setAt1 mc o c a)] ++ lnC r (setAt1 mb o g) (setAt1 mc o c)
    rw [← ih, show (k + 1) * 2 + 1 = 2 + (k * 2 + 1) by omega, List.set_append_right _ _ (by simp)]
    simp [setAt1, hao]
def wrM (D : Dv) (o : Nat) (b : Bytes) : Dv := { D with M := fun j => if j = o then b else D.M j }
section
variable {w w' : World} {F F' : Nat → Prop} {d : Nat} {D : Dv} {Y : RLay}
theorem RdIs.setLine (h : RdIs w F d D Y) {k o gl c g cap : Nat} {b : Bytes} (hk : D.O[k]? = some o) (hgl : Y.vl = .slice (some ⟨gl, 0, none⟩) D.O.length c) (hr : Row w 5 g cap b) (hb : b.length = 32) :
    RdIs (w.setCell ⟨gl, k * 2 + 1, none⟩ (rowV g cap)) (fun q => F q ∨ q = g) d (wrM D o b) { Y with mb := setAt1 Y.mb o g, mc := setAt1 Y.mc o cap } := by
  have hl := h.lin
  rw [hgl] at hl
  obtain ⟨hgt, hgc⟩ : (∃ cur, w.heap[gl]? = some (.cells cur 91 (0, 0))) ∧ True := by
    rcases hl.2 with ⟨e, _⟩ | ⟨g', cap', cur, e, _, hh, _⟩
    · cases e
    · injection e with e1
      injection e1 with e1
      injection e1 with e1
      subst e1
      exact ⟨⟨cur, hh⟩, trivial⟩
  obtain ⟨curl, hcl⟩ := hgt
  have hoth : ∀ q, q ≠ gl → (w.setCell ⟨gl, k * 2 + 1, none⟩ (rowV g cap)).heap[q]? = w.heap[q]? := fun q hq => Below.heap_setCell _ _ _ _ hq
  have hro : ∀ {q c' : Nat} {l : Bytes}, Row w 5 q c' l → Row (w.setCell ⟨gl, k * 2 + 1, none⟩ (rowV g cap)) 5 q c' l := fun {q c' l} hr => hr.block (hoth q (DevIs.ne_row hcl hr (by decide)).symm)
  have hF : F gl := h.fo gl (by rw [hgl]; rfl)
  refine { hd := (hoth d (DevIs.ne_cells h.hd hcl (by decide))).trans h.hd, sec := ?_, cap := h.cap, row := fun i hi => ⟨hro (h.row i hi).1, (h.row i hi).2⟩, lin := ?_, mrow := fun i hi => ?_, nd := h.nd, n0 := h.n0, n1 := h.n1, l0 := h.l0, l1 := h.l1, fd := .inl h.fd, fs := .inl h.fs, fo := fun q hq => .inl (h.fo q hq), fr := fun i hi => .inl (h.fr i hi), fb := fun i hi => ?_, flt := fun q hq => ?_ }
  · obtain ⟨cur, h0, h1⟩ := h.sec
    exact ⟨cur, (hoth _ (DevIs.ne_cells h0 hcl (by decide))).trans h0, h1⟩
  · have := own_set hl (k * 2 + 1) (rowV g cap)
    show World.ownsRow _ _ _ _ Y.vl _ (lnC D.O (setAt1 Y.mb o g) (setAt1 Y.mc o cap))
    rw [← lnC_set D.O k o h.nd hk, hgl]
    exact this
  · show Row _ 5 (setAt1 Y.mb o g i) (setAt1 Y.mc o cap i) (if i = o then b else D.M i) ∧ (if i = o then b else D.M i).length = 32 ∧ i < D.S.length
    unfold setAt1
    by_cases hio : i = o
    · rw [if_pos hio, if_pos hio, if_pos hio]
      exact ⟨hro hr, hb, (h.mrow i hi).2.2⟩
    · rw [if_neg hio, if_neg hio, if_neg hio]
      obtain ⟨a1, a2, a3⟩ := h.mrow i hi
      exact ⟨hro a1, a2, a3⟩
  · show F (setAt1 Y.mb o g i) ∨ setAt1 Y.mb o g i = g
    unfold setAt1
    by_cases hio : i = o
    · rw [if_pos hio]; exact .inr rfl
    · rw [if_neg hio]; exact .inl (h.fb i hi)
  · have e : (w.setCell ⟨gl, k * 2 + 1, none⟩ (rowV g cap)).heap.size = w.heap.size := by simp
    rw [e]
    rcases hq with hq | rfl
    · exact h.flt q hq
    · exact hr.lt
end
end Go.Proofs.YtbnobjlphmkgeaaDoor
/- The reference's device: Write, whole. -/
namespace Go.Proofs.YtbnobjlphmkgeaaDoor
open Go.RowKit Go.Maps Go.ChangeMaps

section
variable {w w' : World} {F F' : Nat → Prop} {d : Nat} {D : Dv} {Y : RLay}
/-- a line more -/
theorem RdIs.added {w8 : World} (h : RdIs w F d D Y) {i g cap : Nat} {b : Bytes} {v8 : Value} (hio : i ∉ D.O) (hi : i < D.S.length) (hr : Row w8 5 g cap b) (hb : b.length = 32) (hgn : w.heap.size ≤ g)
    (hown8 : w8.ownsRow 0 91 2 v8 (D.O.length + 1) (lnC D.O Y.mb Y.mc ++ [.int .i64 (i : Int), rowV g cap])) (hg : w.grownBy w8 Y.vl.ownBlock) (hv8 : ∀ q, v8.ownBlock = some q → Y.vl.ownBlock = some q ∨ w.heap.size ≤ q) :
    RdIs (w8.setCell ⟨d, 1, none⟩ v8) (growF F w w8) d (putD D i b) { Y with vl := v8, mb := setAt1 Y.mb i g, mc := setAt1 Y.mc i cap } ∧ Keep F w (w8.setCell ⟨d, 1, none⟩ v8) := by
  have hvd := DevIs.ne_own h.hd h.lin (by decide)
  have hdl := h.flt d h.fd
  have hd8 := (hg.block d hdl (fun e => hvd e.symm)).trans h.hd
  have hold : ∀ q, F q → q ≠ d → Y.vl.ownBlock ≠ some q → (w8.setCell ⟨d, 1, none⟩ v8).heap[q]? = w.heap[q]? := fun q hq hqd hqv =>
    (Below.heap_setCell _ _ _ _ hqd).trans (hg.block q (h.flt q hq) (fun e => hqv e.symm))
  have hro : ∀ {q c' : Nat} {l : Bytes}, F q → Row w 5 q c' l → Row (w8.setCell ⟨d, 1, none⟩ v8) 5 q c' l := fun {q c' l} hf hr => by
    obtain ⟨cur, hcur, -⟩ := id hr
    exact hr.block (hold q hf (DevIs.ne_row h.hd hr (by decide)).symm (DevIs.ne_own hcur h.lin (by decide)))
  have hO : (putD D i b).O = D.O ++ [i] := by unfold putD; rw [if_neg hio]
  have hbig : w.heap.size ≤ w8.heap.size := hg.size
  have hin : ∀ q, F q → growF F w w8 q := fun q hq => ⟨.inl hq, Nat.lt_of_lt_of_le (h.flt q hq) hbig⟩
  refine ⟨{ hd := ?_, sec := ?_, cap := h.cap, row := fun k hk => ⟨hro (h.fr k hk) (h.row k hk).1, (h.row k hk).2⟩, lin := ?_, mrow := fun k hk => ?_, nd := ?_, n0 := h.n0, n1 := h.n1, l0 := h.l0, l1 := h.l1, fd := hin _ h.fd, fs := hin _ h.fs, fo := fun q hq => ?_, fr := fun k hk => hin _ (h.fr k hk), fb := fun k hk => ?_, flt := fun q hq => ?_ }, ?_⟩
  · rw [heap_set5 hd8 v8]; rfl
  · obtain ⟨cur, h0, h1⟩ := h.sec
    exact ⟨cur, (hold _ h.fs (DevIs.ne_cells h.hd h0 (by decide)).symm (DevIs.ne_own h0 h.lin (by decide))).trans h0, h1⟩
  · rw [hO, List.length_append]
    have e : lnC (D.O ++ [i]) (setAt1 Y.mb i g) (setAt1 Y.mc i cap) = lnC D.O Y.mb Y.mc ++ [.int .i64 (i : Int), rowV g cap] := by
      have h1 := lnC_not (mb := Y.mb) (mc := Y.mc) (g := g) (c := cap) hio
      show (D.O ++ [i]).flatMap _ = _
      rw [List.flatMap_append]
      show lnC D.O (setAt1 Y.mb i g) (setAt1 Y.mc i cap) ++ _ = _
      rw [h1]
      simp [setAt1]
    show World.ownsRow _ _ _ _ v8 _ (lnC (D.O ++ [i]) (setAt1 Y.mb i g) (setAt1 Y.mc i cap))
    rw [e]
    refine ownsRow_block hown8 fun q hq => Below.heap_setCell _ _ _ _ (show q ≠ d from fun e => ?_)
    rcases hv8 q hq with h' | h'
    · exact hvd (e ▸ h')
    · omega
  · rw [hO, List.mem_append, List.mem_singleton] at hk
    show Row _ 5 (setAt1 Y.mb i g k) (setAt1 Y.mc i cap k) (if k = i then b else D.M k) ∧ (if k = i then b else D.M k).length = 32 ∧ k < D.S.length
    unfold setAt1
    by_cases hki : k = i
    · rw [if_pos hki, if_pos hki, if_pos hki]
      exact ⟨hr.block (Below.heap_setCell _ _ _ _ (show g ≠ d by omega)), hb, by omega⟩
    · rw [if_neg hki, if_neg hki, if_neg hki]
      obtain ⟨a1, a2, a3⟩ := h.mrow k (hk.elim id (fun e => absurd e hki))
      exact ⟨hro (h.fb k (hk.elim id (fun e => absurd e hki))) a1, a2, a3⟩
  · rw [hO]
    exact List.nodup_append.2 ⟨h.nd, by simp, fun x hx y hy e => by
      rw [List.mem_singleton] at hy
      exact hio (hy ▸ e ▸ hx)⟩
  · refine ⟨(hv8 q hq).imp (fun h' => h.fo q h') id, (hown8.lt q hq).2⟩
  · rw [hO, List.mem_append, List.mem_singleton] at hk
    show growF F w w8 (setAt1 Y.mb i g k)
    unfold setAt1
    by_cases hki : k = i
    · rw [if_pos hki]; exact ⟨.inr hgn, hr.lt⟩
    · rw [if_neg hki]; exact hin _ (h.fb k (hk.elim id (fun e => absurd e hki)))
  · have e : (w8.setCell ⟨d, 1, none⟩ v8).heap.size = w8.heap.size := by simp
    rw [e]; exact hq.2
  · exact (show Keep F w w8 from ⟨hg.os, hg.tape, hg.output, hg.size, fun q hq hn => hg.block q hq (fun e => hn (h.fo q e.symm))⟩).setCell (.inl h.fd) _
end
/-- so many lines are looked at -/
structure RwSt (w wr : World) (F : Nat → Prop) (d : Nat) (D : Dv) (i : Nat) (b : Bytes) (k : Nat) (F' : Nat → Prop) (D' : Dv) (Y' : RLay) (vl : Value) (p off : Nat) : Prop where
  vl : Y'.vl = vl
  rd : Rd wr (some ⟨p, off, none⟩) b
  dev : RdIs wr F' d D' Y'
  kp : Keep F w wr
  sub : ∀ q, F' q → F q ∨ w.heap.size ≤ q
  yes : i ∈ D.O.take k → D' = wrM D i b
  no : i ∉ D.O.take k → D' = D
theorem RwSt.same {w wr : World} {F : Nat → Prop} {d : Nat} {D : Dv} {i : Nat} {b : Bytes} {k : Nat} {F' : Nat → Prop} {D' : Dv} {Y' : RLay} {vl : Value} {p off : Nat} (h : RwSt w wr F d D i b k F' D' Y' vl p off) : D'.O = D.O ∧ D'.S = D.S ∧ D'.left = D.left ∧ D'.down = D.down := by
  by_cases hk : i ∈ D.O.take k
  · rw [h.yes hk]; exact ⟨rfl, rfl, rfl, rfl⟩
  · rw [h.no hk]; exact ⟨rfl, rfl, rfl, rfl⟩
section
variable {w : World} {F : Nat → Prop} {d : Nat} {D : Dv} {Y : RLay}
/-- what a call says that changes the device -/
def RwAns (w : World) (F : Nat → Prop) (d : Nat) (r : Dv × Nat) (e : Ending) (w' : World) : Prop :=
  e = .returned (.int .i64 (r.2 : Int)) ∧ ∃ F' Y', RdIs w' F' d r.1 Y' ∧ Keep F w w' ∧ ∀ k, F' k → F k ∨ w.heap.size ≤ k
theorem RwAns.mk {w w' : World} {F F' : Nat → Prop} {d k : Nat} {D' : Dv} {Y' : RLay} {e : Ending} {r : Dv × Nat} (hr : r = (D', k)) (he : e = .returned (.int .i64 (k : Int))) (h : RdIs w' F' d D' Y' ∧ Keep F w w' ∧ ∀ k, F' k → F k ∨ w.heap.size ≤ k) : RwAns w F d r e w' := by
  subst hr
  exact ⟨he, F', Y', h⟩
set_option maxRecDepth 100000 in
theorem rwrite_ok (h : RdIs w F d D Y) (i : Nat) (A : Option Addr) (c : Nat) (b : Bytes) (hi : i < D.S.length) (hdn : D.down = false) (hb : b.length = 32) (hrd : Rd w A b) (hAF : ∀ ad, A = some ad → Y.vl.ownBlock ≠ some ad.block) :
    Calls Tryd.prog 36 #[.pointer (some ⟨d, 0, none⟩), .int .i64 (i : Int), .slice A 32 c] w (RwAns w F d (wrD D (i : Int) b)) := by
  rw [wrD_ok hi hb hdn]
  have HR9 : Hidden (D.left = 0 → (stepD (putD D i b), if D.left = 0 then 9 else 0) = (stepD (putD D i b), 9)) := ⟨fun h => by rw [if_pos h]⟩
  have HR0 : Hidden (D.left ≠ 0 → (stepD (putD D i b), if D.left = 0 then 9 else 0) = (stepD (putD D i b), 0)) := ⟨fun h => by rw [if_neg h]⟩
  generalize (stepD (putD D i b), if D.left = 0 then 9 else 0) = r9 at *
  obtain ⟨⟨c0, c1, c2, c3⟩, ff⟩ := fourF h.hd
  have n1 := h.n1
  rw [hdn] at c3
  have t2 : decide ((D.S.length : Int) ≤ (i : Int)) = false := by simp; omega
  have t3 : decide (D.S.length ≤ i) = false := by simp; omega
  obtain ⟨p, off, hA, hpl⟩ := hrd.lt (by omega)
  subst hA
  obtain ⟨m, hm⟩ : ∃ m, D.O.length = m := ⟨_, rfl⟩
  have HM := Hidden.mk hm
  have hm3 := h.ord_le
  rw [hm] at hm3
  have HST : Hidden (RwSt w w F d D i b 0 F D Y Y.vl p off) := ⟨⟨rfl, hrd, h, Keep.refl _ _, fun _ hq => .inl hq, fun hh => by simp at hh, fun _ => rfl⟩⟩
  have HPV := Hidden.mk (hAF _ rfl)
  obtain ⟨vl0, hvl0⟩ : ∃ v, Y.vl = v := ⟨_, rfl⟩
  rw [hvl0] at HST HPV
  have HND := Hidden.mk h.nd
  have HDN := Hidden.mk hdn
  obtain ⟨A1, cl, hvl, hcl, -⟩ := h.lines
  rw [hvl] at c1
  rw [hm] at c1 hcl
  clear h ff hm hdn hvl hAF hrd hvl0
  go_enter Tryd.func36, Tryd.ntmps36
  go_wp2_with fail
  clear c0 c1 c2 c3 hcl t2 t3
  go_loopg [7, 8] m (fun r fv kv wr => ∃ (k : Nat) (F' : Nat → Prop) (D' : Dv) (Y' : RLay), k ≤ m ∧ r = m - k ∧ fv = .bool (decide (i ∈ D.O.take k)) ∧ kv = .int .i64 (k : Int) ∧ Hidden (RwSt w wr F d D i b k F' D' Y' vl0 p off))
  case atStart => exact ⟨0, F, D, Y, by omega, rfl, by simp, rfl, HST⟩
  case round =>
    obtain ⟨k, F', D', Y', hk, rfl, rfl, rfl, hs⟩ := hrel
    have HS := Hidden.mk hs.out
    clear hs HST
    obtain ⟨⟨c0, c1, c2, c3⟩, ff⟩ := fourF HS.out.dev.hd
    obtain ⟨e1, e2, e3, e4⟩ := HS.out.same
    obtain ⟨A2, cl, hvl, hcl, hln⟩ := HS.out.dev.lines
    rw [e1, HM.out] at hvl hcl
    rw [e1] at hln
    have HVL := Hidden.mk hvl
    rw [hvl] at c1
    have HE := Hidden.mk (And.intro e1 (And.intro e2 (And.intro e3 e4)))
    clear c0 c2 c3 e1 e2 e3 e4 hvl
    by_cases hlt : k < m
    · have k0 : (0 : Int) ≤ k := by omega
      have k1 : (k : Int) < m := by omega
      have s1 : IntKind.i64.wrap ((k : Int) + 1) = (k : Int) + 1 := IntWalk.i64_in _ (by omega)
      obtain ⟨o, ho⟩ : ∃ o, D.O[k]? = some o := ⟨D.O[k]'(by rw [HM.out]; exact hlt), List.getElem?_eq_getElem _⟩
      obtain ⟨gl, rfl, hFg, y0, y1⟩ := hln k o ho
      have hkl : k < D.O.length := by rw [HM.out]; exact hlt
      have htk : D.O.take (k + 1) = D.O.take k ++ [o] := by
        rw [List.take_succ_eq_append_getElem hkl]
        rw [List.getElem?_eq_getElem hkl] at ho
        rw [Option.some.inj ho]
      by_cases hoi : o = i
      · subst hoi
        have q1 : ((o : Int) == (o : Int)) = true := by simp
        have hnot : o ∉ D.O.take k := fun hin => by
          obtain ⟨j, hj, e⟩ := List.getElem_of_mem hin
          have hjk : j < k := by simp at hj; omega
          rw [List.getElem_take] at e
          rw [List.getElem?_eq_getElem hkl] at ho
          exact (List.pairwise_iff_getElem.1 HND.out) j k (by omega) hkl hjk (by rw [e]; exact (Option.some.inj ho).symm)
        obtain rfl := HS.out.no hnot
        have HHO := Hidden.mk ho
        have HD1 : Hidden (decide (o ∈ D'.O.take (k + 1)) = true) := ⟨decide_eq_true (by rw [htk]; simp)⟩
        unfold rowV at y1
        have hgl : ∃ cur, wr.heap[gl]? = some (.cells cur 91 (0, 0)) := by
          have hl := HS.out.dev.lin
          rw [HVL.out] at hl
          rcases hl.2 with ⟨e, _⟩ | ⟨g', cap', cur, e, _, hh, _⟩
          · cases e
          · injection e with e1
            injection e1 with e1
            injection e1 with e1
            subst e1
            exact ⟨cur, hh⟩
        have HGL := Hidden.mk hgl
        have KC1 := Hidden.mk c1
        have HY1 := Hidden.mk (And.intro y1 hFg)
        have hrdr : Rd wr.drew (some ⟨p, off, none⟩) b := HS.out.rd.drewN 1
        have HCP := Hidden.mk (refCopied_ok p off 32 c b wr.drew hb (by omega) (by omega) hrdr)
        have hdg : d ≠ gl := by obtain ⟨cur, h0⟩ := hgl; exact DevIs.ne_cells HS.out.dev.hd h0 (by decide)
        clear ho hnot htk hkl hln y1 hgl hrdr
        go_wp2_with fail
        go_region_held3 (fun W => W.cell? ⟨d, 1, none⟩ = some (.slice (some ⟨gl, 0, none⟩) m cl)) (first | exact KC1.out | exact (hb9.cell (p := ⟨d, 1, none⟩) (block_lt_of_cell KC1.out)).trans KC1.out | exact hc10)
          (first
            | (go_at_call 46; refine HCP.out.mono ?_; rintro e w9 ⟨g9, cap9, rfl, hg9, hcp9, hrow9, hb9⟩; have x9 := (hb9.cell (p := ⟨gl, k * 2 + 1, none⟩) (block_lt_of_cell HY1.out.1)).trans HY1.out.1; have f9 : w9.frozen? ⟨gl, k * 2 + 1, none⟩ = false := (by obtain ⟨cur, h0⟩ := HGL.out; exact frozen_of_row w9 gl _ cur _ ((hb9.block gl (Array.getElem?_eq_some_iff.1 h0).1).trans h0)); have hc10 : (w9.setCell ⟨gl, k * 2 + 1, none⟩ (.slice (some ⟨g9, 0, none⟩) 32 cap9)).cell? ⟨d, 1, none⟩ = some (.slice (some ⟨gl, 0, none⟩) m cl) := ((World.cell?_of_block (w := w9) (a := ⟨d, 1, none⟩) (Below.heap_setCell w9 ⟨gl, k * 2 + 1, none⟩ _ d hdg)).trans ((hb9.cell (p := ⟨d, 1, none⟩) (block_lt_of_cell KC1.out)).trans KC1.out)))
            | go_simp)
        have hb9' : Below wr.heap.size wr w9 := ((Below.refl _ wr).drew).trans hb9
        have hpg : p ≠ gl := fun e => HPV.out (by rw [← HS.out.vl, HVL.out, e]; rfl)
        have hN : RwSt w (w9.setCell ⟨gl, k * 2 + 1, none⟩ (rowV g9 cap9)) F d D' o b (k + 1) (fun q => F' q ∨ q = g9) (wrM D' o b) { Y' with mb := setAt1 Y'.mb o g9, mc := setAt1 Y'.mc o cap9 } vl0 p off := ⟨HS.out.vl, (Keep.setCell (F := fun q => q = gl) (Keep.refl _ w9) (p := ⟨gl, k * 2 + 1, none⟩) (.inl rfl) _).rd (HS.out.rd.below hb9') (fun ad e => by obtain rfl := Option.some.inj e; exact hpg), (HS.out.dev.below hb9').setLine HHO.out (by rw [HVL.out, HM.out]) hrow9 hb, (HS.out.kp.trans (Keep.of_below (F := F) hb9') (fun _ h => .inl h)).setCell (p := ⟨gl, k * 2 + 1, none⟩) (HS.out.sub gl HY1.out.2) _, fun q hq => by
          rcases hq with hq | rfl
          · exact HS.out.sub q hq
          · have := HS.out.kp.size; have : wr.drew.heap.size = wr.heap.size := rfl; omega, fun _ => rfl, fun hn => absurd (of_decide_eq_true HD1.out) hn⟩
        have HN := Hidden.mk hN
        clear hN hpg hb9' hb9 hrow9 hg9 hcp9 x9 f9 HCP HS hc10
        go_wp2_with fail
        go_roundg (m - (k + 1))
        case measure => omega
        case rel => exact ⟨k + 1, _, _, _, by omega, rfl, by rw [HD1.out], by go_num, HN⟩
      · have q1 : ((o : Int) == (i : Int)) = false := by simp; omega
        have HDE : Hidden (decide (i ∈ D.O.take k) = decide (i ∈ D.O.take (k + 1))) := ⟨decide_eq_decide.2 (by rw [htk, List.mem_append, List.mem_singleton]; exact ⟨.inl, fun h => h.elim id (fun e => absurd e.symm hoi)⟩)⟩
        have HN : Hidden (RwSt w wr F d D i b (k + 1) F' D' Y' vl0 p off) := ⟨⟨HS.out.vl, HS.out.rd, HS.out.dev, HS.out.kp, HS.out.sub, fun hin => HS.out.yes (by rw [htk, List.mem_append, List.mem_singleton] at hin; exact hin.elim id (fun e => absurd e.symm hoi)), fun hin => HS.out.no (fun h => hin (by rw [htk]; exact List.mem_append.2 (.inl h)))⟩⟩
        generalize decide (i ∈ D.O.take k) = fo at *
        clear hoi ho htk hkl hln y1 HS
        go_wp2_with fail
        go_roundg (m - (k + 1))
        case measure => omega
        case rel => exact ⟨k + 1, F', D', Y', by omega, rfl, by rw [HDE.out], by go_num, HN⟩
    · obtain rfl : k = m := by omega
      have t4 : decide ((k : Int) < k) = false := by simp
      have htk : D.O.take k = D.O := List.take_of_length_le (by rw [HM.out]; exact Nat.le_refl _)
      have HTK := Hidden.mk htk
      rw [htk]
      clear hln htk
      by_cases hin : i ∈ D.O
      · have hD' := HS.out.yes (by rw [HTK.out]; exact hin)
        have HP : Hidden (putD D i b = D') := ⟨by rw [hD']; unfold putD wrM; rw [if_pos hin]⟩
        have HSP := Hidden.mk (rdstep_any HS.out.dev (by rw [HE.out.2.2.2, HDN.out]))
        have HLF := Hidden.mk HE.out.2.2.1
        rw [decide_eq_true hin]
        have HK := Hidden.mk (And.intro HS.out.kp HS.out.sub)
        clear hD' hin HS HE
        go_wp2_with fail
        refine HSP.out.mono ?_
        rintro e w9 ⟨rfl, hd9, hk9, hs9⟩
        have HF : Hidden (RdIs w9 F' d (stepD D') Y' ∧ Keep F w w9 ∧ ∀ q, F' q → F q ∨ w.heap.size ≤ q) := ⟨hd9, HK.out.1.trans hk9 (fun q hq => HK.out.2 q hq), HK.out.2⟩
        rw [HP.out] at HR9 HR0
        clear hd9 hk9 hs9 HSP
        by_cases hl0 : D'.left = 0
        · have q0 : (D'.left == 0) = true := by simpa using hl0
          have HR := Hidden.mk (HR9.out (HLF.out ▸ hl0))
          rw [q0]
          clear hl0 q0
          go_wp2_with fail
          go_ret
          exact RwAns.mk HR.out rfl HF.out
        · have q0 : (D'.left == 0) = false := by simpa using hl0
          have HR := Hidden.mk (HR0.out (fun h => hl0 (HLF.out.trans h)))
          rw [q0]
          clear hl0 q0
          go_wp2_with fail
          go_ret
          exact RwAns.mk HR.out rfl HF.out
      · have hD' := HS.out.no (by rw [HTK.out]; exact hin)
        subst hD'
        rw [decide_eq_false hin]
        obtain ⟨i2, hi2, hx0, hx1, hx2⟩ := info_parts line_info
        have hrdr : Rd wr.drew (some ⟨p, off, none⟩) b := HS.out.rd.drewN 1
        have HCP := Hidden.mk (fun (W : World) (hW : Below wr.drew.heap.size wr.drew W) => refCopied_ok p off 32 c b W hb (by omega) (by omega) (hrdr.below hW))
        have HL := Hidden.mk HS.out.dev.lin
        rw [HVL.out, HM.out] at HL
        have HDH := Hidden.mk HS.out.dev.hd
        rw [HVL.out] at HDH
        have HIN := Hidden.mk hin
        have hfd : wr.frozen? ⟨d, 1, none⟩ = false := frozen_of_row wr d 1 _ _ HDH.out
        clear hin hrdr HE
        obtain ⟨xs, hxs⟩ : ∃ xs, lnC D'.O Y'.mb Y'.mc = xs := ⟨_, rfl⟩
        rw [hxs] at HL
        have HXS := Hidden.mk hxs
        clear hxs
        go_upto_region 15 with (fail)
        go_region_law (first
          | (refine step_append_lies _ (by rfl) _ _ _ (by rfl) 0 91 i2 _ 2 32 Tryd.underlying74 hi2 hx0 hx1 hx2 rfl (by omega) (.slice A2 k cl) k xs (by rfl) (own_below HL.out (((Below.refl _ wr).drew.trans hb9).alloc (Nat.le_trans (Nat.le_refl _) hb9.size) _)) ⟨w9.heap.size, 0, none⟩ 1 1 [.int .i64 (i : Int), .slice (some ⟨g9, 0, none⟩) 32 cap9] (by rfl) (by rfl) (World.news_of_block (cs := #[.int .i64 (i : Int), .slice (some ⟨g9, 0, none⟩) 32 cap9]) (t := 91) (fr := (0, 0)) (heap_alloc_new w9 _)) (by simp [Value.oneCell']) (by omega) (by simp only [maxLen]; omega) (by omega) (Nat.zero_le _) (w9.heap.size + 1) (by simp) ?_; intro g7 cap7 w7 hown7 hg7 hat7 hlt7; have hgG := grown_trans' (a := wr) (show Below wr.heap.size wr _ from ((Below.refl _ wr).drew.trans hb9).alloc hb9.size (.cells #[.int .i64 (i : Int), .slice (some ⟨g9, 0, none⟩) 32 cap9] 91)) hg7; have hh7 := (hgG.block d (Array.getElem?_eq_some_iff.1 HDH.out).1 (fun e => DevIs.ne_own HDH.out HL.out (by decide) e.symm)).trans HDH.out; obtain ⟨⟨e0, e1, e2, e3⟩, fe⟩ := fourF hh7; have fe1 := fe 1)
          | (go_simp; go_at_call 46; refine (HCP.out _ (by exact Below.refl _ _)).mono ?_; rintro e w9 ⟨g9, cap9, rfl, hg9, hcp9, hrow9, hb9⟩; have hc9 := (hb9.cell (p := ⟨d, 1, none⟩) (block_lt_of_cell c1)).trans c1; have hc9a := (((Below.refl w9.heap.size w9).alloc (Nat.le_refl _) (.cells #[.int .i64 (i : Int), .slice (some ⟨g9, 0, none⟩) 32 cap9] 91)).cell (p := ⟨d, 1, none⟩) (block_lt_of_cell hc9)).trans hc9))
        all_goals
          have hal : Below w9.heap.size w9 (w9.alloc (.cells #[.int .i64 (i : Int), .slice (some ⟨g9, 0, none⟩) 32 cap9] 91)) := (Below.refl _ _).alloc (Nat.le_refl _) _
          have hs9 : wr.heap.size ≤ w9.heap.size := hb9.size
          have hg9' : wr.heap.size ≤ g9 := hg9
          have hne9 : (Value.slice A2 k cl).ownBlock ≠ some g9 := fun e => by have := (HL.out.lt _ e).2; omega
          have hr7 : Row w7 5 g9 cap9 b := by
            obtain ⟨cur, h0, h1⟩ := hrow9.below hal hrow9.lt
            exact ⟨cur, (hg7.block g9 (Array.getElem?_eq_some_iff.1 h0).1 (fun e => hne9 e.symm)).trans h0, h1⟩
          have hadd := HS.out.dev.added (w8 := w7) (v8 := .slice (some ⟨g7, 0, none⟩) (k + 1) cap7) HIN.out hi hr7 hb hg9' (by rw [HXS.out, HM.out]; exact hown7) (by rw [HVL.out]; exact hgG) (fun q hq => by
            rw [HVL.out]
            obtain rfl : g7 = q := by simpa [Value.ownBlock] using hq
            rcases hat7 with h' | h'
            · exact .inl h'
            · exact .inr (by omega))
          have HA := Hidden.mk hadd
          have HK := Hidden.mk (And.intro HS.out.kp HS.out.sub)
          clear hadd hr7 hne9 hal hown7 hg7 hat7 hlt7 hgG hh7 e0 e1 e2 e3 fe fe1 hrow9 hb9 hc9 hc9a hg9 hg9' HCP HS HL HDH
          have HSP := Hidden.mk (rdstep_any HA.out.1 HDN.out)
          go_wp2_with fail
          refine HSP.out.mono ?_
          rintro e w8 ⟨rfl, hd8, hk8, hs8⟩
          have HF := Hidden.mk (And.intro hd8 (And.intro ((HK.out.1.trans HA.out.2 (fun q hq => HK.out.2 q hq)).trans hk8 (fun q hq => by
            rcases hq.1 with h | h
            · exact HK.out.2 q h
            · exact .inr (Nat.le_trans HK.out.1.size h))) (show ∀ q, growF F' wr w7 q → F q ∨ w.heap.size ≤ q from fun q hq => by
            rcases hq.1 with h | h
            · exact HK.out.2 q h
            · exact .inr (Nat.le_trans HK.out.1.size h))))
          clear hd8 hk8 hs8 HSP HA
          by_cases hl0 : D'.left = 0
          · have q0 : ((putD D' i b).left == 0) = true := by show (D'.left == 0) = true; simpa using hl0
            have HR := Hidden.mk (HR9.out hl0)
            rw [q0]
            clear hl0 q0
            go_wp2_with fail
            go_ret
            exact RwAns.mk HR.out rfl HF.out
          · have q0 : ((putD D' i b).left == 0) = false := by show (D'.left == 0) = false; simpa using hl0
            have HR := Hidden.mk (HR0.out hl0)
            rw [q0]
            clear hl0 q0
            go_wp2_with fail
            go_ret
            exact RwAns.mk HR.out rfl HF.out
end
end Go.Proofs.YtbnobjlphmkgeaaDoor
/- The reference's device: Flush. -/
namespace Go.Proofs.YtbnobjlphmkgeaaDoor
open Go.RowKit Go.Maps Go.ChangeMaps

section
variable {w w' : World} {F F' : Nat → Prop} {d : Nat} {D : Dv} {Y : RLay}
/-- a sector is another row -/
theorem RdIs.setS (h : RdIs w F d D Y) {o g c : Nat} {b : Bytes} (ho : o < D.S.length) (hr : Row w 5 g c b) (hb : b.length = 32) (hF : ∀ q, F q → F' q) (hg : F' g) (hl : ∀ q, F' q → q < w.heap.size) :
    RdIs (w.setCell ⟨Y.gs, o, none⟩ (rowV g c)) F' d { D with S := D.S.set o b } { Y with sb := setAt1 Y.sb o g, sc := setAt1 Y.sc o c } := by
  obtain ⟨cur, hcur, hcs, hcu⟩ := h.sec
  have hoth : ∀ q, q ≠ Y.gs → (w.setCell ⟨Y.gs, o, none⟩ (rowV g c)).heap[q]? = w.heap[q]? := fun q hq => Below.heap_setCell _ _ _ _ hq
  have hro : ∀ {q c' : Nat} {l : Bytes}, Row w 5 q c' l → Row (w.setCell ⟨Y.gs, o, none⟩ (rowV g c)) 5 q c' l := fun {q c' l} hr => hr.block (hoth q (DevIs.ne_row hcur hr (by decide)).symm)
  have hlen : (D.S.set o b).length = D.S.length := by simp
  refine { hd := ?_, sec := ?_, cap := by rw [hlen]; exact h.cap, row := fun i hi => ?_, lin := ?_, mrow := fun i hi => ?_, nd := h.nd, n0 := by rw [hlen]; exact h.n0, n1 := by rw [hlen]; exact h.n1, l0 := h.l0, l1 := h.l1, fd := hF _ h.fd, fs := hF _ h.fs, fo := fun q hq => hF _ (h.fo q hq), fr := fun i hi => ?_, fb := fun i hi => hF _ (h.fb i hi), flt := fun q hq => by simpa using hl q hq }
  · rw [hlen]; exact (hoth d (DevIs.ne_cells h.hd hcur (by decide))).trans h.hd
  · refine ⟨_, heap_setK hcur (rowV g c), by simpa using hcs, fun i hi => ?_⟩
    rw [hlen] at hi
    rw [Array.getElem?_setIfInBounds]
    show _ = some (rowV (setAt1 Y.sb o g i) (setAt1 Y.sc o c i))
    unfold setAt1
    by_cases hio : o = i
    · subst hio
      have : o < cur.size := by rw [hcs]; exact Nat.lt_of_lt_of_le ho h.cap
      simp [this]
    · rw [if_neg hio, if_neg (fun e => hio e.symm), if_neg (fun e => hio e.symm)]
      exact hcu i hi
  · rw [hlen] at hi
    show Row _ 5 (setAt1 Y.sb o g i) (setAt1 Y.sc o c i) ((D.S.set o b)[i]'_) ∧ _
    unfold setAt1
    by_cases hio : o = i
    · subst hio
      rw [if_pos rfl, if_pos rfl, List.getElem_set_self]
      exact ⟨hro hr, hb⟩
    · rw [if_neg (fun e => hio e.symm), if_neg (fun e => hio e.symm), List.getElem_set_ne hio]
      exact ⟨hro (h.row i hi).1, (h.row i hi).2⟩
  · exact ownsRow_block h.lin fun q hq => hoth q (fun e => DevIs.ne_own hcur h.lin (by decide) (by rw [hq, e]))
  · rw [hlen]
    exact ⟨hro (h.mrow i hi).1, (h.mrow i hi).2⟩
  · rw [hlen] at hi
    show F' (setAt1 Y.sb o g i)
    unfold setAt1
    by_cases hio : i = o
    · rw [if_pos hio]; exact hg
    · rw [if_neg hio]; exact hF _ (h.fr i hi)
theorem RdIs.noLines (h : RdIs w F d D Y) : RdIs (w.setCell ⟨d, 1, none⟩ (.slice none 0 0)) F d { D with O := [] } { Y with vl := .slice none 0 0 } := by
  have hoth : ∀ q, q ≠ d → (w.setCell ⟨d, 1, none⟩ (.slice none 0 0)).heap[q]? = w.heap[q]? := fun q hq => Below.heap_setCell _ _ _ _ hq
  refine { hd := ?_, sec := ?_, cap := h.cap, row := fun i hi => ⟨(h.row i hi).1.block (hoth _ (DevIs.ne_row h.hd (h.row i hi).1 (by decide)).symm), (h.row i hi).2⟩, lin := World.ownsRow_nil _ _ _ _, mrow := (fun i hi => by cases hi), nd := List.nodup_nil, n0 := h.n0, n1 := h.n1, l0 := h.l0, l1 := h.l1, fd := h.fd, fs := h.fs, fo := (fun q hq => by simp [Value.ownBlock] at hq), fr := h.fr, fb := (fun i hi => by cases hi), flt := fun q hq => by simpa using h.flt q hq }
  · rw [heap_set5 h.hd]; rfl
  · obtain ⟨cur, h0, h1⟩ := h.sec
    exact ⟨cur, (hoth _ (DevIs.ne_cells h.hd h0 (by decide)).symm).trans h0, h1⟩
end
/-- so many sectors are flushed -/
def flS (D : Dv) : Nat → List Bytes
  | 0 => D.S
  | k + 1 => (flS D k).set (D.O.getD k 0) (D.M (D.O.getD k 0))
theorem flS_len (D : Dv) : ∀ k, (flS D k).length = D.S.length
  | 0 => rfl
  | k + 1 => by simp [flS, flS_len D k]
theorem flS_at (D : Dv) (i : Nat) (hi : i < D.S.length) : ∀ k, k ≤ D.O.length → (flS D k)[i]? = if i ∈ D.O.take k then some (D.M i) else D.S[i]?
  | 0, _ => by simp [flS]
  | k + 1, hk => by
    have hkl : k < D.O.length := by omega
    have ih := flS_at D i hi k (by omega)
    have hg : D.O.getD k 0 = D.O[k] := by rw [List.getD_eq_getElem?_getD, List.getElem?_eq_getElem hkl]; rfl
    rw [flS, hg, List.getElem?_set, flS_len, List.take_succ_eq_append_getElem hkl]
    by_cases hoi : D.O[k] = i
    · rw [if_pos hoi, if_pos (by rw [hoi]; exact hi), if_pos (List.mem_append.2 (.inr (by simp [hoi]))), hoi]
    · rw [if_neg hoi, ih]
      by_cases hin : i ∈ D.O.take k
      · rw [if_pos hin, if_pos (List.mem_append.2 (.inl hin))]
      · rw [if_neg hin, if_neg (fun h => (List.mem_append.1 h).elim hin (fun h => hoi (List.mem_singleton.1 h).symm))]
theorem flS_all (D : Dv) : flushD D = { { D with S := flS D D.O.length } with O := [] } := by
  unfold flushD
  have : (List.range D.S.length).map (readD D) = flS D D.O.length := by
    apply List.ext_getElem?
    intro i
    by_cases hi : i < D.S.length
    · rw [flS_at D i hi D.O.length (Nat.le_refl _), List.take_length, List.getElem?_map, List.getElem?_range hi]
      show some (readD D i) = _
      unfold readD
      by_cases ho : i ∈ D.O
      · rw [if_pos ho, if_pos ho]
      · rw [if_neg ho, if_neg ho, List.getD_eq_getElem?_getD, List.getElem?_eq_getElem hi]; rfl
    · rw [List.getElem?_eq_none (by simp; omega), List.getElem?_eq_none (by rw [flS_len]; omega)]
  rw [this]
section
variable {w : World} {F : Nat → Prop} {d : Nat} {D : Dv} {Y : RLay}
structure FlSt (w wr : World) (F : Nat → Prop) (d : Nat) (D : Dv) (k : Nat) (Y' : RLay) : Prop where
  dev : RdIs wr F d { D with S := flS D k } Y'
  kp : Keep F w wr
set_option maxRecDepth 100000 in
theorem rflush_any (h : RdIs w F d D Y) :
    Calls Tryd.prog 37 #[.pointer (some ⟨d, 0, none⟩)] w (RwAns w F d (flD D)) := by
  obtain ⟨⟨c0, c1, c2, c3⟩, ff⟩ := fourF h.hd
  cases hdn : D.down with
  | true =>
    have e : flD D = (D, 9) := by unfold flD; rw [if_pos hdn]
    rw [e]
    rw [hdn] at c3
    have HH := Hidden.mk h
    clear h ff e hdn
    go_enter Tryd.func37, Tryd.ntmps37
    go_wp2_with fail
    go_ret
    exact RwAns.mk rfl rfl ⟨HH.out, Keep.refl _ _, fun _ hq => .inl hq⟩
  | false =>
    rw [hdn] at c3
    have HS := Hidden.mk (rdstep_any h hdn)
    by_cases hl : D.left = 0
    · have e : flD D = (stepD D, 9) := by unfold flD; rw [if_neg (by rw [hdn]; decide), if_pos hl]
      rw [e]
      have q0 : (D.left == 0) = true := by simpa using hl
      rw [q0] at HS
      clear h ff e hdn hl q0
      go_enter Tryd.func37, Tryd.ntmps37
      go_wp2_with fail
      refine HS.out.mono ?_
      rintro e w1 ⟨rfl, hd1, hk1, hs1⟩
      have HF := Hidden.mk (And.intro hd1 hk1)
      clear hd1 hk1 hs1 HS
      go_wp2_with fail
      go_ret
      exact RwAns.mk rfl rfl ⟨HF.out.1, HF.out.2, fun _ hq => .inl hq⟩
    · have e : flD D = (flushD (stepD D), 0) := by unfold flD; rw [if_neg (by rw [hdn]; decide), if_neg hl]
      rw [e]
      have q0 : (D.left == 0) = false := by simpa using hl
      rw [q0] at HS
      clear h ff e hdn hl q0
      have HFS := Hidden.mk (flS_all (stepD D))
      rw [HFS.out]
      generalize stepD D = D1 at *
      clear HFS
      go_enter Tryd.func37, Tryd.ntmps37
      go_wp2_with fail
      refine HS.out.mono ?_
      rintro e w1 ⟨rfl, hd1, hk1, hs1⟩
      have HST : Hidden (FlSt w w1 F d D1 0 Y) := ⟨⟨hd1, hk1⟩⟩
      obtain ⟨m, hm⟩ : ∃ m, D1.O.length = m := ⟨_, rfl⟩
      have hm3 := hd1.ord_le
      rw [hm] at hm3
      rw [hm]
      have HM := Hidden.mk hm
      have HO := Hidden.mk (show ∀ o ∈ D1.O, o < D1.S.length from fun o ho => (hd1.mrow o ho).2.2)
      have hn1 := hd1.n1
      clear hd1 hk1 hs1 HS hm c0 c1 c2 c3
      go_wp2_with fail
      go_loopg [4] m (fun r kv wr => ∃ (k : Nat) (Y' : RLay), k ≤ m ∧ r = m - k ∧ kv = .int .i64 (k : Int) ∧ Hidden (FlSt w wr F d D1 k Y'))
      case atStart => exact ⟨0, Y, by omega, rfl, rfl, HST⟩
      case round =>
        obtain ⟨k, Y', hk, rfl, rfl, hs⟩ := hrel
        have HX := Hidden.mk hs.out
        clear hs HST
        obtain ⟨⟨c0, c1, c2, c3⟩, ff⟩ := fourF HX.out.dev.hd
        obtain ⟨A2, cl, hvl, hcl, hln⟩ := HX.out.dev.lines
        obtain ⟨cur, hcur, hcs, hcu⟩ := HX.out.dev.sec
        rw [show ({ D1 with S := flS D1 k } : Dv).O = D1.O from rfl] at hvl hcl hln
        rw [HM.out] at hvl hcl
        rw [hvl] at c1
        rw [show ({ D1 with S := flS D1 k } : Dv).S = flS D1 k from rfl] at c0 hcu
        rw [flS_len] at c0 hcu
        clear c2 c3 hvl
        by_cases hlt : k < m
        · have k0 : (0 : Int) ≤ k := by omega
          have k1 : (k : Int) < m := by omega
          have s1 : IntKind.i64.wrap ((k : Int) + 1) = (k : Int) + 1 := IntWalk.i64_in _ (by omega)
          obtain ⟨o, ho⟩ : ∃ o, D1.O[k]? = some o := ⟨D1.O[k]'(by rw [HM.out]; exact hlt), List.getElem?_eq_getElem _⟩
          obtain ⟨gl, rfl, hFg, y0, y1⟩ := hln k o ho
          have hol := HO.out o (List.mem_of_getElem? ho)
          have o0 : (0 : Int) ≤ o := by omega
          have o1 : (o : Int) < D1.S.length := by omega
          have z0 : wr.drew.cell? ⟨Y'.gs, o, none⟩ = some (rowV (Y'.sb o) (Y'.sc o)) := by rw [show wr.drew.cell? ⟨Y'.gs, o, none⟩ = wr.cell? ⟨Y'.gs, o, none⟩ from rfl, cell_of_row wr Y'.gs o cur _ _ hcur]; exact hcu o hol
          have z1 : wr.drew.frozen? ⟨Y'.gs, o, none⟩ = false := frozen_of_row wr Y'.gs o cur _ hcur
          have hmr := HX.out.dev.mrow o (List.mem_of_getElem? ho)
          have hset := (HX.out.dev.below ((Below.refl _ wr).drew)).setS (F' := F) (o := o) (by show o < (flS D1 k).length; rw [flS_len]; exact hol) hmr.1 hmr.2.1 (fun _ h => h) (HX.out.dev.fb o (List.mem_of_getElem? ho)) HX.out.dev.flt
          have hgo : D1.O.getD k 0 = o := by rw [List.getD_eq_getElem?_getD, ho]; rfl
          have hnx : ({ ({ D1 with S := flS D1 k } : Dv) with S := (flS D1 k).set o (D1.M o) } : Dv) = { D1 with S := flS D1 (k + 1) } := by rw [flS, hgo]
          rw [hnx] at hset
          have HN : Hidden (∃ Y'', FlSt w (wr.drew.setCell ⟨Y'.gs, o, none⟩ (rowV (Y'.mb o) (Y'.mc o))) F d D1 (k + 1) Y'') := ⟨⟨_, ⟨hset, (HX.out.kp.drewN 1).setCell (.inl HX.out.dev.fs) _⟩⟩⟩
          unfold rowV at y1 z0 HN
          clear hln hcl hcur hcs hcu ff ho hol hmr hset hgo hnx HX
          go_upto_region 9 with (fail)
          go_still_tail 21, (by kernel_rfl)
          change wpList _ _ _ _ _ wr.drew
          clear c0 c1 y0 y1
          generalize wr.drew = wd at *
          go_wp2_with fail
          go_roundg (m - (k + 1))
          case measure => omega
          case rel =>
            obtain ⟨Y'', h⟩ := HN.out
            exact ⟨k + 1, Y'', by omega, rfl, by go_num, ⟨h⟩⟩
        · obtain rfl : k = m := by omega
          have t4 : decide ((k : Int) < k) = false := by simp
          have f1 := ff 1
          have hno := HX.out.dev.noLines
          have HF := Hidden.mk (And.intro hno (HX.out.kp.setCell (p := ⟨d, 1, none⟩) (.inl HX.out.dev.fd) (.slice none 0 0)))
          clear hln hcl hcur hcs hcu ff hno HX
          go_wp2_with fail
          go_ret
          exact RwAns.mk (by rw [HM.out]) rfl ⟨HF.out.1, HF.out.2, fun _ hq => .inl hq⟩
end
end Go.Proofs.YtbnobjlphmkgeaaDoor
/- The reference's device: NewDevice. -/
namespace Go.Proofs.YtbnobjlphmkgeaaDoor
open Go.RowKit Go.Maps Go.ChangeMaps

structure RnSt (w wr : World) (d k : Nat) (v : Value) (sb : Nat → Nat) : Prop where
  hd : wr.heap[d]? = some (.cells #[v, .slice none 0 0, .int .i64 (-1), .bool false] 76 (0, 0))
  own : wr.ownsRow w.heap.size 41 1 v k ((List.range k).map fun i => rowV (sb i) 32)
  row : ∀ i, i < k → w.heap.size ≤ sb i ∧ Row wr 5 (sb i) 32 (List.replicate 32 0)
  bel : Below w.heap.size w wr
  gd : w.heap.size ≤ d
theorem RnSt.dev {w wr : World} {d n : Nat} {v : Value} {sb : Nat → Nat} (h : RnSt w wr d n v sb) (h1 : 1 ≤ n) (h3 : n ≤ 300) :
    ∃ F Y, RdIs wr F d (newD n) Y ∧ ∀ k, F k → w.heap.size ≤ k := by
  obtain ⟨g, cap, cur, hv, hg, hgh, hnc, hcm, hcs, hct⟩ : ∃ g cap cur, v = .slice (some ⟨g, 0, none⟩) n cap ∧ w.heap.size ≤ g ∧ wr.heap[g]? = some (.cells cur 41 (0, 0)) ∧ n ≤ cap ∧ cap ≤ maxLen ∧ cur.size = cap * 1 ∧ cur.toList.take (n * 1) = (List.range n).map fun i => rowV (sb i) 32 := by
    rcases h.own.2 with ⟨_, h0⟩ | h'
    · omega
    · exact h'
  subst hv
  have hlen : (newD n).S.length = n := by simp [newD]
  refine ⟨fun k => w.heap.size ≤ k ∧ k < wr.heap.size, ⟨g, cap, .slice none 0 0, sb, fun _ => 32, fun _ => 0, fun _ => 0⟩, ?_, fun k hk => hk.1⟩
  refine { hd := by rw [hlen]; exact h.hd, sec := ⟨cur, hgh, by simpa using hcs, fun i hi => ?_⟩, cap := by rw [hlen]; exact hnc, row := fun i hi => ?_, lin := World.ownsRow_nil _ _ _ _, mrow := fun i hi => by simp [newD] at hi, nd := List.nodup_nil, n0 := by rw [hlen]; exact h1, n1 := by rw [hlen]; exact h3, l0 := by simp [newD], l1 := by simp [newD], fd := ⟨h.gd, (Array.getElem?_eq_some_iff.1 h.hd).1⟩, fs := ⟨hg, (Array.getElem?_eq_some_iff.1 hgh).1⟩, fo := fun q hq => by simp [Value.ownBlock] at hq, fr := fun i hi => ?_, fb := fun i hi => by simp [newD] at hi, flt := fun q hq => hq.2 }
  · rw [hlen] at hi
    have : (cur.toList.take (n * 1))[i]? = some (rowV (sb i) 32) := by rw [hct]; simp [hi]
    rw [List.getElem?_take, if_pos (by omega)] at this
    simpa using this
  · rw [hlen] at hi
    have : (newD n).S[i] = List.replicate 32 0 := by simp [newD]
    rw [this]
    exact ⟨(h.row i hi).2, by simp⟩
  · rw [hlen] at hi
    exact ⟨(h.row i hi).1, (h.row i hi).2.lt⟩
theorem RnSt.next {w wr w6 w7 : World} {d k g7 cap7 : Nat} {v : Value} {sb : Nat → Nat} (h : RnSt w wr d k v sb) (hrz : Row w6 5 wr.heap.size 32 (List.replicate 32 0)) (hg6 : w6.drew.grownBy w7 v.ownBlock)
    (hown7 : w7.ownsRow w.heap.size 41 1 (.slice (some ⟨g7, 0, none⟩) (k + 1) cap7) (k + 1) (((List.range k).map fun i => rowV (sb i) 32) ++ [.slice (some ⟨wr.heap.size, 0, none⟩) 32 32])) (hgG : wr.grownBy w7 v.ownBlock) (hat : v.ownBlock = some g7 ∨ g7 = wr.heap.size + 2) :
    RnSt w (w7.setCell ⟨d, 0, none⟩ (.slice (some ⟨g7, 0, none⟩) (k + 1) cap7)) d (k + 1) (.slice (some ⟨g7, 0, none⟩) (k + 1) cap7) (fun i => if i = k then wr.heap.size else sb i) := by
  have hdl := (Array.getElem?_eq_some_iff.1 h.hd).1
  have hno := DevIs.ne_own h.hd h.own (by decide)
  have hh7 := (hgG.block d hdl (fun e => hno e.symm)).trans h.hd
  have hgd : g7 ≠ d := by
    rcases hat with h' | h'
    · exact fun e => hno (e ▸ h')
    · omega
  have hb : ∀ q, q < wr.heap.size → q ≠ d → v.ownBlock ≠ some q → (w7.setCell ⟨d, 0, none⟩ (.slice (some ⟨g7, 0, none⟩) (k + 1) cap7)).heap[q]? = wr.heap[q]? := fun q hq hqd hqv =>
    (Below.heap_setCell _ _ _ q hqd).trans (hgG.block q hq (fun e => hqv e.symm))
  have hrow : ∀ {q : Nat} {l : Bytes}, Row wr 5 q 32 l → Row (w7.setCell ⟨d, 0, none⟩ (.slice (some ⟨g7, 0, none⟩) (k + 1) cap7)) 5 q 32 l := fun {q l} hr => by
    obtain ⟨cur, h0, _⟩ := id hr
    exact hr.block (hb q hr.lt (DevIs.ne_row h.hd hr (by decide)).symm (DevIs.ne_own h0 h.own (by decide)))
  refine ⟨heap_set5 hh7 _, ?_, fun i hi => ?_, ?_, h.gd⟩
  · have := ownsRow_block (w' := w7.setCell ⟨d, 0, none⟩ (.slice (some ⟨g7, 0, none⟩) (k + 1) cap7)) hown7 (fun q hq => Below.heap_setCell _ _ _ _ (by
      have : g7 = q := by simpa [Value.ownBlock] using hq
      rw [← this]; exact hgd))
    have hl : (List.range (k + 1)).map (fun i => rowV (if i = k then wr.heap.size else sb i) 32) = ((List.range k).map fun i => rowV (sb i) 32) ++ [.slice (some ⟨wr.heap.size, 0, none⟩) 32 32] := by
      rw [List.range_succ, List.map_append]
      congr 1
      · apply List.map_congr_left
        intro i hi
        have : i ≠ k := by have := List.mem_range.1 hi; omega
        rw [if_neg this]
      · simp [rowV]
    rw [hl]
    exact this
  · by_cases hik : i = k
    · simp only [hik, if_true]
      refine ⟨h.bel.size, hrz.block ((Below.heap_setCell _ _ _ _ (show wr.heap.size ≠ d by omega)).trans (hg6.block _ hrz.lt (fun e => ?_)))⟩
      have := (h.own.lt _ e.symm).2
      omega
    · simp only [if_neg hik]
      exact ⟨(h.row i (by omega)).1, hrow (h.row i (by omega)).2⟩
  · exact (h.bel.grown hgG h.bel.size (fun q hq => (h.own.lt q hq).1)).setCell (p := ⟨d, 0, none⟩) h.gd _
set_option maxRecDepth 100000 in
theorem rnew_ok (n : Nat) (w : World) (h1 : 1 ≤ n) (h3 : n ≤ 300) :
    Calls Tryd.prog 6 #[.int .i64 (n : Int)] w fun e w' => ∃ d F Y, e = .returned (.pointer (some ⟨d, 0, none⟩)) ∧ RdIs w' F d (newD n) Y ∧ (∀ k, F k → w.heap.size ≤ k) ∧ Below w.heap.size w w' := by
  obtain ⟨i2, hi2, hx0, hx1, hx2⟩ := info_parts list_info
  have hB0 := (Below.refl w.heap.size w).alloc (Nat.le_refl _) (.cells #[.slice none 0 0, .slice none 0 0, .int .i64 (-1), .bool false] 76)
  have hst0 : RnSt w (w.alloc (.cells #[.slice none 0 0, .slice none 0 0, .int .i64 (-1), .bool false] 76)) w.heap.size 0 (.slice none 0 0) (fun _ => 0) :=
    ⟨heap_alloc_new w _, World.ownsRow_nil _ _ _ _, fun i hi => by omega, hB0, Nat.le_refl _⟩
  have H0 := Hidden.mk hst0
  clear hst0 hB0
  go_enter Tryd.func6, Tryd.ntmps6
  go_wp2_with fail
  generalize hdd : w.heap.size = d at *
  generalize w.alloc (.cells #[.slice none 0 0, .slice none 0 0, .int .i64 (-1), .bool false] 76) = w2 at *
  have HDD := Hidden.mk hdd
  clear hdd
  go_loopg [4] n (fun m i wr => ∃ (k : Nat) (v : Value) (sb : Nat → Nat), k ≤ n ∧ m = n - k ∧ i = .int .i64 (k : Int) ∧ RnSt w wr d k v sb)
  case atStart => exact ⟨0, _, _, by omega, rfl, rfl, H0.out⟩
  case round =>
    obtain ⟨k, v, sb, hk, rfl, rfl, hst⟩ := hrel
    by_cases hlt : k < n
    · obtain ⟨⟨c0, c1, c2, c3⟩, ff⟩ := fourF hst.hd
      have f0 := ff 0
      have hdl := (Array.getElem?_eq_some_iff.1 hst.hd).1
      have hmk := fun W => mk_bytes 32 32 rfl (by omega) W
      have HS := Hidden.mk hst
      have HOWN := Hidden.mk hst.own
      have s1 : IntKind.i64.wrap ((k : Int) + 1) = (k : Int) + 1 := IntWalk.i64_in _ (by omega)
      clear hst ff H0
      go_wp2_with fail
      have hal : Below wr.heap.size wr ((wr.alloc (.cells (zeroRow 32) 5)).alloc (.cells #[.slice (some ⟨wr.heap.size, 0, none⟩) 32 32] 41)) := ((Below.refl _ _).alloc (Nat.le_refl _) _).alloc (by simp) _
      have hnb : ((wr.alloc (.cells (zeroRow 32) 5)).alloc (.cells #[.slice (some ⟨wr.heap.size, 0, none⟩) 32 32] 41)).drew.heap[wr.heap.size + 1]? = some (.cells #[.slice (some ⟨wr.heap.size, 0, none⟩) 32 32] 41) := by
        have := heap_alloc_new (wr.alloc (.cells (zeroRow 32) 5)) (.cells #[.slice (some ⟨wr.heap.size, 0, none⟩) 32 32] 41)
        rwa [World.size_alloc] at this
      have hrz : Row ((wr.alloc (.cells (zeroRow 32) 5)).alloc (.cells #[.slice (some ⟨wr.heap.size, 0, none⟩) 32 32] 41)) 5 wr.heap.size 32 (List.replicate 32 0) := (row_zeros wr 32 (by simp [maxLen])).block (Below.heap_alloc _ _ _ (by simp))
      have HAL := Hidden.mk hal
      have HNB := Hidden.mk hnb
      have HRZ := Hidden.mk hrz
      clear hal hnb hrz
      go_region_law (refine step_append_lies _ (by rfl) _ _ _ (by rfl) w.heap.size 41 i2 _ 1 24 Tryd.underlying71 hi2 hx0 hx1 hx2 rfl (by omega) v k _ (by rfl) (own_below HOWN.out HAL.out.drew) ⟨wr.heap.size + 1, 0, none⟩ 1 1 [.slice (some ⟨wr.heap.size, 0, none⟩) 32 32] (by rfl) (by rfl) (World.news_of_block (cs := #[.slice (some ⟨wr.heap.size, 0, none⟩) 32 32]) (t := 41) (fr := (0, 0)) HNB.out) (by simp [Value.oneCell']) (by omega) (by simp only [maxLen]; omega) (by omega) (by have := HS.out.bel.size; simp; omega) (wr.heap.size + 2) (by simp) ?_; intro g7 cap7 w7 hown7 hg7 hat7 hlt7; have hgG := grown_trans' HAL.out.drew hg7; have hh7 := (hgG.block d hdl (fun e => DevIs.ne_own HS.out.hd HOWN.out (by decide) e.symm)).trans HS.out.hd; obtain ⟨⟨e0, e1, e2, e3⟩, fe⟩ := fourF hh7; have fe0 := fe 0)
      all_goals
        have HNX := Hidden.mk (HS.out.next HRZ.out hg7 hown7 hgG hat7)
        clear hown7 hg7 hat7 hlt7 hgG hh7 e0 e1 e2 e3 fe fe0
        go_wp2_with fail
        go_roundg (n - (k + 1))
        case measure => omega
        case rel => exact ⟨k + 1, _, _, by omega, rfl, by go_num, HNX.out⟩
    · obtain rfl : k = n := by omega
      have t4 : decide ((k : Int) < k) = false := by simp
      obtain ⟨F, Y, hdev, hF⟩ := hst.dev h1 h3
      have HB := Hidden.mk hst.bel
      have H := Hidden.mk (And.intro hdev hF)
      clear hst hdev hF H0
      go_wp2_with fail
      go_ret
      exact ⟨d, F, Y, rfl, H.out.1, H.out.2, HB.out⟩
end Go.Proofs.YtbnobjlphmkgeaaDoor
/- The reference's device: Crash. -/
namespace Go.Proofs.YtbnobjlphmkgeaaDoor
open Go.RowKit Go.Maps Go.ChangeMaps

theorem getD_of {O : List Nat} {k o : Nat} (h : O[k]? = some o) : O.getD k 0 = o := by rw [List.getD_eq_getElem?_getD, h]; rfl
theorem crashS_cur {D : Dv} {keep : List Bool} {torn : Int} {c k o : Nat} (hn : D.O.Nodup) (ho : D.O[k]? = some o) : (crashS D keep torn c k)[o]? = D.S[o]? :=
  crashS_old D keep torn c o k fun j hj e => by
    have hkl := (List.getElem?_eq_some_iff.1 ho).1
    have hjl : j < D.O.length := by omega
    rw [List.getD_eq_getElem?_getD, List.getElem?_eq_getElem hjl] at e
    have e2 := (List.getElem?_eq_some_iff.1 ho).2
    exact (List.pairwise_iff_getElem.1 hn) j k hjl hkl hj ((show D.O[j] = o from e).trans e2.symm)
section
variable {w : World} {F : Nat → Prop} {d : Nat} {D : Dv} {Y : RLay}
structure RcSt (w wr : World) (F : Nat → Prop) (d : Nat) (D : Dv) (S : List Bytes) (F' : Nat → Prop) (Y' : RLay) : Prop where
  dev : RdIs wr F' d { D with S := S } Y'
  kp : Keep F w wr
  sub : ∀ q, F' q → F q ∨ w.heap.size ≤ q
theorem RcSt.below {w wr w' : World} {F F' : Nat → Prop} {S : List Bytes} {Y' : RLay} (h : RcSt w wr F d D S F' Y') (hb : Below wr.heap.size wr w') : RcSt w w' F d D S F' Y' :=
  ⟨h.dev.below hb, h.kp.trans (Keep.of_below (F := F) hb) (fun _ h => .inl h), h.sub⟩
/-- a sector is set -/
theorem RcSt.put {w wr : World} {F F' F2 : Nat → Prop} {S : List Bytes} {Y' : RLay} {o g c : Nat} {b : Bytes} (h : RcSt w wr F d D S F' Y') (ho : o < S.length) (hr : Row wr 5 g c b) (hb : b.length = 32) (hF : ∀ q, F' q → F2 q) (hg : F2 g) (hl : ∀ q, F2 q → q < wr.heap.size) (hs : ∀ q, F2 q → F q ∨ w.heap.size ≤ q) :
    RcSt w (wr.setCell ⟨Y'.gs, o, none⟩ (rowV g c)) F d D (S.set o b) F2 { Y' with sb := setAt1 Y'.sb o g, sc := setAt1 Y'.sc o c } :=
  ⟨h.dev.setS ho hr hb hF hg hl, h.kp.setCell (h.sub _ h.dev.fs) _, hs⟩
set_option maxRecDepth 100000 in
set_option maxHeartbeats 1000000 in
theorem rcrash_any (A : Option Addr) (nk ck : Nat) (keep : List Bool) (torn cut : Int) (h : RdIs w F d D Y) (hn : keep.length = nk) (hrd : RdB w A keep) (hA : 0 < nk → ∀ ad, A = some ad → ¬ F ad.block) :
    Calls Tryd.prog 15 #[.pointer (some ⟨d, 0, none⟩), .slice A nk ck, .int .i64 torn, .int .i64 cut] w (RwAns w F d (crashD D keep torn (min 32 (max 0 cut)).toNat, D.O.length)) := by
  obtain ⟨⟨c0, c1, c2, c3⟩, -⟩ := fourF h.hd
  obtain ⟨A1, cl, hvl, hcl, -⟩ := h.lines
  obtain ⟨m, hm⟩ : ∃ m, D.O.length = m := ⟨_, rfl⟩
  have hm3 := h.ord_le
  have hn1 := h.n1
  rw [hm] at hm3
  rw [hvl, hm] at c1
  rw [hm]
  obtain ⟨cn, hcn⟩ : ∃ cn, (min 32 (max 0 cut)).toNat = cn := ⟨_, rfl⟩
  rw [hcn]
  have hc32 : cn ≤ 32 := by omega
  have hcj : ∀ j : Nat, (j < 32 ∧ (j : Int) < cut) ↔ j < cn := fun j => by omega
  have HCJ := Hidden.mk hcj
  have HM := Hidden.mk hm
  have HND := Hidden.mk h.nd
  have HST : Hidden (RcSt w w F d D (crashS D keep torn cn 0) F Y) := ⟨⟨h, Keep.refl _ _, fun _ hq => .inl hq⟩⟩
  have HKP := Hidden.mk (And.intro hn (And.intro hrd hA))
  have HO := Hidden.mk (show ∀ o ∈ D.O, o < D.S.length ∧ (D.M o).length = 32 ∧ (D.S.getD o []).length = 32 from fun o ho => by
    obtain ⟨a, b, c⟩ := h.mrow o ho
    refine ⟨c, b, ?_⟩
    rw [List.getD_eq_getElem?_getD, List.getElem?_eq_getElem c]
    exact (h.row o c).2)
  clear h hvl hcl hm hcn hcj hn hrd hA c0 c2 c3
  go_enter Tryd.func15, Tryd.ntmps15
  go_wp2_with fail
  clear c1
  go_loopg [10] m (fun r kv wr => ∃ (k : Nat) (F' : Nat → Prop) (Y' : RLay), k ≤ m ∧ r = m - k ∧ kv = .int .i64 (k : Int) ∧ Hidden (RcSt w wr F d D (crashS D keep torn cn k) F' Y'))
  case atStart => exact ⟨0, F, Y, by omega, rfl, rfl, HST⟩
  case round =>
    obtain ⟨k, F', Y', hk, rfl, rfl, hs⟩ := hrel
    have HX := Hidden.mk hs.out
    clear hs HST
    by_cases hlt : k < m
    · obtain ⟨⟨c0, c1, c2, c3⟩, ff⟩ := fourF HX.out.dev.hd
      obtain ⟨A2, cl, hvl, hcl, hln⟩ := HX.out.dev.lines
      rw [show ({ D with S := crashS D keep torn cn k } : Dv).O = D.O from rfl] at hvl hcl hln
      rw [HM.out] at hvl hcl
      rw [hvl] at c1
      rw [show ({ D with S := crashS D keep torn cn k } : Dv).S = crashS D keep torn cn k from rfl, crashS_len] at c0
      clear c2 c3 hvl
      have k0 : (0 : Int) ≤ k := by omega
      have k1 : (k : Int) < m := by omega
      have s1 : IntKind.i64.wrap ((k : Int) + 1) = (k : Int) + 1 := IntWalk.i64_in _ (by omega)
      obtain ⟨o, ho⟩ : ∃ o, D.O[k]? = some o := ⟨D.O[k]'(by rw [HM.out]; exact hlt), List.getElem?_eq_getElem _⟩
      obtain ⟨gl, rfl, hFg, y0, y1⟩ := hln k o ho
      obtain ⟨hol, hml, hsl⟩ := HO.out o (List.mem_of_getElem? ho)
      have o0 : (0 : Int) ≤ o := by omega
      have o1 : (o : Int) < D.S.length := by omega
      have HGO := Hidden.mk (And.intro (getD_of ho) (crashS_cur (keep := keep) (torn := torn) (c := cn) HND.out ho))
      have HMR := Hidden.mk (HX.out.dev.mrow o (List.mem_of_getElem? ho))
      have HFB := Hidden.mk (HX.out.dev.fb o (List.mem_of_getElem? ho))
      have hal := (Below.refl wr.heap.size wr).alloc (Nat.le_refl _) (.cells #[.int .i64 (o : Int), rowV (Y'.mb o) (Y'.mc o)] 91)
      have HX1 := Hidden.mk (HX.out.below hal)
      have HAL := Hidden.mk hal
      have hbx := heap_alloc_new wr (.cells #[.int .i64 (o : Int), rowV (Y'.mb o) (Y'.mc o)] 91)
      unfold rowV at y1 hbx HX1 HAL
      clear hln hcl ff hal ho
      have HCS : Hidden (crashS D keep torn cn (k + 1) = (crashS D keep torn cn k).set o (crash1 D keep torn cn k)) := ⟨by rw [crashS, HGO.out.1]⟩
      have HCR : Hidden (crash1 D keep torn cn k = if (k : Int) = torn then splice (D.S.getD o []) 0 ((D.M o).take cn) else if keep.getD k false = true then D.M o else D.S.getD o []) := ⟨by unfold crash1; rw [HGO.out.1]⟩
      have HSO : Hidden ((crashS D keep torn cn k)[o]? = some (D.S.getD o [])) := ⟨by rw [HGO.out.2, List.getD_eq_getElem?_getD, List.getElem?_eq_getElem hol]; rfl⟩
      have HCL := Hidden.mk (crashS_len D keep torn cn k)
      generalize D.S.getD o [] = so at *
      generalize crash1 D keep torn cn k = c1k at *
      go_upto_region 6 with (fail)
      have z0 := (HAL.out.cell (p := ⟨d, 0, none⟩) (block_lt_of_cell c0)).trans c0
      have z1 := (HAL.out.cell (p := ⟨d, 1, none⟩) (block_lt_of_cell c1)).trans c1
      have HB01 : Hidden ((wr.alloc (.cells #[.int .i64 (o : Int), .slice (some ⟨Y'.mb o, 0, none⟩) 32 (Y'.mc o)] 91)).cell? ⟨wr.heap.size, 0, none⟩ = some (.int .i64 (o : Int)) ∧ (wr.alloc (.cells #[.int .i64 (o : Int), .slice (some ⟨Y'.mb o, 0, none⟩) 32 (Y'.mc o)] 91)).cell? ⟨wr.heap.size, 1, none⟩ = some (.slice (some ⟨Y'.mb o, 0, none⟩) 32 (Y'.mc o))) := ⟨by simp only [World.cell?]; rw [hbx]; exact ⟨rfl, rfl⟩⟩
      have HKA : Hidden (∀ W, Keep F w W → k < nk → ∃ pb of, A = some ⟨pb, of, none⟩ ∧ W.cell? ⟨pb, of + k, none⟩ = some (.bool (keep.getD k false))) := ⟨fun W hW hkn => by
        obtain ⟨h1, h2, h3⟩ := HKP.out
        obtain ⟨pb, of, e, hc⟩ := h2 k (by omega)
        refine ⟨pb, of, e, (World.cell?_of_block (w := w) (a := ⟨pb, of + k, none⟩) (hW.block pb (block_lt_of_cell hc) (h3 (by omega) _ e))).trans ?_⟩
        rw [hc, List.getD_eq_getElem?_getD, List.getElem?_eq_getElem (by omega)]
        rfl⟩
      clear c0 c1 y0 y1 hbx HAL HX
      generalize wr.alloc (.cells #[.int .i64 (o : Int), .slice (some ⟨Y'.mb o, 0, none⟩) 32 (Y'.mc o)] 91) = W1 at *
      generalize wr.heap.size = bx at *
      obtain ⟨b0, b1⟩ := HB01.out
      by_cases htn : (k : Int) = torn
      · have q1 : ((k : Int) == torn) = true := by simpa using htn
        have HC1 := Hidden.mk (show c1k = splice so 0 ((D.M o).take cn) by rw [HCR.out, if_pos htn])
        clear htn
        obtain ⟨cur, hcur, hcs, hcu⟩ := HX1.out.dev.sec
        have hoS : o < (crashS D keep torn cn k).length := by rw [HCL.out]; exact hol
        have hsr := HX1.out.dev.row o hoS
        have hse : (crashS D keep torn cn k)[o] = so := by
          obtain ⟨h1, h2⟩ := List.getElem?_eq_some_iff.1 HSO.out
          exact h2
        rw [show ({ D with S := crashS D keep torn cn k } : Dv).S[o]'hoS = so from hse] at hsr
        have w0 : W1.cell? ⟨Y'.gs, o, none⟩ = some (rowV (Y'.sb o) (Y'.sc o)) := by rw [cell_of_row W1 Y'.gs o cur _ _ hcur]; exact hcu o hoS
        unfold rowV at w0
        have HCP := Hidden.mk (refCopied_ok (Y'.sb o) 0 32 (Y'.sc o) so W1.drew hsr.2 (by omega) (by omega) (hsr.1.rd.drewN 1))
        have HMB := Hidden.mk (HX1.out.dev.mrow o (List.mem_of_getElem? (List.getElem?_eq_some_iff.2 ⟨by rw [HM.out]; exact hlt, by have := HGO.out.1; rw [List.getD_eq_getElem?_getD, List.getElem?_eq_getElem (by rw [HM.out]; exact hlt)] at this; exact this⟩))).1
        have HB1 := Hidden.mk (And.intro b0 b1)
        clear hcur hcs hcu hsr hse
        go_upto_region 7 with (fail)
        go_still_tail 8, (by kernel_rfl)
        change wpList _ _ _ _ _ W1.drew
        clear w0 z0 z1 b0 b1
        have HX2 := Hidden.mk (HX1.out.below ((Below.refl _ W1).drew))
        have HMB2 := Hidden.mk (show Row W1.drew 5 (Y'.mb o) (Y'.mc o) (D.M o) from HMB.out)
        have HB2 : Hidden (W1.drew.cell? ⟨bx, 0, none⟩ = some (.int .i64 (o : Int)) ∧ W1.drew.cell? ⟨bx, 1, none⟩ = some (.slice (some ⟨Y'.mb o, 0, none⟩) 32 (Y'.mc o))) := ⟨HB1.out⟩
        generalize W1.drew = wd at *
        clear HX1 HMB HB1
        go_wp2_with fail
        refine HCP.out.mono ?_
        rintro e w9 ⟨g9, cap9, rfl, hg9, hcp9, hrow9, hb9⟩
        have HX9 := Hidden.mk (HX2.out.below hb9)
        have HG9 : Hidden (¬ F' g9 ∧ w.heap.size ≤ g9 ∧ g9 ≠ bx ∧ g9 ≠ Y'.mb o) := ⟨⟨fun hf => by have := HX2.out.dev.flt _ hf; omega, Nat.le_trans HX2.out.kp.size hg9, fun e => by have := block_lt_of_cell HB2.out.1; dsimp only at this; omega, fun e => by have := HMB2.out.lt; omega⟩⟩
        have HR9 : Hidden (Row w9 5 g9 cap9 (splice so 0 ((D.M o).take 0))) := ⟨by
          have : splice so 0 ((D.M o).take 0) = so := by simp [splice]
          rw [this]; exact hrow9⟩
        have HB9 : Hidden (w9.cell? ⟨bx, 0, none⟩ = some (.int .i64 (o : Int)) ∧ w9.cell? ⟨bx, 1, none⟩ = some (.slice (some ⟨Y'.mb o, 0, none⟩) 32 (Y'.mc o))) := ⟨⟨(hb9.cell (p := ⟨bx, 0, none⟩) (block_lt_of_cell HB2.out.1)).trans HB2.out.1, (hb9.cell (p := ⟨bx, 1, none⟩) (block_lt_of_cell HB2.out.2)).trans HB2.out.2⟩⟩
        have HM9 := Hidden.mk (HMB2.out.below hb9 HMB2.out.lt)
        clear hg9 hcp9 hrow9 hb9 HCP HX2 HMB2 HB2
        go_wp2_with fail
        go_loopg [13] cn (fun r jv wy => ∃ j : Nat, j ≤ cn ∧ r = cn - j ∧ jv = .int .i64 (j : Int) ∧ Hidden (RcSt w wy F d D (crashS D keep torn cn k) F' Y' ∧ Row wy 5 g9 cap9 (splice so 0 ((D.M o).take j)) ∧ (wy.cell? ⟨bx, 0, none⟩ = some (.int .i64 (o : Int)) ∧ wy.cell? ⟨bx, 1, none⟩ = some (.slice (some ⟨Y'.mb o, 0, none⟩) 32 (Y'.mc o))) ∧ Row wy 5 (Y'.mb o) (Y'.mc o) (D.M o)))
        case atStart => exact ⟨0, by omega, rfl, rfl, ⟨HX9.out, HR9.out, HB9.out, HM9.out⟩⟩
        case round =>
          obtain ⟨j, hj, rfl, rfl, hs⟩ := hrel
          have HZ := Hidden.mk hs.out
          clear hs HX9 HR9 HB9 HM9
          obtain ⟨b0, b1⟩ := HZ.out.2.2.1
          go_upto_region 9 with (fail)
          go_cut [49] (fun s wx => s = .bool (decide (j < cn)) ∧ wr = wx)
          case first =>
            have hcj := HCJ.out j
            by_cases h32 : j < 32
            · have t7 : decide ((j : Int) < 32) = true := by simp; omega
              have t8 : decide (j < 32) = true := by simpa using h32
              have hd : decide (j < cn) = decide ((j : Int) < cut) := decide_eq_decide.2 ⟨fun h => (hcj.2 h).2, fun h => hcj.1 ⟨h32, h⟩⟩
              have HD := Hidden.mk hd
              clear h32 hd hcj
              go_wp2_with fail
              go_meet
              exact ⟨by rw [HD.out], rfl⟩
            · have t7 : decide ((j : Int) < 32) = false := by simp; omega
              have t8 : decide (j < 32) = false := by simpa using h32
              have HD : Hidden (decide (j < cn) = false) := ⟨decide_eq_false (fun h => h32 (hcj.2 h).1)⟩
              clear h32 hcj
              go_wp2_with fail
              go_meet
              exact ⟨by rw [HD.out], rfl⟩
          case rest =>
          obtain ⟨rfl, rfl⟩ := hcut
          by_cases hjc : j < cn
          · rw [decide_eq_true hjc]
            have j0 : (0 : Int) ≤ j := by omega
            have j1 : (j : Int) < 32 := by omega
            have s6 : IntKind.i64.wrap ((j : Int) + 1) = (j : Int) + 1 := IntWalk.i64_in _ (by omega)
            have hjm : j < (D.M o).length := by rw [hml]; omega
            have hsl9 : (splice so 0 ((D.M o).take j)).length = 32 := by rw [splice_len _ _ _ (by rw [hsl, List.length_take]; omega)]; exact hsl
            have y1 := HZ.out.2.1.cell j (by omega)
            have y2 := HZ.out.2.1.frozen j
            have y3 := HZ.out.2.2.2.cell j hjm
            have hput := HZ.out.2.1.store j (by omega) (D.M o)[j]
            have hsp := splice_take_succ so (D.M o) 0 j hjm (by rw [hsl, hml]; omega)
            rw [Nat.zero_add] at hsp
            rw [hsp] at hput
            have hkg : Keep (fun q => q = g9) wr (wr.setCell ⟨g9, j, none⟩ (bv (D.M o)[j])) := Keep.setCell (F := fun q => q = g9) (Keep.refl _ _) (p := ⟨g9, j, none⟩) (.inl rfl) _
            have HP : Hidden (RcSt w (wr.setCell ⟨g9, j, none⟩ (bv (D.M o)[j])) F d D (crashS D keep torn cn k) F' Y' ∧ Row (wr.setCell ⟨g9, j, none⟩ (bv (D.M o)[j])) 5 g9 cap9 (splice so 0 ((D.M o).take (j + 1))) ∧ ((wr.setCell ⟨g9, j, none⟩ (bv (D.M o)[j])).cell? ⟨bx, 0, none⟩ = some (.int .i64 (o : Int)) ∧ (wr.setCell ⟨g9, j, none⟩ (bv (D.M o)[j])).cell? ⟨bx, 1, none⟩ = some (.slice (some ⟨Y'.mb o, 0, none⟩) 32 (Y'.mc o))) ∧ Row (wr.setCell ⟨g9, j, none⟩ (bv (D.M o)[j])) 5 (Y'.mb o) (Y'.mc o) (D.M o)) := ⟨by
              obtain ⟨n1, n2, n3, n4⟩ := HG9.out
              refine ⟨⟨HZ.out.1.dev.keep hkg (fun q hq e => n1 (e ▸ hq)), HZ.out.1.kp.setCell (.inr n2) _, HZ.out.1.sub⟩, hput, ⟨?_, ?_⟩, hkg.row HZ.out.2.2.2 (fun e => n4 e.symm)⟩
              · exact (World.cell?_of_block (w := wr) (a := ⟨bx, 0, none⟩) (Below.heap_setCell _ _ _ _ (show bx ≠ g9 from fun e => n3 e.symm))).trans HZ.out.2.2.1.1
              · exact (World.cell?_of_block (w := wr) (a := ⟨bx, 1, none⟩) (Below.heap_setCell _ _ _ _ (show bx ≠ g9 from fun e => n3 e.symm))).trans HZ.out.2.2.1.2⟩
            generalize (splice so 0 ((D.M o).take j))[j] = u at y1
            generalize (D.M o)[j] = bk at *
            clear hput hsp hkg hsl9 hjm HZ
            go_wp2_with fail
            go_roundg (cn - (j + 1))
            case measure => omega
            case rel => exact ⟨j + 1, by omega, rfl, by go_num, HP⟩
          · obtain rfl : j = cn := by omega
            rw [decide_eq_false hjc]
            obtain ⟨⟨c0, c1, c2, c3⟩, ff⟩ := fourF HZ.out.1.dev.hd
            rw [show ({ D with S := crashS D keep torn j k } : Dv).S = crashS D keep torn j k from rfl, crashS_len] at c0
            obtain ⟨cur, hcur, hcs, hcu⟩ := HZ.out.1.dev.sec
            have w0 : wr.drew.cell? ⟨Y'.gs, o, none⟩ = some (rowV (Y'.sb o) (Y'.sc o)) := by rw [show wr.drew.cell? ⟨Y'.gs, o, none⟩ = wr.cell? ⟨Y'.gs, o, none⟩ from rfl, cell_of_row wr Y'.gs o cur _ _ hcur]; exact hcu o hoS
            have w1 : wr.drew.frozen? ⟨Y'.gs, o, none⟩ = false := frozen_of_row wr Y'.gs o cur _ hcur
            have hset := (HZ.out.1.below ((Below.refl _ wr).drew)).put (F2 := fun q => F' q ∨ q = g9) hoS HZ.out.2.1 (by rw [splice_len _ _ _ (by rw [hsl, List.length_take]; omega)]; exact hsl) (fun _ h => .inl h) (.inr rfl) (fun q hq => by
              rcases hq with hq | rfl
              · exact HZ.out.1.dev.flt q hq
              · exact HZ.out.2.1.lt) (fun q hq => by
              rcases hq with hq | rfl
              · exact HZ.out.1.sub q hq
              · exact .inr HG9.out.2.1)
            have HN : Hidden (∃ Y2, RcSt w (wr.drew.setCell ⟨Y'.gs, o, none⟩ (rowV g9 cap9)) F d D (crashS D keep torn j (k + 1)) (fun q => F' q ∨ q = g9) Y2) := ⟨⟨_, by rw [HCS.out, HC1.out]; exact hset⟩⟩
            unfold rowV at w0 HN
            clear hset hcur hcs hcu hjc c1 c2 c3 ff HZ
            go_upto_region 12 with (fail)
            go_still_tail 8, (by kernel_rfl)
            change wpList _ _ _ _ _ wr.drew
            clear c0 b0 b1
            generalize wr.drew = we at *
            go_wp2_with fail
            go_roundg (m - (k + 1))
            case measure => omega
            case rel =>
              obtain ⟨Y2, h⟩ := HN.out
              exact ⟨k + 1, _, Y2, by omega, rfl, by go_num, ⟨h⟩⟩
      · have q1 : ((k : Int) == torn) = false := by simpa using htn
        have HC1 := Hidden.mk (show c1k = if keep.getD k false = true then D.M o else so by rw [HCR.out, if_neg htn])
        have hsame : crashS D keep torn cn k = (crashS D keep torn cn k).set o so := by
          obtain ⟨h1, h2⟩ := List.getElem?_eq_some_iff.1 HSO.out
          rw [← h2, List.set_getElem_self]
        clear htn
        by_cases hkn : k < nk
        · obtain ⟨pb, of, rfl, x0⟩ := HKA.out W1 HX1.out.kp hkn
          have q2 : decide ((k : Int) < nk) = true := by simp; omega
          have q3 : decide (k < nk) = true := by simpa using hkn
          have k2 : (k : Int) < nk := by omega
          clear hkn
          cases hkk : keep.getD k false with
          | true =>
            rw [hkk] at x0 HC1
            rw [if_pos rfl] at HC1
            obtain ⟨cur, hcur, hcs, hcu⟩ := HX1.out.dev.sec
            have w0 : W1.drew.cell? ⟨Y'.gs, o, none⟩ = some (rowV (Y'.sb o) (Y'.sc o)) := by rw [show W1.drew.cell? ⟨Y'.gs, o, none⟩ = W1.cell? ⟨Y'.gs, o, none⟩ from rfl, cell_of_row W1 Y'.gs o cur _ _ hcur]; exact hcu o (by show o < (crashS D keep torn cn k).length; rw [HCL.out]; exact hol)
            have w1 : W1.drew.frozen? ⟨Y'.gs, o, none⟩ = false := frozen_of_row W1 Y'.gs o cur _ hcur
            have hset := (HX1.out.below ((Below.refl _ W1).drew)).put (F2 := F') (o := o) (by rw [HCL.out]; exact hol) (HX1.out.dev.mrow o (by
              have := HMR.out; exact List.mem_of_getElem? (List.getElem?_eq_some_iff.2 ⟨by rw [HM.out]; exact hlt, by have := HGO.out.1; rw [List.getD_eq_getElem?_getD, List.getElem?_eq_getElem (by rw [HM.out]; exact hlt)] at this; exact this⟩))).1 hml (fun _ h => h) HFB.out HX1.out.dev.flt HX1.out.sub
            have HN : Hidden (∃ Y2, RcSt w (W1.drew.setCell ⟨Y'.gs, o, none⟩ (rowV (Y'.mb o) (Y'.mc o))) F d D (crashS D keep torn cn (k + 1)) F' Y2) := ⟨⟨_, by rw [HCS.out, HC1.out]; exact hset⟩⟩
            unfold rowV at w0 HN
            clear hset hcur hcs hcu hsame hkk
            go_upto_region 14 with (fail)
            go_still_tail 9, (by kernel_rfl)
            change wpList _ _ _ _ _ W1.drew
            clear z0 z1 b0 b1 x0
            generalize W1.drew = wd at *
            go_wp2_with fail
            go_roundg (m - (k + 1))
            case measure => omega
            case rel =>
              obtain ⟨Y2, h⟩ := HN.out
              exact ⟨k + 1, F', Y2, by omega, rfl, by go_num, ⟨h⟩⟩
          | false =>
            rw [hkk] at x0 HC1
            rw [if_neg (by decide)] at HC1
            have HN : Hidden (RcSt w W1 F d D (crashS D keep torn cn (k + 1)) F' Y') := ⟨by rw [HCS.out, HC1.out, ← hsame]; exact HX1.out⟩
            clear hsame hkk
            go_wp2_with fail
            go_roundg (m - (k + 1))
            case measure => omega
            case rel => exact ⟨k + 1, F', Y', by omega, rfl, by go_num, HN⟩
        · have q2 : decide ((k : Int) < nk) = false := by simp; omega
          have q3 : decide (k < nk) = false := by simpa using hkn
          have hkk : keep.getD k false = false := by rw [List.getD_eq_getElem?_getD, List.getElem?_eq_none (by rw [HKP.out.1]; omega)]; rfl
          rw [hkk, if_neg (by decide)] at HC1
          have HN : Hidden (RcSt w W1 F d D (crashS D keep torn cn (k + 1)) F' Y') := ⟨by rw [HCS.out, HC1.out, ← hsame]; exact HX1.out⟩
          clear hsame hkk hkn
          go_wp2_with fail
          go_roundg (m - (k + 1))
          case measure => omega
          case rel => exact ⟨k + 1, F', Y', by omega, rfl, by go_num, HN⟩
    · obtain rfl : k = m := by omega
      have t4 : decide ((k : Int) < k) = false := by simp
      obtain ⟨⟨c0, c1, c2, c3⟩, ff⟩ := fourF HX.out.dev.hd
      have f1 := ff 1
      have f2 := ff 2
      have f3 := ff 3
      have hno := HX.out.dev.noLines
      have hs3 := hno.set23 (-1) (by omega) (by omega) false
      have HF := Hidden.mk (And.intro hs3.1 (((HX.out.kp.setCell (p := ⟨d, 1, none⟩) (HX.out.sub d HX.out.dev.fd) (.slice none 0 0)).trans hs3.2.1 (fun q hq => HX.out.sub q hq))))
      have HSUB := Hidden.mk HX.out.sub
      have HR : Hidden ((crashD D keep torn cn, k) = (({ ({ ({ D with S := crashS D keep torn cn k } : Dv) with O := [] } : Dv) with left := -1, down := false } : Dv), k)) := ⟨by unfold crashD; rw [HM.out]⟩
      clear hno hs3 ff HX
      go_wp2_with fail
      go_ret
      exact RwAns.mk HR.out rfl ⟨HF.out.1, HF.out.2, HSUB.out⟩
end
end Go.Proofs.YtbnobjlphmkgeaaDoor
/- The reference's device: Write of whatever; both devices beside each other. -/
namespace Go.Proofs.YtbnobjlphmkgeaaDoor
open Go.RowKit Go.Maps Go.ChangeMaps

section
variable {w : World} {F : Nat → Prop} {d : Nat} {D : Dv} {Y : RLay}
set_option maxRecDepth 100000 in
theorem rwrite_any (h : RdIs w F d D Y) (i : Int) (A : Option Addr) (n c : Nat) (b : Bytes) (hn : b.length = n) (hrd : Rd w A b) (hAF : 0 < n → ∀ ad, A = some ad → Y.vl.ownBlock ≠ some ad.block) :
    Calls Tryd.prog 36 #[.pointer (some ⟨d, 0, none⟩), .int .i64 i, .slice A n c] w (RwAns w F d (wrD D i b)) := by
  obtain ⟨⟨c0, c1, c2, c3⟩, -⟩ := fourF h.hd
  have HH : Hidden (RdIs w F d D Y ∧ Keep F w w ∧ ∀ k, F k → F k ∨ w.heap.size ≤ k) := ⟨h, Keep.refl _ _, fun _ hq => .inl hq⟩
  by_cases h1 : i < 0
  · have t1 : decide (i < 0) = true := by simpa using h1
    have HR : Hidden (wrD D i b = (D, 1)) := ⟨by unfold wrD; rw [if_pos (.inl h1)]⟩
    clear h h1 hrd hAF hn
    go_enter Tryd.func36, Tryd.ntmps36
    go_wp2_with fail
    go_ret
    exact RwAns.mk HR.out rfl HH.out
  have t1 : decide (i < 0) = false := by simpa using h1
  by_cases h2 : (D.S.length : Int) ≤ i
  · have t2 : decide ((D.S.length : Int) ≤ i) = true := by simpa using h2
    have HR : Hidden (wrD D i b = (D, 1)) := ⟨by unfold wrD; rw [if_pos (.inr h2)]⟩
    clear h h1 h2 hrd hAF hn
    go_enter Tryd.func36, Tryd.ntmps36
    go_wp2_with fail
    go_ret
    exact RwAns.mk HR.out rfl HH.out
  obtain ⟨i, rfl⟩ : ∃ k : Nat, i = k := ⟨i.toNat, by omega⟩
  have hi : i < D.S.length := by omega
  have t2 : decide ((D.S.length : Int) ≤ (i : Int)) = false := by simpa using h2
  have t3 : decide (D.S.length ≤ i) = false := by simp; omega
  by_cases h3 : n = 32
  · subst h3
    cases hd : D.down with
    | true =>
      have HR : Hidden (wrD D (i : Int) b = (D, 9)) := ⟨by unfold wrD; rw [if_neg (by omega), if_neg (by omega), if_pos hd]⟩
      rw [hd] at c3
      clear h h1 h2 hrd hAF hn hd hi
      go_enter Tryd.func36, Tryd.ntmps36
      go_wp2_with fail
      go_ret
      exact RwAns.mk HR.out rfl HH.out
    | false => exact rwrite_ok h i A c b hi hd hn hrd (hAF (by omega))
  · have t4 : ((n : Int) != 32) = true := by simp; omega
    have HR : Hidden (wrD D (i : Int) b = (D, 3)) := ⟨by unfold wrD; rw [if_neg (by omega), if_pos (by omega)]⟩
    clear h h1 h2 hrd hAF hn hi h3
    go_enter Tryd.func36, Tryd.ntmps36
    go_wp2_with fail
    go_ret
    exact RwAns.mk HR.out rfl HH.out
end
/-- both devices -/
structure Dv2 (w0 w : World) (Fp Fr : Nat → Prop) (dp dr : Nat) (Dp Dr : Dv) : Prop where
  p : DevB w0 w Fp dp Dp
  r : ∃ Y, RdIs w Fr dr Dr Y
  dj : ∀ q, Fp q → ¬ Fr q
  rn : ∀ q, Fr q → w0.heap.size ≤ q
section
variable {w0 w w' : World} {Fp Fr F' : Nat → Prop} {dp dr : Nat} {Dp Dr D' : Dv}
theorem Dv2.rlt (h : Dv2 w0 w Fp Fr dp dr Dp Dr) : ∀ q, Fr q → q < w.heap.size := by obtain ⟨Y, hY⟩ := h.r; exact hY.flt
theorem Dv2.below (h : Dv2 w0 w Fp Fr dp dr Dp Dr) (hb : Below w.heap.size w w') : Dv2 w0 w' Fp Fr dp dr Dp Dr := by
  obtain ⟨Y, hY⟩ := h.r
  exact ⟨h.p.below hb, ⟨Y, hY.below hb⟩, h.dj, h.rn⟩
theorem Dv2.stepP (h : Dv2 w0 w Fp Fr dp dr Dp Dr) (hp : DevB w0 w' F' dp D') (hk : Keep Fp w w') (hs : ∀ q, F' q → Fp q ∨ w.heap.size ≤ q) : Dv2 w0 w' F' Fr dp dr D' Dr := by
  obtain ⟨Y, hY⟩ := h.r
  exact ⟨hp, ⟨Y, hY.keep hk (fun q hq hp => h.dj q hp hq)⟩, fun q hq hr => by
    rcases hs q hq with h' | h'
    · exact h.dj q h' hr
    · have := hY.flt q hr; omega, h.rn⟩
theorem Dv2.stepR (h : Dv2 w0 w Fp Fr dp dr Dp Dr) {Y' : RLay} (hr : RdIs w' F' dr D' Y') (hk : Keep Fr w w') (hs : ∀ q, F' q → Fr q ∨ w.heap.size ≤ q) : Dv2 w0 w' Fp F' dp dr Dp D' :=
  ⟨h.p.keep hk (fun q hq hr => h.dj q hq hr) h.rn, ⟨Y', hr⟩, fun q hq hr => by
    rcases hs q hr with h' | h'
    · exact h.dj q hq h'
    · have := h.p.flt q hq; omega, fun q hq => by
    rcases hs q hq with h' | h'
    · exact h.rn q h'
    · exact Nat.le_trans h.p.bel.size h'⟩
/-- a block of the law's own, beside both -/
def Own2 (w : World) (Fp Fr : Nat → Prop) (q : Nat) (o : Obj) : Prop := w.heap[q]? = some o ∧ ¬ Fp q ∧ ¬ Fr q
theorem Own2.below {q : Nat} {o : Obj} (h : Own2 w Fp Fr q o) (hb : Below w.heap.size w w') : Own2 w' Fp Fr q o := ⟨(hb.block q (Array.getElem?_eq_some_iff.1 h.1).1).trans h.1, h.2⟩
theorem Own2.stepP {q : Nat} {o : Obj} (h : Own2 w Fp Fr q o) (hk : Keep Fp w w') (hs : ∀ q, F' q → Fp q ∨ w.heap.size ≤ q) : Own2 w' F' Fr q o := by
  have hl := (Array.getElem?_eq_some_iff.1 h.1).1
  exact ⟨(hk.block q hl h.2.1).trans h.1, fun hf => by
    rcases hs q hf with h' | h'
    · exact h.2.1 h'
    · omega, h.2.2⟩
theorem Own2.stepR {q : Nat} {o : Obj} (h : Own2 w Fp Fr q o) (hk : Keep Fr w w') (hs : ∀ q, F' q → Fr q ∨ w.heap.size ≤ q) : Own2 w' Fp F' q o := by
  have hl := (Array.getElem?_eq_some_iff.1 h.1).1
  exact ⟨(hk.block q hl h.2.2).trans h.1, h.2.1, fun hf => by
    rcases hs q hf with h' | h'
    · exact h.2.2 h'
    · omega⟩
end
end Go.Proofs.YtbnobjlphmkgeaaDoor
/- The reference's pages: many, Format; the reference's device that a call has made. -/
namespace Go.Proofs.YtbnobjlphmkgeaaDoor
open Go.RowKit Go.Maps Go.ChangeMaps

/-- block d is a reference's device that was made behind w0 -/
structure RDB (w0 w : World) (F : Nat → Prop) (d : Nat) (D : Dv) : Prop where
  dev : ∃ Y, RdIs w F d D Y
  new : ∀ k, F k → w0.heap.size ≤ k
  bel : Below w0.heap.size w0 w
/-- what a call on it leaves -/
structure RdM (w0 w w' : World) (F F' : Nat → Prop) (d : Nat) (D : Dv) : Prop where
  dev : RDB w0 w' F' d D
  kp : Keep F w w'
  sub : ∀ k, F' k → F k ∨ w.heap.size ≤ k
section
variable {w0 w w' : World} {F F' : Nat → Prop} {d p st n : Nat} {D : Dv}
theorem RDB.flt (h : RDB w0 w F d D) : ∀ k, F k → k < w.heap.size := by obtain ⟨Y, hY⟩ := h.dev; exact hY.flt
theorem RDB.below (h : RDB w0 w F d D) (hb : Below w.heap.size w w') : RDB w0 w' F d D := by
  obtain ⟨Y, hY⟩ := h.dev
  exact ⟨⟨Y, hY.below hb⟩, h.new, h.bel.trans (hb.mono h.bel.size)⟩
theorem RDB.keep {G : Nat → Prop} (h : RDB w0 w F d D) (hk : Keep G w w') (hG : ∀ k, F k → ¬ G k) (hn : ∀ k, G k → w0.heap.size ≤ k) : RDB w0 w' F d D := by
  obtain ⟨Y, hY⟩ := h.dev
  exact ⟨⟨Y, hY.keep hk hG⟩, h.new, h.bel.trans (hk.below h.bel.size hn)⟩
theorem RdM.refl (h : RDB w0 w F d D) : RdM w0 w w F F d D := ⟨h, Keep.refl _ _, fun _ hk => .inl hk⟩
theorem RdM.below {w1 : World} (h : RdM w0 w w' F F' d D) (hb : Below w'.heap.size w' w1) : RdM w0 w w1 F F' d D := ⟨h.dev.below hb, h.kp.trans (Keep.of_below (F := F) hb) (fun _ hk => .inl hk), h.sub⟩
theorem RdM.next {w1 : World} {F1 : Nat → Prop} {D1 : Dv} (h : RdM w0 w w' F F' d D) (k : RdM w0 w' w1 F' F1 d D1) : RdM w0 w w1 F F1 d D1 :=
  ⟨k.dev, h.kp.trans k.kp h.sub, fun x hx => by
    rcases k.sub x hx with h' | h'
    · exact h.sub x h'
    · exact .inr (Nat.le_trans h.kp.size h')⟩
theorem RwAns.mod {r : Dv × Nat} {e : Ending} (h : RDB w0 w F d D) (ha : RwAns w F d r e w') : e = .returned (.int .i64 (r.2 : Int)) ∧ ∃ F', RdM w0 w w' F F' d r.1 := by
  obtain ⟨he, F', Y', hd, hk, hs⟩ := ha
  refine ⟨he, F', ⟨⟨Y', hd⟩, fun k hf => ?_, h.bel.trans (hk.below h.bel.size h.new)⟩, hk, hs⟩
  rcases hs k hf with h' | h'
  · exact h.new k h'
  · exact Nat.le_trans h.bel.size h'
theorem RDB.write (h : RDB w0 w F d D) (i : Int) (A : Option Addr) (n c : Nat) (b : Bytes) (hn : b.length = n) (hrd : Rd w A b) (hAF : 0 < n → ∀ ad, A = some ad → ¬ F ad.block) :
    Calls Tryd.prog 36 #[.pointer (some ⟨d, 0, none⟩), .int .i64 i, .slice A n c] w fun e w' => e = .returned (.int .i64 ((wrD D i b).2 : Int)) ∧ ∃ F', RdM w0 w w' F F' d (wrD D i b).1 := by
  obtain ⟨Y, hY⟩ := h.dev
  exact (rwrite_any hY i A n c b hn hrd (fun h0 ad e hv => hAF h0 ad e (hY.fo _ hv))).mono fun e w' ha => ha.mod h
/-- what is written lies in a row of bytes, be it the device's own -/
theorem RDB.writeR (h : RDB w0 w F d D) (i : Int) (A : Option Addr) (n c : Nat) (b : Bytes) (hn : b.length = n) (hrd : Rd w A b) (hA : ∀ ad, A = some ad → ∃ cur, w.heap[ad.block]? = some (.cells cur 5 (0, 0))) :
    Calls Tryd.prog 36 #[.pointer (some ⟨d, 0, none⟩), .int .i64 i, .slice A n c] w fun e w' => e = .returned (.int .i64 ((wrD D i b).2 : Int)) ∧ ∃ F', RdM w0 w w' F F' d (wrD D i b).1 := by
  obtain ⟨Y, hY⟩ := h.dev
  exact (rwrite_any hY i A n c b hn hrd (fun _ ad e => by obtain ⟨cur, hcur⟩ := hA ad e; exact DevIs.ne_own hcur hY.lin (by decide))).mono fun e w' ha => ha.mod h
theorem RDB.rd32 (h : RDB w0 w F d D) {i : Nat} (hi : i < D.S.length) : (readD D i).length = 32 := by
  obtain ⟨Y, hY⟩ := h.dev
  unfold readD
  by_cases ho : i ∈ D.O
  · rw [if_pos ho]; exact (hY.mrow i ho).2.1
  · rw [if_neg ho, List.getD_eq_getElem?_getD, List.getElem?_eq_getElem hi]; exact (hY.row i hi).2
theorem RDB.flush (h : RDB w0 w F d D) :
    Calls Tryd.prog 37 #[.pointer (some ⟨d, 0, none⟩)] w fun e w' => e = .returned (.int .i64 ((flD D).2 : Int)) ∧ ∃ F', RdM w0 w w' F F' d (flD D).1 := by
  obtain ⟨Y, hY⟩ := h.dev
  exact (rflush_any hY).mono fun e w' ha => ha.mod h
theorem RDB.read (h : RDB w0 w F d D) (i : Int) :
    Calls Tryd.prog 18 #[.pointer (some ⟨d, 0, none⟩), .int .i64 i] w (RrAns w F (rdL D i) (rdE D i)) := by
  obtain ⟨Y, hY⟩ := h.dev
  exact rread_any hY i
theorem RDB.cells (h : RDB w0 w F d D) : (∃ A c, w.cell? ⟨d, 0, none⟩ = some (.slice A D.S.length c)) ∧ w.cell? ⟨d, 3, none⟩ = some (.bool D.down) := by
  obtain ⟨Y, hY⟩ := h.dev
  obtain ⟨⟨c0, -, -, c3⟩, -⟩ := fourF hY.hd
  exact ⟨⟨_, _, c0⟩, c3⟩
/-- block p is the reference's Pages of the device d -/
def PgR (w : World) (F : Nat → Prop) (p d st n : Nat) : Prop := w.heap[p]? = some (.cells #[.pointer (some ⟨d, 0, none⟩), .int .i64 st, .int .i64 n] 49 (0, 0)) ∧ ¬ F p
theorem PgR.lt (h : PgR w F p d st n) : p < w.heap.size := (Array.getElem?_eq_some_iff.1 h.1).1
theorem PgR.below (h : PgR w F p d st n) (hb : Below w.heap.size w w') : PgR w' F p d st n := ⟨(hb.block _ h.lt).trans h.1, h.2⟩
theorem PgR.keep (h : PgR w F p d st n) (hk : Keep F w w') (hF : ∀ k, F' k → F k ∨ w.heap.size ≤ k) : PgR w' F' p d st n :=
  ⟨(hk.block _ h.lt h.2).trans h.1, fun hf => by rcases hF p hf with h' | h'; exact h.2 h'; have := h.lt; omega⟩
theorem PgR.set (h : PgR w F p d st n) (s : Nat) : PgR (w.setCell ⟨p, 1, none⟩ (.int .i64 (s : Int))) F p d s n := ⟨by rw [heap_setK h.1]; rfl, h.2⟩
theorem PgR.ne_byte (h : PgR w F p d st n) {q o : Nat} {x : Int} (hc : w.cell? ⟨q, o, none⟩ = some (.int .u8 x)) : q ≠ p := fun e => by
  subst e
  rw [cell_of_row w q o _ _ _ h.1] at hc
  match o, hc with
  | 0, hc => simp at hc
  | 1, hc => simp at hc
  | 2, hc => simp at hc
  | k + 3, hc => simp at hc
theorem RdM.cell (h : RdM w0 w w' F F' d D) {o : Nat} (v : Value) (hp : ¬ F' p) (hw : w.heap.size ≤ p) (h0 : w0.heap.size ≤ p) : RdM w0 w (w'.setCell ⟨p, o, none⟩ v) F F' d D :=
  ⟨h.dev.keep (G := fun q => q = p) (Keep.setCell (F := fun q => q = p) (Keep.refl _ w') (p := ⟨p, o, none⟩) (.inl rfl) v) (fun q hq e => hp (e ▸ hq)) (fun q e => e ▸ h0), h.kp.setCell (p := ⟨p, o, none⟩) (.inr hw) v, h.sub⟩
theorem PgR.mod {D1 : Dv} (h : PgR w F p d st n) (k : RdM w0 w w' F F' d D1) : PgR w' F' p d st n := h.keep k.kp k.sub
theorem rmany_any (h : RDB w0 w F d D) : Calls Tryd.prog 34 #[.pointer (some ⟨d, 0, none⟩)] w fun e w' => e = .returned (.int .i64 (nP D : Nat)) ∧ w = w' := by
  obtain ⟨⟨A, c, c0⟩, -⟩ := h.cells
  have hl : D.S.length ≤ 300 := by obtain ⟨Y, hY⟩ := h.dev; exact hY.n1
  have s1 : IntKind.i64.wrap ((D.S.length : Int) - 48) = (D.S.length : Int) - 48 := IntWalk.i64_in _ (by omega)
  have HN : Hidden (nP D = min (D.S.length - 48) 200) := ⟨rfl⟩
  generalize nP D = np at *
  generalize D.S.length = L at *
  clear h
  by_cases h1 : 248 < L
  · have t1 : decide (200 < (L : Int) - 48) = true := by simp; omega
    have HR := Hidden.mk (show np = 200 by rw [HN.out]; omega)
    clear h1
    go_enter Tryd.func34, Tryd.ntmps34
    go_wp2_with fail
    go_ret
    exact ⟨by rw [HR.out]; rfl, rfl⟩
  · have t1 : decide (200 < (L : Int) - 48) = false := by simp; omega
    by_cases h2 : L < 48
    · have t2 : decide ((L : Int) - 48 < 0) = true := by simp; omega
      have HR := Hidden.mk (show np = 0 by rw [HN.out]; omega)
      clear h1 h2
      go_enter Tryd.func34, Tryd.ntmps34
      go_wp2_with fail
      go_ret
      exact ⟨by rw [HR.out]; rfl, rfl⟩
    · have t2 : decide ((L : Int) - 48 < 0) = false := by simp; omega
      have HR := Hidden.mk (show ((np : Nat) : Int) = (L : Int) - 48 by rw [HN.out]; omega)
      clear h1 h2
      go_enter Tryd.func34, Tryd.ntmps34
      go_wp2_with fail
      go_ret
      exact ⟨by rw [HR.out]; rfl, rfl⟩
end
end Go.Proofs.YtbnobjlphmkgeaaDoor
