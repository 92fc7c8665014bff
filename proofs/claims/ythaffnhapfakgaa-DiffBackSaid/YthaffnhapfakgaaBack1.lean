/- slices.Backward over changes: a value that yields them, the last one first. -/
import Derived.Test.YthaffnhapfakgaaRoundReg
import Derived.Test.YthaffnhapfakgaaDiffA1
namespace Go.Proofs.Ythaffnhapfakgaa
open Go.RowKit Go.Shelf
attribute [local go_sem] Oper.semAt_some

/-- a change as it lies: where, and its two slices -/
structure El where
  at_ : Int
  ao : Option Addr
  no : Nat
  co : Nat
  an : Option Addr
  nn : Nat
  cn : Nat
def El.enc (e : El) : Value := .agg #[.int .i64 e.at_, .slice e.ao e.no e.co, .slice e.an e.nn e.cn]
/-- what a round that goes on keeps: what lay below n₀, and the block Bs -/
def KeepB (n₀ Bs : Nat) (W W' : World) : Prop := Below n₀ W W' ∧ W'.heap[Bs]? = W.heap[Bs]?
theorem KeepB.refl (n₀ Bs : Nat) (W : World) : KeepB n₀ Bs W W := ⟨Below.refl _ _, rfl⟩
theorem KeepB.trans {n₀ Bs : Nat} {A B C : World} (h : KeepB n₀ Bs A B) (k : KeepB n₀ Bs B C) : KeepB n₀ Bs A C := ⟨h.1.trans k.1, k.2.trans h.2⟩
/-- where the elements of a slice of changes lie -/
def ElsAt {α : Type} (el : α → El) (ix : α → Nat) (n₀ : Nat) (W : World) (A : Option Addr) (xs : List α) : Prop :=
  ∀ j (h : j < xs.length), ix xs[j] = j ∧ ∃ b off, A = some ⟨b, off, none⟩ ∧ b < n₀ ∧ W.cell? ⟨b, off + j * 3, none⟩ = some (.int .i64 (el xs[j]).at_) ∧
    W.cell? ⟨b, off + j * 3 + 1, none⟩ = some (.slice (el xs[j]).ao (el xs[j]).no (el xs[j]).co) ∧ W.cell? ⟨b, off + j * 3 + 2, none⟩ = some (.slice (el xs[j]).an (el xs[j]).nn (el xs[j]).cn)
theorem ElsAt.below {α : Type} {el : α → El} {ix : α → Nat} {n₀ : Nat} {W W' : World} {A : Option Addr} {xs : List α} (h : ElsAt el ix n₀ W A xs) (hb : Below n₀ W W') : ElsAt el ix n₀ W' A xs := fun j hj => by
  obtain ⟨h1, b, off, hA, hlt, c0, c1, c2⟩ := h j hj
  exact ⟨h1, b, off, hA, hlt, (hb.cell (p := ⟨b, off + j * 3, none⟩) hlt).trans c0, (hb.cell (p := ⟨b, off + j * 3 + 1, none⟩) hlt).trans c1, (hb.cell (p := ⟨b, off + j * 3 + 2, none⟩) hlt).trans c2⟩
theorem drop_rev {α : Type} (xs : List α) (j : Nat) (h : j < xs.length) : (xs.drop j).reverse = (xs.drop (j + 1)).reverse ++ [xs[j]] := by
  rw [List.drop_eq_getElem_cons h, List.reverse_cons]

set_option maxRecDepth 100000 in
set_option maxHeartbeats 2000000 in
theorem back1_in {α : Type} (el : α → El) (ix : α → Nat) (F : Fence) (n : Nat) (hf : F.fn 30) (hro : F.round = none) (hn : 1 ≤ n) (l Bs n₀ cap : Nat) (A : Option Addr) (xs : List α) (hreach : xs.length ≤ 100000)
    (J Jx : List α → World → Prop)
    (hY : ∀ pre x W, J pre W → pre.length < xs.length → YieldAt F (n - 1) Try.prog l #[.int .i64 (ix x : Int), (el x).enc] W fun e W' =>
      (e = .returned (.bool true) ∧ J (pre ++ [x]) W' ∧ KeepB n₀ Bs W W') ∨ (e = .returned (.bool false) ∧ Jx (pre ++ [x]) W'))
    (W : World) (hBs : W.cell? ⟨Bs, 0, none⟩ = some (.slice A xs.length cap)) (hx : ElsAt el ix n₀ W A xs) (h0 : J [] W) :
    CallsIn F n Try.prog 30 #[.func (.yield l) #[] #[], .pointer (some ⟨Bs, 0, none⟩)] W fun e W' => (∃ v, e = .returned v) ∧
      ((∃ ys, ys = xs.reverse ∧ J ys W') ∨ (∃ pre, (∃ j, pre = (xs.drop j).reverse) ∧ Jx pre W')) := by
  refine callsIn_of_wp Try.func30 rfl hf ?_ hro
  simp only [Try.ntmps30, List.size_toArray, List.length_cons, List.length_nil, Nat.reduceAdd, Nat.reduceSub, Array.replicate_succ, Array.replicate_zero, List.push_toArray, List.append_toArray, List.nil_append, List.cons_append]
  have s0 : IntKind.i64.wrap ((xs.length : Int) - 1) = (xs.length : Int) - 1 := IntWalk.i64_in _ (by omega)
  gi_wp2
  gi_loopw [3] (fun i wr => ∃ j : Nat, j ≤ xs.length ∧ i = .int .i64 ((j : Int) - 1) ∧ J (xs.drop j).reverse wr ∧ KeepB n₀ Bs W wr) (fun i _ => (intOf i + 1).toNat)
  case atStart => exact ⟨xs.length, Nat.le_refl _, rfl, by simpa using h0, KeepB.refl _ _ _⟩
  case round =>
    obtain ⟨j, hj, rfl, hJs, hK⟩ := hrel
    have hB : wr.cell? ⟨Bs, 0, none⟩ = some (.slice A xs.length cap) := by
      have h := hK.2
      simp only [World.cell?] at hBs ⊢
      rw [h]; exact hBs
    rcases j with _ | j
    · rw [show (((0 : Nat) : Int) - 1) = (-1 : Int) from rfl]
      gi_wp2
      go_end0
      exact ⟨⟨_, rfl⟩, .inl ⟨_, by simp, hJs⟩⟩
    · rw [show (((j + 1 : Nat) : Int) - 1) = (j : Int) from by omega]
      obtain ⟨hix, b, off, rfl, hlt, c0, c1, c2⟩ := (hx.below hK.1) j (by omega)
      obtain ⟨fn, tmps, assign, body, hy, hR⟩ := hY _ xs[j] wr hJs (by simp; omega)
      rw [← drop_rev xs j (by omega)] at hR
      simp only [hix, El.enc] at hy
      have k0 : (0 : Int) ≤ j := by omega
      have k1 : (j : Int) < xs.length := by omega
      have s1 : IntKind.i64.wrap ((j : Int) - 1) = (j : Int) - 1 := IntWalk.i64_in _ (by omega)
      gi_wp2
      refine hR.mono ?_
      rintro e W3 (⟨rfl, hJ3, hk3⟩ | ⟨rfl, hJx3⟩)
      · gi_wp2
        go_roundw
        case rel => exact ⟨j, by omega, rfl, hJ3, hK.trans hk3⟩
        case measure => simp [intOf]
      · gi_wp2
        refine bodyPost_ret (results_none rfl _ _ _) rfl ?_
        exact ⟨⟨_, rfl⟩, .inr ⟨_, ⟨j, rfl⟩, hJx3⟩⟩

set_option maxHeartbeats 1000000 in
theorem back_in (F : Fence) (n : Nat) (hf : F.fn 19) (hro : F.round = none) (a : Option Addr) (len cap : Nat) (w : World) :
    CallsIn F n Try.prog 19 #[.slice a len cap] w fun e w' => e = .returned (.func (.func 30) #[] #[.pointer (some ⟨w.heap.size, 0, none⟩)]) ∧ w' = w.alloc (.cells #[.slice a len cap] 23) := by
  refine callsIn_of_wp Try.func19 rfl hf ?_ hro
  simp only [Try.ntmps19, List.size_toArray, List.length_cons, List.length_nil, Nat.reduceAdd, Nat.reduceSub, Array.replicate_succ, Array.replicate_zero, List.push_toArray, List.append_toArray, List.nil_append, List.cons_append]
  gi_wp2
  go_ret
  exact ⟨rfl, rfl⟩

theorem back_stops {α : Type} (el : α → El) (ix : α → Nat) (F : Fence) (n : Nat) (hf : F.fn 30) (hro : F.round = none) (hn : 1 ≤ n) (Bs n₀ cap : Nat) (A : Option Addr) (xs : List α) (hreach : xs.length ≤ 100000)
    (w : World) (hBs : Bs < w.heap.size) (hn₀ : n₀ ≤ w.heap.size) (hc : w.cell? ⟨Bs, 0, none⟩ = some (.slice A xs.length cap)) (hx : ElsAt el ix n₀ w A xs) :
    SeqStopsK F n Try.prog 30 #[.pointer (some ⟨Bs, 0, none⟩)] (fun x : α => #[Value.int .i64 (ix x : Int), (el x).enc]) (KeepB n₀ Bs) (fun ys => ys = xs.reverse) (fun pre => ∃ j, pre = (xs.drop j).reverse) xs.length w := fun l J Jx W hW _ _ hY h0 =>
  back1_in el ix F n hf hro hn l Bs n₀ cap A xs hreach J Jx hY W ((hW.cell (p := ⟨Bs, 0, none⟩) hBs).trans hc) (hx.below (hW.mono hn₀)) h0
end Go.Proofs.Ythaffnhapfakgaa
