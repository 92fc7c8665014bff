/- A device in memory: what lies where. -/
import Derived.Test.YtlkibidblpdjcaaDoorApp
import Derived.Test.YtlkibidblpdjcaaDoorMapI
namespace Go.Proofs.YtlkibidblpdjcaaDoor
open Go.RowKit

/-- what a device is -/
structure Dv where
  S : List Bytes
  O : List Nat
  M : Nat → Bytes
  left : Int
  down : Bool
/-- where it lies -/
structure Lay where
  gs : Nat
  cs : Nat
  gm : Nat
  vo : Value
  sb : Nat → Nat
  sc : Nat → Nat
  mb : Nat → Nat
  mc : Nat → Nat
def natL (k : Nat) : Lit := .int .i64 k
theorem natL_inj (x y : Nat) (h : natL x = natL y) : x = y := by
  unfold natL at h; injection h with _ h; omega
def rowV (g c : Nat) : Value := .slice (some ⟨g, 0, none⟩) 32 c
def memF (O : List Nat) (Y : Lay) (k : Nat) : Option Value := if k ∈ O then some (rowV (Y.mb k) (Y.mc k)) else none
/-- all that is not in F is as it was; F: the blocks that a device takes -/
structure Keep (F : Nat → Prop) (w w' : World) : Prop where
  os : w'.os = w.os
  tape : w'.tape = w.tape
  output : w'.output = w.output
  size : w.heap.size ≤ w'.heap.size
  block : ∀ k, k < w.heap.size → ¬ F k → w'.heap[k]? = w.heap[k]?
theorem Keep.refl (F : Nat → Prop) (w : World) : Keep F w w := ⟨rfl, rfl, rfl, Nat.le_refl _, fun _ _ _ => rfl⟩
theorem Keep.trans {F F' : Nat → Prop} {a b c : World} (h : Keep F a b) (k : Keep F' b c) (hF : ∀ x, F' x → F x ∨ a.heap.size ≤ x) : Keep F a c :=
  ⟨k.os.trans h.os, k.tape.trans h.tape, k.output.trans h.output, Nat.le_trans h.size k.size, fun x hx hn =>
    (k.block x (Nat.lt_of_lt_of_le hx h.size) (fun hf => by rcases hF x hf with h' | h'; exact hn h'; omega)).trans (h.block x hx hn)⟩
theorem Keep.of_below {F : Nat → Prop} {w w' : World} (h : Below w.heap.size w w') : Keep F w w' := ⟨h.os, h.tape, h.output, h.size, fun k hk _ => h.block k hk⟩
theorem Keep.below {F : Nat → Prop} {B : Nat} {w w' : World} (h : Keep F w w') (hB : B ≤ w.heap.size) (hF : ∀ k, F k → B ≤ k) : Below B w w' :=
  ⟨h.os, h.tape, h.output, h.size, fun k hk => h.block k (by omega) (fun hf => by have := hF k hf; omega)⟩
theorem Keep.rd {F : Nat → Prop} {w w' : World} {A : Option Addr} {l : Bytes} (h : Keep F w w') (hr : Rd w A l) (hA : ∀ ad, A = some ad → ¬ F ad.block) : Rd w' A l := fun j hj => by
  obtain ⟨b, off, rfl, hc⟩ := hr j hj
  exact ⟨b, off, rfl, (World.cell?_of_block (w := w) (h.block b (block_lt_of_cell hc) (hA _ rfl))).trans hc⟩
theorem Keep.row {F : Nat → Prop} {w w' : World} {e g cap : Nat} {l : Bytes} (h : Keep F w w') (hr : Row w e g cap l) (hg : ¬ F g) : Row w' e g cap l := by
  obtain ⟨cur, h0, h1⟩ := hr
  exact ⟨cur, (h.block g (Array.getElem?_eq_some_iff.1 h0).1 hg).trans h0, h1⟩
theorem Keep.drewN {F : Nat → Prop} {w w' : World} (h : Keep F w w') (n : Nat) : Keep F w (w'.drewN n) := ⟨h.os, h.tape, h.output, h.size, h.block⟩

structure DevIs (w : World) (F : Nat → Prop) (d : Nat) (D : Dv) (Y : Lay) (live : Nat → Prop) : Prop where
  hd : w.heap[d]? = some (.cells #[.slice (some ⟨Y.gs, 0, none⟩) D.S.length Y.cs, .map (some Y.gm), Y.vo, .int .i64 D.left, .bool D.down] 115 (0, 0))
  sec : ∃ cur, w.heap[Y.gs]? = some (.cells cur 29 (0, 0)) ∧ cur.size = Y.cs ∧ ∀ i, i < D.S.length → cur[i]? = some (rowV (Y.sb i) (Y.sc i))
  cap : D.S.length ≤ Y.cs
  row : ∀ i (h : i < D.S.length), Row w 5 (Y.sb i) (Y.sc i) D.S[i] ∧ D.S[i].length = 32
  ord : w.ownsRow 0 3 1 Y.vo D.O.length (D.O.map fun i : Nat => .int .i64 (i : Int))
  mem : IM Tryd.prog 3 natL w Y.gm (memF D.O Y) D.O.length
  mrow : ∀ i, live i → Row w 5 (Y.mb i) (Y.mc i) (D.M i)
  mlen : ∀ i, i ∈ D.O → i < D.S.length ∧ (D.M i).length = 32
  liv : ∀ i, live i → i ∈ D.O
  inj1 : ∀ i j, i < D.S.length → j < D.S.length → Y.sb i = Y.sb j → i = j
  inj2 : ∀ i j, live i → live j → Y.mb i = Y.mb j → i = j
  inj3 : ∀ i j, i < D.S.length → live j → Y.sb i ≠ Y.mb j
  nd : D.O.Nodup
  n0 : 1 ≤ D.S.length
  n1 : D.S.length ≤ 300
  l0 : -1 ≤ D.left
  l1 : D.left ≤ 9223372036854775807
  fd : F d
  fs : F Y.gs
  fm : F Y.gm
  fo : ∀ q, Y.vo.ownBlock = some q → F q
  fr : ∀ i, i < D.S.length → F (Y.sb i)
  fb : ∀ i, live i → F (Y.mb i)
  flt : ∀ k, F k → k < w.heap.size
section
variable {w w' : World} {F F' : Nat → Prop} {d : Nat} {D : Dv} {Y : Lay} {live : Nat → Prop}
theorem ownsRow_block {base : Nat} {e : TypeId} {size : Nat} {v : Value} {n : Nat} {xs : List Value} (h : w.ownsRow base e size v n xs) (hb : ∀ q, v.ownBlock = some q → w'.heap[q]? = w.heap[q]?) : w'.ownsRow base e size v n xs := by
  refine ⟨h.1, ?_⟩
  rcases h.2 with hn | ⟨g, cap, cur, rfl, hb0, hgg, rest⟩
  · exact .inl hn
  · exact .inr ⟨g, cap, cur, rfl, hb0, (hb g rfl).trans hgg, rest⟩
theorem Row.block {e g cap : Nat} {l : Bytes} (h : Row w e g cap l) (hb : w'.heap[g]? = w.heap[g]?) : Row w' e g cap l := by
  obtain ⟨cur, h0, h1⟩ := h
  exact ⟨cur, hb.trans h0, h1⟩
/-- a world in which its blocks are as they were -/
theorem DevIs.same (h : DevIs w F d D Y live) (hb : ∀ k, F k → w'.heap[k]? = w.heap[k]?) (hF : ∀ k, F k → F' k) (hl : ∀ k, F' k → k < w'.heap.size) : DevIs w' F' d D Y live where
  hd := (hb _ h.fd).trans h.hd
  sec := by obtain ⟨cur, h0, h1⟩ := h.sec; exact ⟨cur, (hb _ h.fs).trans h0, h1⟩
  cap := h.cap
  row := fun i hi => ⟨(h.row i hi).1.block (hb _ (h.fr i hi)), (h.row i hi).2⟩
  ord := ownsRow_block h.ord fun q hq => hb q (h.fo q hq)
  mem := h.mem.block (hb _ h.fm)
  mrow := fun i hi => (h.mrow i hi).block (hb _ (h.fb i hi))
  mlen := h.mlen
  liv := h.liv
  inj1 := h.inj1
  inj2 := h.inj2
  inj3 := h.inj3
  nd := h.nd
  n0 := h.n0
  n1 := h.n1
  l0 := h.l0
  l1 := h.l1
  fd := hF _ h.fd
  fs := hF _ h.fs
  fm := hF _ h.fm
  fo := fun q hq => hF q (h.fo q hq)
  fr := fun i hi => hF _ (h.fr i hi)
  fb := fun i hi => hF _ (h.fb i hi)
  flt := hl
theorem DevIs.below (h : DevIs w F d D Y live) (hb : Below w.heap.size w w') : DevIs w' F d D Y live :=
  h.same (fun k hk => hb.block k (h.flt k hk)) (fun _ hk => hk) (fun k hk => Nat.lt_of_lt_of_le (h.flt k hk) hb.size)
/-- what is written by others -/
theorem DevIs.keep {G : Nat → Prop} (h : DevIs w F d D Y live) (hk : Keep G w w') (hG : ∀ k, F k → ¬ G k) : DevIs w' F d D Y live :=
  h.same (fun k hf => hk.block k (h.flt k hf) (hG k hf)) (fun _ hk => hk) (fun k hf => Nat.lt_of_lt_of_le (h.flt k hf) hk.size)
theorem DevIs.ne_cells {g : Nat} {cur cur' : Array Value} {t t' : TypeId} (h1 : w.heap[g]? = some (.cells cur t (0, 0))) {g' : Nat} (h2 : w.heap[g']? = some (.cells cur' t' (0, 0))) (hne : t ≠ t') : g ≠ g' := fun e => by
  rw [e, h2] at h1
  injection h1 with h1
  injection h1 with _ h1
  exact hne h1.symm
theorem DevIs.ne_map {g : Nat} {cur : Array Value} {t : TypeId} (h1 : w.heap[g]? = some (.cells cur t (0, 0))) {b cnt : Nat} {f : Nat → Option Value} (h2 : IM Tryd.prog 3 natL w b f cnt) : g ≠ b := fun e => by
  obtain ⟨es, clock, hb⟩ := h2.isMap
  rw [e, hb] at h1
  cases h1
theorem DevIs.ne_row {g : Nat} {cur : Array Value} {t : TypeId} (h1 : w.heap[g]? = some (.cells cur t (0, 0))) {e g' cap : Nat} {l : Bytes} (h2 : Row w e g' cap l) (hne : t ≠ e) : g ≠ g' := by
  obtain ⟨cur', h0, _⟩ := h2
  exact DevIs.ne_cells h1 h0 hne
theorem DevIs.ne_own {g : Nat} {cur : Array Value} {t : TypeId} (h1 : w.heap[g]? = some (.cells cur t (0, 0))) {base : Nat} {e : TypeId} {size : Nat} {v : Value} {n : Nat} {xs : List Value} (h2 : w.ownsRow base e size v n xs) (hne : t ≠ e) : v.ownBlock ≠ some g := fun he => by
  rcases h2.2 with ⟨rfl, _⟩ | ⟨g', cap', cur', rfl, _, hh', _⟩
  · simp [Value.ownBlock] at he
  · obtain rfl : g' = g := by simpa [Value.ownBlock] using he
    exact DevIs.ne_cells h1 hh' hne rfl
/-- the device's own block turned: another order, other steps left, up or down -/
theorem DevIs.head (h : DevIs w F d D Y live) (l' : Int) (b' : Bool)
    (hh : w'.heap[d]? = some (.cells #[.slice (some ⟨Y.gs, 0, none⟩) D.S.length Y.cs, .map (some Y.gm), Y.vo, .int .i64 l', .bool b'] 115 (0, 0)))
    (hb : ∀ k, F k → k ≠ d → w'.heap[k]? = w.heap[k]?) (hs : w.heap.size ≤ w'.heap.size) (h0 : -1 ≤ l') (h1 : l' ≤ 9223372036854775807) : DevIs w' F d { D with left := l', down := b' } Y live where
  hd := hh
  sec := by
    obtain ⟨cur, h0, h1⟩ := h.sec
    exact ⟨cur, (hb _ h.fs (DevIs.ne_cells h.hd h0 (by decide)).symm).trans h0, h1⟩
  cap := h.cap
  row := fun i hi => ⟨(h.row i hi).1.block (hb _ (h.fr i hi) (DevIs.ne_row h.hd (h.row i hi).1 (by decide)).symm), (h.row i hi).2⟩
  ord := ownsRow_block h.ord fun q hq => hb q (h.fo q hq) (fun e => DevIs.ne_own h.hd h.ord (by decide) (by rw [hq, e]))
  mem := h.mem.block (hb _ h.fm (DevIs.ne_map h.hd h.mem).symm)
  mrow := fun i hi => (h.mrow i hi).block (hb _ (h.fb i hi) (DevIs.ne_row h.hd (h.mrow i hi) (by decide)).symm)
  mlen := h.mlen
  liv := h.liv
  inj1 := h.inj1
  inj2 := h.inj2
  inj3 := h.inj3
  nd := h.nd
  n0 := h.n0
  n1 := h.n1
  l0 := h0
  l1 := h1
  fd := h.fd
  fs := h.fs
  fm := h.fm
  fo := h.fo
  fr := h.fr
  fb := h.fb
  flt := fun k hk => Nat.lt_of_lt_of_le (h.flt k hk) hs
end
end Go.Proofs.YtlkibidblpdjcaaDoor
