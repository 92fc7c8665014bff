/- Contracts and plain laws, put together: Lst0, ErrI, PagesSf, Open3, Open6, Told, Told2, Told3. -/
import Derived.Test.YtgejkhokijjemaaDoorPagesRowFrameM1
import Derived.Test.YtgejkhokijjemaaDoorPagesRowFrameM2
import Derived.Deep.Grids
import Derived.LaidEql
import Derived.Stop.Asserts
import Derived.RowKitTokens
/- A list of rows of one's own, beside a device; what is pending; booleans that came in. -/
namespace Go.Proofs.YtgejkhokijjemaaDoor
open Go.RowKit Go.Maps Go.ChangeMaps

theorem mk_lists (z : Int) (n : Nat) (hz : z = n) (hn : n ≤ 100000) (w : World) :
    (Instr.makeSlice 39 (.int .i64 z) (.int .i64 z)).run Tryd.prog w = .ok (.slice (some ⟨w.heap.size, 0, none⟩) n n) (w.alloc (.cells (Array.replicate n (.slice none 0 0)) 48)) := by
  subst hz
  obtain ⟨i0, hi0, hz0, hz1, hz2⟩ := info_parts list_info
  have hr := run_make (P := Tryd.prog) w 39 48 i0 _ Tryd.underlying39 hi0 hz0 .i64 .i64 n n (by omega) (by omega) (by rw [hz2]; omega) (by omega)
  simp only [Int.toNat_natCast, hz1, Nat.mul_one] at hr
  have hcells : madeCells (Value.slice none 0 0).cells n = Array.replicate n (.slice none 0 0) := by
    apply Array.ext'
    rw [show (Value.slice none 0 0).cells = #[Value.slice none 0 0] from rfl, toList_madeCells_one]
    simp
  rw [hcells] at hr
  exact hr
/-- block go has rows: the first k of n read as f says; none of it is a device's -/
def Lst (w : World) (F : Nat → Prop) (go n k : Nat) (f : Nat → Bytes) : Prop :=
  ∃ (ob oc : Nat → Nat), (∃ cur, w.heap[go]? = some (.cells cur 48 (0, 0)) ∧ cur.size = n ∧ ∀ i, i < k → cur[i]? = some (rowV (ob i) (oc i))) ∧ (∀ i, i < k → Row w 5 (ob i) (oc i) (f i) ∧ (f i).length = 32 ∧ ¬ F (ob i)) ∧ ¬ F go
section
variable {w w' : World} {F F' : Nat → Prop} {go n k : Nat} {f : Nat → Bytes}
theorem Lst.made (w : World) (F : Nat → Prop) (n : Nat) (f : Nat → Bytes) (hF : ∀ k, F k → k < w.heap.size) : Lst (w.alloc (.cells (Array.replicate n (.slice none 0 0)) 48)) F w.heap.size n 0 f :=
  ⟨fun _ => 0, fun _ => 0, ⟨_, heap_alloc_new w _, by simp, fun i hi => by omega⟩, fun i hi => by omega, fun hf => by have := hF _ hf; omega⟩
theorem Lst.keep (h : Lst w F go n k f) (hk : Keep F w w') (hF : ∀ k, F' k → F k ∨ w.heap.size ≤ k) : Lst w' F' go n k f := by
  obtain ⟨ob, oc, ⟨cur, h0, h1, h2⟩, h3, h4⟩ := h
  have hgl := (Array.getElem?_eq_some_iff.1 h0).1
  refine ⟨ob, oc, ⟨cur, (hk.block go hgl h4).trans h0, h1, h2⟩, fun i hi => ?_, fun hf => ?_⟩
  · obtain ⟨hr, hl, hn⟩ := h3 i hi
    refine ⟨hk.row hr hn, hl, fun hf => ?_⟩
    rcases hF _ hf with h' | h'
    · exact hn h'
    · have := hr.lt; omega
  · rcases hF _ hf with h' | h'
    · exact h4 h'
    · omega
theorem Lst.below (h : Lst w F go n k f) (hb : Below w.heap.size w w') : Lst w' F go n k f := h.keep (Keep.of_below hb) (fun _ hk => .inl hk)
theorem Lst.push (h : Lst w F go n k f) (hk : k < n) {g cap : Nat} (hr : Row w 5 g cap (f k)) (hl : (f k).length = 32) (hg : ¬ F g) : Lst (w.setCell ⟨go, k, none⟩ (rowV g cap)) F go n (k + 1) f := by
  obtain ⟨ob, oc, ⟨cur, h0, h1, h2⟩, h3, h4⟩ := h
  have hrow : ∀ {q c : Nat} {l : Bytes}, Row w 5 q c l → Row (w.setCell ⟨go, k, none⟩ (rowV g cap)) 5 q c l := fun {q c l} hr =>
    hr.block (Below.heap_setCell _ _ _ _ (DevIs.ne_row h0 hr (by decide)).symm)
  refine ⟨fun i => if i = k then g else ob i, fun i => if i = k then cap else oc i, ⟨_, heap_set5 h0 _, by simpa using h1, fun i hi => ?_⟩, fun i hi => ?_, h4⟩
  · rw [Array.getElem?_setIfInBounds]
    by_cases hik : k = i
    · subst hik; simp [h1, hk]
    · rw [if_neg hik]
      simp only [if_neg (fun e : i = k => hik e.symm)]
      exact h2 i (by omega)
  · by_cases hik : i = k
    · subst hik
      simp only [if_true]
      exact ⟨hrow hr, hl, hg⟩
    · simp only [if_neg hik]
      obtain ⟨a, b, c⟩ := h3 i (by omega)
      exact ⟨hrow a, b, c⟩
theorem Lst.cell (h : Lst w F go n k f) (i : Nat) (hi : i < k) : ∃ g c, w.cell? ⟨go, i, none⟩ = some (.slice (some ⟨g, 0, none⟩) 32 c) ∧ Row w 5 g c (f i) ∧ (f i).length = 32 := by
  obtain ⟨ob, oc, ⟨cur, h0, h1, h2⟩, h3, h4⟩ := h
  refine ⟨ob i, oc i, ?_, (h3 i hi).1, (h3 i hi).2.1⟩
  rw [cell_of_row w go i cur _ _ h0]; exact h2 i hi
theorem Lst.slot (h : Lst w F go n k f) (hk : k < n) : (∃ v, w.cell? ⟨go, k, none⟩ = some v) ∧ w.frozen? ⟨go, k, none⟩ = false := by
  obtain ⟨ob, oc, ⟨cur, h0, h1, h2⟩, h3, h4⟩ := h
  refine ⟨⟨cur[k]'(by omega), ?_⟩, frozen_of_row w go k cur _ h0⟩
  rw [cell_of_row w go k cur _ _ h0]; exact Array.getElem?_eq_getElem _
theorem Lst.keepSet (_h : Lst w F go n k f) (v : Value) : Keep (fun q => q = go) w (w.setCell ⟨go, k, none⟩ v) := Keep.setCell (F := fun q => q = go) (Keep.refl _ _) (p := ⟨go, k, none⟩) (.inl rfl) _
end
theorem Lst.setOther {w : World} {F : Nat → Prop} {go n k go2 q : Nat} {f : Nat → Bytes} (h : Lst w F go n k f) (hne : go ≠ go2) {cur2 : Array Value} (h2 : w.heap[go2]? = some (.cells cur2 48 (0, 0))) (v : Value) : Lst (w.setCell ⟨go2, q, none⟩ v) F go n k f := by
  obtain ⟨ob, oc, ⟨cur, h0, h1, h3⟩, h4, h5⟩ := h
  refine ⟨ob, oc, ⟨cur, (Below.heap_setCell _ _ _ _ hne).trans h0, h1, h3⟩, fun i hi => ?_, h5⟩
  obtain ⟨a, b, c⟩ := h4 i hi
  exact ⟨a.block (Below.heap_setCell _ _ _ _ (DevIs.ne_row h2 a (by decide)).symm), b, c⟩
theorem Lst.blk {w : World} {F : Nat → Prop} {go n k : Nat} {f : Nat → Bytes} (h : Lst w F go n k f) : (∃ cur, w.heap[go]? = some (.cells cur 48 (0, 0))) ∧ ¬ F go := by
  obtain ⟨ob, oc, ⟨cur, h0, h1, h3⟩, h4, h5⟩ := h
  exact ⟨⟨cur, h0⟩, h5⟩
/-- what is pending, as Pending gave it -/
def Pnd (w : World) (F : Nat → Prop) (base : Nat) (v : Value) (O : List Nat) : Prop := w.ownsRow base 3 1 v O.length (O.map fun i : Nat => .int .i64 (i : Int)) ∧ ∀ q, v.ownBlock = some q → ¬ F q
theorem Pnd.keep {w w' : World} {F : Nat → Prop} {base : Nat} {v : Value} {O : List Nat} (h : Pnd w F base v O) (hk : Keep F w w') : Pnd w' F base v O :=
  ⟨ownsRow_block h.1 fun q hq => hk.block q (h.1.lt q hq).2 (h.2 q hq), h.2⟩
theorem Pnd.below {w w' : World} {F : Nat → Prop} {base : Nat} {v : Value} {O : List Nat} (h : Pnd w F base v O) (hb : Below w.heap.size w w') : Pnd w' F base v O := h.keep (Keep.of_below hb)
theorem Pnd.setOther {w : World} {F : Nat → Prop} {base go2 q : Nat} {v u : Value} {O : List Nat} (h : Pnd w F base v O) {cur2 : Array Value} (h2 : w.heap[go2]? = some (.cells cur2 48 (0, 0))) : Pnd (w.setCell ⟨go2, q, none⟩ u) F base v O :=
  ⟨ownsRow_block h.1 fun p hp => Below.heap_setCell _ _ _ _ (fun e => DevIs.ne_own h2 h.1 (by decide) (by rw [hp, e])), h.2⟩
theorem rdb_of {w : World} {A : Option Addr} {l : List Bool} (h : RdX (fun b => [.bool b]) 1 w A l) : RdB w A l := fun j hj => by
  obtain ⟨b, off, hA, hc⟩ := h j hj
  refine ⟨b, off, hA, ?_⟩
  have := hc 0 (.bool l[j]) rfl
  rwa [Nat.mul_one, Nat.add_zero] at this
theorem RdB.below {w w' : World} {A : Option Addr} {l : List Bool} (h : RdB w A l) (hb : Below w.heap.size w w') : RdB w' A l := fun j hj => by
  obtain ⟨b, off, hA, hc⟩ := h j hj
  exact ⟨b, off, hA, (hb.cell (p := ⟨b, off + j, none⟩) (block_lt_of_cell hc)).trans hc⟩
theorem newD_up (n : Nat) : Up (newD n) := ⟨rfl, rfl⟩
end Go.Proofs.YtgejkhokijjemaaDoor
/- Is an error nil? As equations, for a walk. -/
namespace Go.Proofs.YtgejkhokijjemaaDoor
open Go.RowKit

/-- is an error nil? -/
def ErrIs (err : Value) (b : Bool) : Prop := (∀ (W : World) (x : Operand), (eqGuard .eql 24 x (.const .nilIface) err .nilIface).run Tryd.prog W = .ok () W) ∧ (∀ (W : World) (x : Operand), (eqGuard .neq 24 x (.const .nilIface) err .nilIface).run Tryd.prog W = .ok () W) ∧ (∀ W : World, (binOp .eql 24 err .nilIface).run Tryd.prog W = .ok (.bool b) W) ∧ (∀ W : World, (binOp .neq 24 err .nilIface).run Tryd.prog W = .ok (.bool (!b)) W)
theorem errIs_nil : ErrIs .nilIface true := ⟨fun W x => by go_simp, fun W x => by go_simp, fun W => by go_simp, fun W => by go_simp⟩
theorem errIs_some (k : Int) : ErrIs (.iface 121 (.int .i64 k)) false := ⟨fun W x => by go_simp, fun W x => by go_simp, fun W => by go_simp, fun W => by go_simp⟩
theorem errIs_errV (k : Nat) : ErrIs (errV k) (k == 0) := by
  by_cases h : k = 0
  · subst h; exact errIs_nil
  · have : (k == 0) = false := by simpa using h
    rw [this]
    unfold errV
    rw [if_neg h]
    exact errIs_some k
end Go.Proofs.YtgejkhokijjemaaDoor
/- Pages as a law plays with them: what a run keeps; rows that may be the argument's own. -/
namespace Go.Proofs.YtgejkhokijjemaaDoor
open Go.RowKit Go.Maps Go.ChangeMaps

theorem pgsR_of {w w' : World} {F : Nat → Prop} {A : Option Addr} {L : List PgX} (hr : RdX pcells 2 w A L) (ho : ∀ x ∈ L, PgOk w x) (hF : ∀ k, F k → w.heap.size ≤ k) (hb : Below w.heap.size w w') : PgsR w' F A L :=
  ⟨hr.below hb, fun hl ad e hf => by have := hr.lt_ hl ad e; have := hF _ hf; omega, fun x hx => (ho x hx).rd.below hb, fun x hx h0 ad e hf => by
    obtain ⟨q, off, e2, hq⟩ := (ho x hx).rd.lt h0
    rw [e2] at e
    obtain rfl := Option.some.inj e
    have := hF _ hf
    dsimp only at this; omega⟩
section
variable {w0 w w' : World} {F F' : Nat → Prop} {p d st n : Nat} {D : Dv}
theorem pread_ok (h : DevB w0 w F d D) (hp : PgH w F p d st (nP D)) (i : Nat) (hi : i < nP D) (hd : D.down = false) :
    Calls Tryd.prog 39 #[.pointer (some ⟨p, 0, none⟩), .int .i64 (i : Int)] w fun e w' => ∃ g cap, e = .returned (.tuple #[.slice (some ⟨g, 0, none⟩) 32 cap, .nilIface]) ∧ w.heap.size ≤ g ∧ Row w' 5 g cap (readD D (48 + i)) ∧ Below w.heap.size w w' := by
  obtain ⟨c0, c1, c2⟩ := hp.cell
  have hn := nP_le D
  have h48 : 48 + i < D.S.length := by unfold nP at hi; omega
  have HR := Hidden.mk (h.read (48 + i) h48 hd)
  have e : (((48 + i : Nat)) : Int) = 48 + (i : Int) := by omega
  rw [e] at HR
  have d1 : decide ((i : Int) < 0) = false := by simp
  have d2 : decide ((nP D : Int) ≤ (i : Int)) = false := by simp; omega
  have d3 : decide (nP D ≤ i) = false := by simp; omega
  have hi2 : (i : Int) ≤ 200 := by omega
  clear h hp hi hd h48 e
  go_enter Tryd.func39, Tryd.ntmps39
  go_wp2_with fail
  refine HR.out.mono ?_
  rintro e w1 ⟨g, cap, rfl, hg, hrow, -, hb, -⟩
  have H := Hidden.mk (And.intro hg (And.intro hrow hb))
  clear hg hrow hb HR
  go_wp2_with fail
  go_ret2
  exact ⟨g, cap, rfl, H.out⟩
/-- Pages beside another block that is written -/
theorem PgH.setOther (h : PgH w F p d st n) {go q : Nat} (hne : p ≠ go) (v : Value) : PgH (w.setCell ⟨go, q, none⟩ v) F p d st n := ⟨(Below.heap_setCell _ _ _ _ hne).trans h.1, h.2⟩
theorem PgH.ne_cells (h : PgH w F p d st n) {go : Nat} {cur : Array Value} {t : TypeId} (h2 : w.heap[go]? = some (.cells cur t (0, 0))) (ht : 148 ≠ t) : p ≠ go := Go.Proofs.YtgejkhokijjemaaDoor.ne_cells h.1 h2 ht
end
theorem OpAns.uni {w0 w w' : World} {F : Nat → Prop} {d st : Nat} {D : Dv} {r : Dv × Nat} {e : Ending} (h : OpAns w0 w F d D r st e w') :
    ∃ v F', e = .returned (.tuple #[v, errV r.2]) ∧ PdM w0 w w' F F' d r.1 ∧ (r.2 = 0 → ∃ p, v = .pointer (some ⟨p, 0, none⟩) ∧ PgH w' F' p d st (nP D) ∧ w.heap.size ≤ p) := by
  obtain ⟨F', hm, ⟨h0, p, he, hp, hn⟩ | ⟨h0, he⟩⟩ := h
  · exact ⟨_, F', by rw [he, h0]; rfl, hm, fun _ => ⟨p, rfl, hp, hn⟩⟩
  · exact ⟨_, F', he, hm, fun e => absurd e h0⟩
/-- the page that is wanted, when the commit is done -/
def wantF (pg : Nat → Bytes) (M : List (Int × Bytes)) (i j : Nat) : Bytes := updPg pg (M.take j) i
theorem wantF_succ (pg : Nat → Bytes) (M : List (Int × Bytes)) (i j : Nat) (hj : j < M.length) : wantF pg M i (j + 1) = if M[j].1 = (i : Int) then M[j].2 else wantF pg M i j := by
  unfold wantF updPg
  rw [List.take_succ_eq_append_getElem hj, List.foldl_append]
  rfl
/-- the pages are as the plain law says, and the power is there -/
structure SfP (nn n : Nat) (D : Dv) (st : Nat) (pg : Nat → Bytes) : Prop where
  full : ∃ l, Full n D st l pg
  wf : WfD D
  up : Up D
  len : D.S.length = nn
  n0 : n = nP D
theorem SfP.commit {nn n : Nat} {D : Dv} {st : Nat} {pg : Nat → Bytes} (h : SfP nn n D st pg) (m : List (Int × Bytes)) :
    ∃ pg', SfP nn n (commitP st n m D).1 (if (commitP st n m D).2 = 0 ∧ m.length ≠ 0 then st + 1 else st) pg' ∧ ((commitP st n m D).2 = 0 → pg' = updPg pg m ∧ ChkOk n m) := by
  obtain ⟨l, hl⟩ := h.full
  have H := commit_safe m hl h.wf
  have hu := commit_stays h.up st n m
  have hn0 : n = nP (commitP st n m D).1 := by
    rw [show nP (commitP st n m D).1 = nP D from by unfold nP; rw [H.len]]; exact h.n0
  by_cases h0 : (commitP st n m D).2 = 0
  · by_cases hm : m.length = 0
    · have e := H.none_ h0 hm
      have hm' : m = [] := List.eq_nil_of_length_eq_zero hm
      rw [if_neg (fun x => x.2 hm)]
      refine ⟨pg, ⟨⟨l, by rw [e]; exact hl⟩, H.wf, hu.1, H.len.trans h.len, hn0⟩, fun _ => ⟨by rw [hm']; rfl, by rw [hm']; exact ⟨by simp, by simp, by simp⟩⟩⟩
    · obtain ⟨a, b, c, e⟩ := H.done h0 hm
      rw [if_pos ⟨h0, hm⟩]
      exact ⟨_, ⟨⟨_, a⟩, H.wf, hu.1, H.len.trans h.len, hn0⟩, fun _ => ⟨rfl, e⟩⟩
  · rw [if_neg (fun x => h0 x.1)]
    exact ⟨pg, ⟨⟨l, by rw [H.bad h0 hu.2]; exact hl⟩, H.wf, hu.1, H.len.trans h.len, hn0⟩, fun x => absurd x h0⟩
theorem SfP.page {nn n : Nat} {D : Dv} {st : Nat} {pg : Nat → Bytes} (h : SfP nn n D st pg) (i : Nat) (hi : i < n) : readD D (48 + i) = pg i ∧ (pg i).length = 32 := by
  obtain ⟨l, hl⟩ := h.full
  have := (hl.all i hi).2
  refine ⟨this, ?_⟩
  rw [← this]
  refine h.wf.rd ?_
  have := hl.hold.lens
  omega
theorem SfP.commit2 {nn n : Nat} {D : Dv} {st : Nat} {pg : Nat → Bytes} (h : SfP nn n D st pg) (m : List (Int × Bytes)) :
    SfP nn n (commitP st n m D).1 (if (commitP st n m D).2 = 0 ∧ m.length ≠ 0 then st + 1 else st) (if (commitP st n m D).2 = 0 then updPg pg m else pg) ∧ ((commitP st n m D).2 = 0 → ChkOk n m) := by
  obtain ⟨l, hl⟩ := h.full
  have H := commit_safe m hl h.wf
  have hu := commit_stays h.up st n m
  have hn0 : n = nP (commitP st n m D).1 := by
    rw [show nP (commitP st n m D).1 = nP D from by unfold nP; rw [H.len]]; exact h.n0
  by_cases h0 : (commitP st n m D).2 = 0
  · by_cases hm : m.length = 0
    · have e := H.none_ h0 hm
      have hm' : m = [] := List.eq_nil_of_length_eq_zero hm
      rw [if_neg (fun x => x.2 hm), if_pos h0]
      have hup : updPg pg m = pg := by rw [hm']; rfl
      rw [hup]
      refine ⟨⟨⟨l, by rw [e]; exact hl⟩, H.wf, hu.1, H.len.trans h.len, hn0⟩, fun _ => by rw [hm']; exact ⟨by simp, by simp, by simp⟩⟩
    · obtain ⟨a, b, c, e⟩ := H.done h0 hm
      rw [if_pos ⟨h0, hm⟩, if_pos h0]
      exact ⟨⟨⟨_, a⟩, H.wf, hu.1, H.len.trans h.len, hn0⟩, fun _ => e⟩
  · rw [if_neg (fun x => h0 x.1), if_neg h0]
    exact ⟨⟨⟨l, by rw [H.bad h0 hu.2]; exact hl⟩, H.wf, hu.1, H.len.trans h.len, hn0⟩, fun x => absurd x h0⟩
/-- an entry: a row of one's own, or what came in -/
def NowE (w0 w : World) (F : Nat → Prop) (A : Option Addr) (c : Nat) (l : Bytes) : Prop :=
  Rd w0 A l ∨ ∃ g, A = some ⟨g, 0, none⟩ ∧ Row w 5 g c l ∧ ¬ F g
/-- block go holds n entries that read as f says -/
def NowL (w0 w : World) (F : Nat → Prop) (go n : Nat) (f : Nat → Bytes) : Prop :=
  ∃ (oA : Nat → Option Addr) (oc : Nat → Nat), (∃ cur, w.heap[go]? = some (.cells cur 48 (0, 0)) ∧ cur.size = n ∧ ∀ i, i < n → cur[i]? = some (.slice (oA i) 32 (oc i))) ∧ (∀ i, i < n → NowE w0 w F (oA i) (oc i) (f i) ∧ (f i).length = 32) ∧ ¬ F go
section
variable {w0 w w' : World} {F F' : Nat → Prop} {go n : Nat} {f : Nat → Bytes}
theorem NowE.rd {A : Option Addr} {c : Nat} {l : Bytes} (h : NowE w0 w F A c l) (hb : Below w0.heap.size w0 w) : Rd w A l := by
  rcases h with h | ⟨g, rfl, h, -⟩
  · exact h.below hb
  · exact h.rd
theorem NowL.of (h : Lst w F go n n f) : NowL w0 w F go n f := by
  obtain ⟨ob, oc, ⟨cur, h0, h1, h2⟩, h3, h4⟩ := h
  exact ⟨fun i => some ⟨ob i, 0, none⟩, oc, ⟨cur, h0, h1, h2⟩, fun i hi => ⟨.inr ⟨ob i, rfl, (h3 i hi).1, (h3 i hi).2.2⟩, (h3 i hi).2.1⟩, h4⟩
theorem NowL.keep (h : NowL w0 w F go n f) (hk : Keep F w w') (hF : ∀ k, F' k → F k ∨ w.heap.size ≤ k) : NowL w0 w' F' go n f := by
  obtain ⟨oA, oc, ⟨cur, h0, h1, h2⟩, h3, h4⟩ := h
  have hgl := (Array.getElem?_eq_some_iff.1 h0).1
  refine ⟨oA, oc, ⟨cur, (hk.block go hgl h4).trans h0, h1, h2⟩, fun i hi => ⟨?_, (h3 i hi).2⟩, fun hf => ?_⟩
  · rcases (h3 i hi).1 with h | ⟨g, e, hr, hn⟩
    · exact .inl h
    · refine .inr ⟨g, e, hk.row hr hn, fun hf => ?_⟩
      rcases hF _ hf with h' | h'
      · exact hn h'
      · have := hr.lt; omega
  · rcases hF _ hf with h' | h'
    · exact h4 h'
    · omega
theorem NowL.below (h : NowL w0 w F go n f) (hb : Below w.heap.size w w') : NowL w0 w' F go n f := h.keep (Keep.of_below hb) (fun _ hk => .inl hk)
theorem NowL.cm {p d st m : Nat} (h : NowL w0 w F go n f) (hp : PgH w F p d st m) (hk : Keep (fun q => F q ∨ q = p) w w') (hF : ∀ q, F' q → F q ∨ w.heap.size ≤ q) : NowL w0 w' F' go n f := by
  have h2 : NowL w0 w (fun q => F q ∨ q = p) go n f := by
    obtain ⟨oA, oc, ⟨cur, h0, h1⟩, h3, h4⟩ := h
    refine ⟨oA, oc, ⟨cur, h0, h1⟩, fun i hi => ⟨?_, (h3 i hi).2⟩, ?_⟩
    · rcases (h3 i hi).1 with h | ⟨g, e, hr, hn⟩
      · exact .inl h
      · exact .inr ⟨g, e, hr, fun hf => hf.elim hn (fun e => ne_row hp.1 hr (by decide) e.symm)⟩
    · exact fun hf => hf.elim h4 (fun e => Go.Proofs.YtgejkhokijjemaaDoor.ne_cells hp.1 h0 (by decide) e.symm)
  refine h2.keep hk fun q hq => ?_
  rcases hF q hq with h' | h'
  · exact .inl (.inl h')
  · exact .inr h'
theorem NowL.set (h : NowL w0 w F go n f) {i c : Nat} {A : Option Addr} {b : Bytes} (hi : i < n) (hr : Rd w0 A b) (hb : b.length = 32) : NowL w0 (w.setCell ⟨go, i, none⟩ (.slice A 32 c)) F go n (fun j => if j = i then b else f j) := by
  obtain ⟨oA, oc, ⟨cur, h0, h1, h2⟩, h3, h4⟩ := h
  have hrow : ∀ {q c' : Nat} {l : Bytes}, Row w 5 q c' l → Row (w.setCell ⟨go, i, none⟩ (.slice A 32 c)) 5 q c' l := fun {q c' l} hr =>
    hr.block (Below.heap_setCell _ _ _ _ (DevIs.ne_row h0 hr (by decide)).symm)
  refine ⟨fun j => if j = i then A else oA j, fun j => if j = i then c else oc j, ⟨_, heap_set5 h0 _, by simpa using h1, fun j hj => ?_⟩, fun j hj => ?_, h4⟩
  · rw [Array.getElem?_setIfInBounds]
    by_cases hik : i = j
    · subst hik; simp [h1, hj]
    · rw [if_neg hik]
      simp only [if_neg (fun e : j = i => hik e.symm)]
      exact h2 j hj
  · by_cases hik : j = i
    · subst hik
      simp only [if_true]
      exact ⟨.inl hr, hb⟩
    · simp only [if_neg hik]
      refine ⟨?_, (h3 j hj).2⟩
      rcases (h3 j hj).1 with h | ⟨g, e, hr', hn⟩
      · exact .inl h
      · exact .inr ⟨g, e, hrow hr', hn⟩
theorem NowL.cell (h : NowL w0 w F go n f) (i : Nat) (hi : i < n) : ∃ A c, w.cell? ⟨go, i, none⟩ = some (.slice A 32 c) ∧ NowE w0 w F A c (f i) ∧ (f i).length = 32 := by
  obtain ⟨oA, oc, ⟨cur, h0, h1, h2⟩, h3, h4⟩ := h
  refine ⟨oA i, oc i, ?_, (h3 i hi).1, (h3 i hi).2⟩
  rw [cell_of_row w go i cur _ _ h0]; exact h2 i hi
theorem NowL.slot (h : NowL w0 w F go n f) {k : Nat} (hk : k < n) : (∃ v, w.cell? ⟨go, k, none⟩ = some v) ∧ w.frozen? ⟨go, k, none⟩ = false := by
  obtain ⟨oA, oc, ⟨cur, h0, h1, h2⟩, h3, h4⟩ := h
  refine ⟨⟨cur[k]'(by omega), ?_⟩, frozen_of_row w go k cur _ h0⟩
  rw [cell_of_row w go k cur _ _ h0]; exact Array.getElem?_eq_getElem _
theorem NowL.blk (h : NowL w0 w F go n f) : (∃ cur, w.heap[go]? = some (.cells cur 48 (0, 0))) ∧ ¬ F go := by
  obtain ⟨oA, oc, ⟨cur, h0, h1, h3⟩, h4, h5⟩ := h
  exact ⟨⟨cur, h0⟩, h5⟩
theorem NowL.keepSet (_h : NowL w0 w F go n f) (k : Nat) (v : Value) : Keep (fun q => q = go) w (w.setCell ⟨go, k, none⟩ v) := Keep.setCell (F := fun q => q = go) (Keep.refl _ _) (p := ⟨go, k, none⟩) (.inl rfl) _
theorem NowL.ext {f' : Nat → Bytes} (h : NowL w0 w F go n f) (he : ∀ i, i < n → f' i = f i) : NowL w0 w F go n f' := by
  obtain ⟨oA, oc, h0, h3, h4⟩ := h
  exact ⟨oA, oc, h0, fun i hi => by rw [he i hi]; exact h3 i hi, h4⟩
end
/-- all that the law keeps at hand -/
structure PrSt (w wr : World) (F : Nat → Prop) (d go n p : Nat) (D : Dv) (st : Nat) (pg : Nat → Bytes) : Prop where
  dev : DevB w wr F d D
  pgh : PgH wr F p d st n
  nl : NowL w wr F go n pg
  gn : w.heap.size ≤ go
  pn : w.heap.size ≤ p
theorem PrSt.below {w wr w' : World} {F : Nat → Prop} {d go n p : Nat} {D : Dv} {st : Nat} {pg : Nat → Bytes} (h : PrSt w wr F d go n p D st pg) (hb : Below wr.heap.size wr w') : PrSt w w' F d go n p D st pg :=
  ⟨h.dev.below hb, h.pgh.below hb, h.nl.below hb, h.gn, h.pn⟩
/-- the entry i is what a commit brought -/
theorem PrSt.put {w wr : World} {F : Nat → Prop} {d go n p : Nat} {D : Dv} {st : Nat} {pg : Nat → Bytes} (h : PrSt w wr F d go n p D st pg) {i c : Nat} {A : Option Addr} {b : Bytes} (hi : i < n) (hr : Rd w A b) (hb : b.length = 32) : PrSt w (wr.setCell ⟨go, i, none⟩ (.slice A 32 c)) F d go n p D st (fun j => if j = i then b else pg j) := by
  obtain ⟨⟨cur, hcur⟩, hnf⟩ := h.nl.blk
  exact ⟨h.dev.keep (h.nl.keepSet i _) (fun q hq e => hnf (e ▸ hq)) (fun q hq => by rw [hq]; exact h.gn), h.pgh.setOther (h.pgh.ne_cells hcur (by decide)) _, h.nl.set hi hr hb, h.gn, h.pn⟩
end Go.Proofs.YtgejkhokijjemaaDoor
/- What comes in: the program's own slices, opened. -/
namespace Go.Proofs.YtgejkhokijjemaaDoor
open Go.RowKit Go.ChangeShapes Go.WideShapes Go.ChangeAt

section
variable {H : Type} {enc : TypeId × Value → H} {w : World} {v : Value} {d : DataW H} {ps : List MemPlace} {base : Nat} {r : Reach}
set_option maxRecDepth 20000 in
theorem open_pages (hv : Value.okWide Tryd.prog w r base 73 v) (h : DataW.Trod enc Tryd.prog w 0 (fun _ => true) true 73 v d ps) (hz : (d.weights Tryd.prog 73).all (· ≤ reachBytes) = true) :
    ∃ (A : Option Addr) (c : Nat) (L : List PgX), v = .slice A L.length c ∧ L.length ≤ c ∧ c ≤ 140737488351232 ∧ (∀ x ∈ L, PgOk w x) ∧ RdX pcells 2 w A L := by
  have hb : decide (1 ≤ Tryd.prog.bytesOf 75) = true := by kernel_rfl
  have hC : Tryd.prog.cellsOf 75 = 2 := by kernel_rfl
  refine open_seq (P := Tryd.prog) pcells 2 PgOk Tryd.underlying73 hC (by omega) (of_decide_eq_true hb) (fun n cs x hl ht hz => ?_) hv h hz
  obtain ⟨v0, v1, y0, y1, m, rfl, t0, t1, z0, z1⟩ := open_two Tryd.underlying75 ⟨rfl, by kernel_rfl⟩ ⟨rfl, by kernel_rfl⟩ hl ht hz
  obtain ⟨a, ha, -, wa⟩ := DataW.trod_int Tryd.underlying3 t0
  obtain ⟨A, c, l, hb, hc, hm, hr⟩ := open_bytes_in Tryd.underlying48 Tryd.underlying5 (by kernel_rfl) (by kernel_rfl) t1 z1
  simp only [List.cons.injEq, and_true] at ha
  have hw := wf_i64' wa
  exact ⟨⟨a, A, c, l⟩, by rw [ha, hb]; rfl, hw.1, hw.2, hc, hm, hr⟩
set_option maxRecDepth 20000 in
/-- booleans that came in -/
theorem open_bools (hv : Value.okWide Tryd.prog w r base 40 v) (h : DataW.Trod enc Tryd.prog w 0 (fun _ => true) true 40 v d ps) (hz : (d.weights Tryd.prog 40).all (· ≤ reachBytes) = true) :
    ∃ (A : Option Addr) (c : Nat) (L : List Bool), v = .slice A L.length c ∧ L.length ≤ c ∧ c ≤ 140737488351232 ∧ (∀ x ∈ L, True) ∧ RdX (fun b => [.bool b]) 1 w A L := by
  have hb : decide (1 ≤ Tryd.prog.bytesOf 4) = true := by kernel_rfl
  have hC : Tryd.prog.cellsOf 4 = 1 := by kernel_rfl
  refine open_seq (P := Tryd.prog) (fun b => [.bool b]) 1 (fun _ _ => True) Tryd.underlying40 hC (by omega) (of_decide_eq_true hb) (fun n cs x hl ht hz => ?_) hv h hz
  match cs, hl with
  | [c0], _ =>
    obtain ⟨b, hb, _⟩ := DataW.trod_bool Tryd.underlying4 ht
    exact ⟨b, by simpa using hb, trivial⟩
set_option maxRecDepth 20000 in
/-- entries that came in -/
theorem open_entries (hv : Value.okWide Tryd.prog w r base 179 v) (h : DataW.Trod enc Tryd.prog w 0 (fun _ => true) true 179 v d ps) (hz : (d.weights Tryd.prog 179).all (· ≤ reachBytes) = true) :
    ∃ (A : Option Addr) (c : Nat) (L : List EntX), v = .slice A L.length c ∧ L.length ≤ c ∧ c ≤ 140737488351232 ∧ (∀ x ∈ L, EntOk w x) ∧ RdX xcells 4 w A L := by
  have hb : decide (1 ≤ Tryd.prog.bytesOf 125) = true := by kernel_rfl
  have hC : Tryd.prog.cellsOf 125 = 4 := by kernel_rfl
  refine open_seq (P := Tryd.prog) xcells 4 EntOk Tryd.underlying179 hC (by omega) (of_decide_eq_true hb) (fun n cs x hl ht _ => ?_) hv h hz
  match cs, hl with
  | [c0, c1, c2, c3], _ =>
    obtain ⟨xs, n, _, hx, _, hlen, hg⟩ := DataW.trod_struct Tryd.underlying125 ht
    match xs, hlen with
    | [y0, y1, y2], _ =>
      have k0 : Tryd.prog.cellsOf 3 = 1 := by kernel_rfl
      have k1 : Tryd.prog.cellsOf 123 = 2 := by kernel_rfl
      have t0 : DataW.trod enc Tryd.prog w 0 (fun _ => true) true n 3 [c0] = some y0 := by simpa [k0] using hg 0 _ rfl
      have t1 : DataW.trod enc Tryd.prog w 0 (fun _ => true) true n 123 [c1, c2] = some y1 := by simpa [k1] using hg 1 _ rfl
      have t2 : DataW.trod enc Tryd.prog w 0 (fun _ => true) true n 3 [c3] = some y2 := by simpa [k0] using hg 2 _ rfl
      obtain ⟨ys, n', _, hx', _, hlen', hg'⟩ := DataW.trod_struct Tryd.underlying123 t1
      match ys, hlen' with
      | [z0, z1], _ =>
        have u0 : DataW.trod enc Tryd.prog w 0 (fun _ => true) true n' 3 [c1] = some z0 := by simpa [k0] using hg' 0 _ rfl
        have u1 : DataW.trod enc Tryd.prog w 0 (fun _ => true) true n' 3 [c2] = some z1 := by simpa [k0] using hg' 1 _ rfl
        obtain ⟨a, ha, -, wa⟩ := DataW.trod_int Tryd.underlying3 t0
        obtain ⟨b, hb', -, wb⟩ := DataW.trod_int Tryd.underlying3 u0
        obtain ⟨c, hc, -, wc⟩ := DataW.trod_int Tryd.underlying3 u1
        obtain ⟨e, he, -, we⟩ := DataW.trod_int Tryd.underlying3 t2
        simp only [List.cons.injEq, and_true] at ha hb' hc he
        subst ha hb' hc he
        exact ⟨⟨a, b, c, e⟩, rfl, wf_i64' wa, wf_i64' wb, wf_i64' wc, wf_i64' we⟩
set_option maxRecDepth 20000 in
/-- roots that came in -/
theorem open_roots (hv : Value.okWide Tryd.prog w r base 32 v) (h : DataW.Trod enc Tryd.prog w 0 (fun _ => true) true 32 v d ps) (hz : (d.weights Tryd.prog 32).all (· ≤ reachBytes) = true) :
    ∃ (A : Option Addr) (c : Nat) (L : List RotX), v = .slice A L.length c ∧ L.length ≤ c ∧ c ≤ 140737488351232 ∧ (∀ x ∈ L, RotOk w x) ∧ RdX ycells 2 w A L := by
  have hb : decide (1 ≤ Tryd.prog.bytesOf 36) = true := by kernel_rfl
  have hC : Tryd.prog.cellsOf 36 = 2 := by kernel_rfl
  refine open_seq (P := Tryd.prog) ycells 2 RotOk Tryd.underlying32 hC (by omega) (of_decide_eq_true hb) (fun n cs x hl ht hz => ?_) hv h hz
  obtain ⟨v0, v1, y0, y1, m, rfl, t0, t1, z0, z1⟩ := open_two Tryd.underlying36 ⟨rfl, by kernel_rfl⟩ ⟨rfl, by kernel_rfl⟩ hl ht hz
  obtain ⟨s, ha, hy, -⟩ := DataW.trod_string Tryd.underlying9 t0
  obtain ⟨b, hb', -, wb⟩ := DataW.trod_int Tryd.underlying3 t1
  simp only [List.cons.injEq, and_true] at ha hb'
  subst ha hb' hy
  have h2 := of_decide_eq_true (List.all_eq_true.1 z0 s.data.toList.length (by simp [DataW.weights]))
  have h3 : reachBytes = 140737488351232 := by decide
  exact ⟨⟨s.data.toList, b⟩, rfl, by simp only at *; omega, wf_i64' wb⟩
end
end Go.Proofs.YtgejkhokijjemaaDoor
/- What comes in: slices of slices of pages, of numbers, of bytes. -/
namespace Go.Proofs.YtgejkhokijjemaaDoor
open Go.RowKit Go.ChangeShapes Go.WideShapes Go.ChangeAt

section
variable {H : Type} {enc : TypeId × Value → H} {P : Program} {w : World}
/-- a slice within something else -/
theorem open_seq_in {X : Type} [Inhabited X] (cells : X → List Value) (C : Nat) (ok : World → X → Prop) {t e : TypeId} {cs : List Value} {d : DataW H × List MemPlace} {n0 : Nat} (ht : P.underlying t = some (.slice e)) (hC : P.cellsOf e = C) (hC0 : 0 < C) (hb : 1 ≤ P.bytesOf e)
    (hel : ∀ n cs x, cs.length = C → DataW.trod enc P w 0 (fun _ => true) true n e cs = some x → (x.1.weights P e).all (· ≤ reachBytes) = true → ∃ y : X, cs = cells y ∧ ok w y)
    (hf : DataW.trod enc P w 0 (fun _ => true) true n0 t cs = some d) (hz : (d.1.weights P t).all (· ≤ reachBytes) = true) :
    ∃ (A : Option Addr) (c : Nat) (L : List X), cs = [.slice A L.length c] ∧ L.length ≤ c ∧ c ≤ 140737488351232 ∧ (∀ x ∈ L, ok w x) ∧ RdX cells C w A L := by
  rcases Go.Deep.open_slice ht hf with ⟨hcs, _⟩ | ⟨a, len0, m, m2, n, D, Pl, hcs, _, hl, hm, hmm, hx, hi⟩
  · exact ⟨none, 0, [], by simpa using hcs, by simp, by omega, fun x hx => by simp at hx, fun i hi => by simp at hi⟩
  · simp only [if_true] at hmm
    subst hmm
    rw [hx] at hz
    rw [DataW.weights, ht] at hz
    simp only [List.all_cons, List.all_append, Bool.and_eq_true, decide_eq_true_eq, List.length_map, List.length_range] at hz
    have hreach : m2 ≤ 140737488351232 := by
      have h3 : reachBytes = 140737488351232 := by decide
      have h4 := hz.1
      rw [h3] at h4
      have h5 : (len0 + (m2 - len0)) * 1 ≤ (len0 + (m2 - len0)) * P.bytesOf e := Nat.mul_le_mul_left _ hb
      omega
    have hex : ∀ i, i < len0 → ∃ y : X, ok w y ∧ w.cells? 0 (a.add (i * C)) C = some (cells y) := fun i hil => by
      obtain ⟨cs', h1, h2⟩ := hi i (by omega)
      obtain ⟨y, hy, hok⟩ := hel n cs' _ (by rw [← hC]; exact (World.cells?_some h1).2.1) h2 (weights_all _ _ hz.2.1 _ (List.mem_map.2 ⟨i, List.mem_range.2 hil, rfl⟩))
      refine ⟨y, hok, ?_⟩
      rw [← hy, ← hC]; exact h1
    obtain ⟨Y, hY⟩ := Go.Deep.choose_lt (α := X) (p := fun i y => ok w y ∧ w.cells? 0 (a.add (i * C)) C = some (cells y)) hex
    have hlen : ((List.range len0).map Y).length = len0 := by simp
    refine ⟨some a, m2, (List.range len0).map Y, by rw [hlen]; simpa using hcs, by rw [hlen]; exact hl, hreach, fun x hx => ?_, fun i hil => ?_⟩
    · obtain ⟨i, hi', rfl⟩ := List.mem_map.1 hx
      exact (hY i (List.mem_range.1 hi')).1
    · rw [hlen] at hil
      obtain ⟨_, h2⟩ := hY i hil
      obtain ⟨_, hcl, hat⟩ := World.cells?_some h2
      have hYi : ((List.range len0).map Y)[i]'(by rw [hlen]; exact hil) = Y i := by simp
      rw [hYi]
      obtain ⟨b, off, spot⟩ := a
      have hcell : ∀ q u, (cells (Y i))[q]? = some u → w.cell? ((⟨b, off, spot⟩ : Addr).add (i * C + q)) = some u := fun q u hq => by
        have hql : q < C := by have := (List.getElem?_eq_some_iff.1 hq).1; omega
        rw [← Go.Deep.add_add, hat q hql, hq]
      have hs : spot = none := by
        obtain ⟨_, h20⟩ := hY 0 (by omega)
        obtain ⟨_, hcl0, hat0⟩ := World.cells?_some h20
        have h0 := hat0 0 hC0
        rw [List.getElem?_eq_getElem (by omega), Nat.zero_mul] at h0
        simpa [Addr.add] using World.cell?_spot h0
      subst hs
      refine ⟨b, off, rfl, fun q u hq => ?_⟩
      have := hcell q u hq
      rw [Addr.add_lit, ← Nat.add_assoc] at this
      exact this
end
/-- a list of lists -/
structure SubX (X : Type) where
  A : Option Addr
  cap : Nat
  L : List X
  deriving Inhabited
def scells {X : Type} (x : SubX X) : List Value := [.slice x.A x.L.length x.cap]
structure SubOk {X : Type} (cells : X → List Value) (C : Nat) (ok : World → X → Prop) (w : World) (x : SubX X) : Prop where
  cap : x.L.length ≤ x.cap
  le : x.cap ≤ 140737488351232
  ok : ∀ y ∈ x.L, ok w y
  rd : RdX cells C w x.A x.L
section
variable {H : Type} {enc : TypeId × Value → H} {w : World} {v : Value} {d : DataW H} {ps : List MemPlace} {base : Nat} {r : Reach}
set_option maxRecDepth 20000 in
theorem open_pagerows (hv : Value.okWide Tryd.prog w r base 68 v) (h : DataW.Trod enc Tryd.prog w 0 (fun _ => true) true 68 v d ps) (hz : (d.weights Tryd.prog 68).all (· ≤ reachBytes) = true) :
    ∃ (A : Option Addr) (c : Nat) (L : List (SubX PgX)), v = .slice A L.length c ∧ L.length ≤ c ∧ c ≤ 140737488351232 ∧ (∀ x ∈ L, SubOk pcells 2 PgOk w x) ∧ RdX scells 1 w A L := by
  have hb : decide (1 ≤ Tryd.prog.bytesOf 75) = true := by kernel_rfl
  have hb2 : decide (1 ≤ Tryd.prog.bytesOf 73) = true := by kernel_rfl
  have hC : Tryd.prog.cellsOf 75 = 2 := by kernel_rfl
  have hC2 : Tryd.prog.cellsOf 73 = 1 := by kernel_rfl
  refine open_seq (P := Tryd.prog) scells 1 (SubOk pcells 2 PgOk) Tryd.underlying68 hC2 (by omega) (of_decide_eq_true hb2) (fun n cs x hl ht hz => ?_) hv h hz
  obtain ⟨A, c, L, e, h1, h2, h3, h4⟩ := open_seq_in (P := Tryd.prog) pcells 2 PgOk Tryd.underlying73 hC (by omega) (of_decide_eq_true hb) (fun n cs x hl ht hz => by
    obtain ⟨v0, v1, y0, y1, m, rfl, t0, t1, z0, z1⟩ := open_two Tryd.underlying75 ⟨rfl, by kernel_rfl⟩ ⟨rfl, by kernel_rfl⟩ hl ht hz
    obtain ⟨a, ha, -, wa⟩ := DataW.trod_int Tryd.underlying3 t0
    obtain ⟨A, c, l, hb, hc, hm, hr⟩ := open_bytes_in Tryd.underlying48 Tryd.underlying5 (by kernel_rfl) (by kernel_rfl) t1 z1
    simp only [List.cons.injEq, and_true] at ha
    have hw := wf_i64' wa
    exact ⟨⟨a, A, c, l⟩, by rw [ha, hb]; rfl, hw.1, hw.2, hc, hm, hr⟩) ht hz
  exact ⟨⟨A, c, L⟩, e, h1, h2, h3, h4⟩
end
end Go.Proofs.YtgejkhokijjemaaDoor
/- The contracts of errors.As at a target that points to an api.Errno, of plain.Told and of vaultsame.Error. After the guide's worked example on errors.As at a concrete target. -/
namespace Go.Proofs.YtgejkhokijjemaaDoor
open Go.RowKit Go.Extern.Stop Go.Stop Go.Extern

/-- errors.As(nil, target) -/
theorem as_nil (t : Value) (w : World) :
    Calls Tryd.prog 119 #[.nilIface, t] w fun e w' => e = .returned (.bool false) ∧ w' = w := by
  go_enter Tryd.func119, Tryd.ntmps119
  go_wp2
  go_ret
  exact ⟨rfl, rfl⟩

theorem rl_valueOfP (t : Addr) (w : World) : (ReflectliteValue.unpack (.iface 190 (.pointer (some t)))).run Tryd.prog w
    = .ok (.agg #[.pointer (some ⟨1, 190, none⟩), .pointer (some ⟨w.heap.size, 0, none⟩), .int .u64 150]) (w.alloc (.cells #[.pointer (some t)] 190)) := by kernel_rfl
theorem rl_typeP (a : Addr) (w : World) : (ReflectliteValue.methodAny (ReflectliteValue.valueError "reflectlite.Value.Type" 0) (fun t _ _ _ => ReflectliteType.toType t) #[.agg #[.pointer (some ⟨1, 190, none⟩), .pointer (some a), .int .u64 150]]).run Tryd.prog w
    = .ok (.iface 227 (.agg #[.pointer (some ⟨1, 190, none⟩)])) w := by kernel_rfl
theorem rl_kindP (w : World) : ((ReflectliteType.abiMethod fun t => (fun a : Nat => Value.int IntKind.u8 (a : Int)) <$> Rtype.kind t) #[.pointer (some ⟨1, 190, none⟩)]).run Tryd.prog w = .ok (.int .u8 22) w := by kernel_rfl
theorem rl_kindE (w : World) : ((ReflectliteType.abiMethod fun t => (fun a : Nat => Value.int IntKind.u8 (a : Int)) <$> Rtype.kind t) #[.pointer (some ⟨1, 121, none⟩)]).run Tryd.prog w = .ok (.int .u8 2) w := by kernel_rfl
theorem rl_m (z : Sem Value) (f : TypeId → Addr → Nat → Nat → Sem Value) (v : Value) :
    ReflectliteValue.method z f #[v] = (do match ← ReflectliteValue.parts v with | none => z | some (t, a, fl) => f t a fl (fl % 32)) := rfl
theorem rl_partsP (a : Addr) (w : World) : (ReflectliteValue.parts (.agg #[.pointer (some ⟨1, 190, none⟩), .pointer (some a), .int .u64 150])).run Tryd.prog w = .ok (some (190, a, 150)) w := by kernel_rfl
theorem rl_isNilP (a p : Addr) (W : World) (ha : W.cell? a = some (.pointer (some p))) :
    (ReflectliteValue.method (ReflectliteValue.valueError "reflectlite.Value.IsNil" 0) ReflectliteValue.isNil #[.agg #[.pointer (some ⟨1, 190, none⟩), .pointer (some a), .int .u64 150]]).run Tryd.prog W = .ok (.bool false) W := by
  rw [rl_m]
  simp only [Sem.run_bind, rl_partsP, Result.andThen]
  simp [ReflectliteValue.isNil, loadVar, isAgg, underlying, Tryd.underlying190, ha, Result.andThen]
theorem rl_elemP (w : World) : (ReflectliteType.method ReflectliteType.elem #[.agg #[.pointer (some ⟨1, 190, none⟩)]]).run Tryd.prog w = .ok (.iface 227 (.agg #[.pointer (some ⟨1, 121, none⟩)])) w := by kernel_rfl
theorem rl_implE (w : World) : (ReflectliteType.relation "Implements" ReflectliteType.implements_ #[.agg #[.pointer (some ⟨1, 121, none⟩)], .iface 227 (.agg #[.pointer (some ⟨1, 24, none⟩)])]).run Tryd.prog w = .ok (.bool true) w := by kernel_rfl
theorem rl_typeOfE (v : Value) (w : World) : (ReflectliteType.typeOf #[.iface 121 v]).run Tryd.prog w = .ok (.iface 227 (.agg #[.pointer (some ⟨1, 121, none⟩)])) w := by kernel_rfl
theorem rl_assignE (w : World) : (ReflectliteType.relation "AssignableTo" ReflectliteType.assignableTo #[.agg #[.pointer (some ⟨1, 121, none⟩)], .iface 227 (.agg #[.pointer (some ⟨1, 121, none⟩)])]).run Tryd.prog w = .ok (.bool true) w := by kernel_rfl
theorem rl_valueOfE (k : Int) (w : World) : (ReflectliteValue.unpack (.iface 121 (.int .i64 k))).run Tryd.prog w
    = .ok (.agg #[.pointer (some ⟨1, 121, none⟩), .pointer (some ⟨w.heap.size, 0, none⟩), .int .u64 130]) (w.alloc (.cells #[.int .i64 k] 121)) := by kernel_rfl
theorem rl_elemOfP (w : World) : (Rtype.elem? 190).run Tryd.prog w = .ok (some 121) w := by kernel_rfl
theorem rl_mkE (p : Addr) (w : World) : (ReflectliteValue.mk 121 p ReflectliteValue.flagAddr).run Tryd.prog w = .ok (.agg #[.pointer (some ⟨1, 121, none⟩), .pointer (some p), .int .u64 386]) w := by kernel_rfl
theorem rl_elemVP (a p : Addr) (W : World) (ha : W.cell? a = some (.pointer (some p))) :
    (ReflectliteValue.method (ReflectliteValue.valueError "reflectlite.Value.Elem" 0) ReflectliteValue.elem #[.agg #[.pointer (some ⟨1, 190, none⟩), .pointer (some a), .int .u64 150]]).run Tryd.prog W
      = .ok (.agg #[.pointer (some ⟨1, 121, none⟩), .pointer (some p), .int .u64 386]) W := by
  rw [rl_m]
  simp only [Sem.run_bind, rl_partsP, Result.andThen]
  simp [ReflectliteValue.elem, loadVar, isAgg, underlying, Tryd.underlying190, ha, Result.andThen, rl_elemOfP, rl_mkE]
theorem rl_s (v x : Value) : ReflectliteValue.set #[v, x] = (do
    let (some (dst, a, fl), some (src, b, _)) := (← ReflectliteValue.parts v, ← ReflectliteValue.parts x)
      | unsupported (.noEntry "extern/(internal/reflectlite.Value).Set.zeroValue")
    if fl / ReflectliteValue.flagAddr % 2 == 0 then unsupported (.noEntry "extern/(internal/reflectlite.Value).Set.unaddressable")
    let val ← loadVar src b
    if ← Rtype.directlyAssignable dst src then storeVar dst a val
    else if ← Rtype.implements dst src then
      if (← Rtype.kind src) == 20 then
        match val with
        | .nilIface => unsupported (.noEntry "extern/reflectlite: a nil value of one interface type handed on as a value of another")
        | _ => storeVar dst a val
      else storeVar dst a (.iface src val)
    else panicString ("reflectlite.Set: value of type " ++ (← Rtype.spelt src) ++ " is not assignable to type " ++ (← Rtype.spelt dst))
    pure (.tuple #[])) := rfl
theorem rl_partsEa (a : Addr) (w : World) : (ReflectliteValue.parts (.agg #[.pointer (some ⟨1, 121, none⟩), .pointer (some a), .int .u64 386])).run Tryd.prog w = .ok (some (121, a, 386)) w := by kernel_rfl
theorem rl_partsE (a : Addr) (w : World) : (ReflectliteValue.parts (.agg #[.pointer (some ⟨1, 121, none⟩), .pointer (some a), .int .u64 130])).run Tryd.prog w = .ok (some (121, a, 130)) w := by kernel_rfl
theorem rl_directE (w : World) : (Rtype.directlyAssignable 121 121).run Tryd.prog w = .ok true w := by kernel_rfl
theorem rl_setE (ta b : Addr) (k : Int) (old : Value) (W : World) (hb : W.cell? b = some (.int .i64 k)) (ht : W.cell? ta = some old) (hf : W.frozen? ta = false) :
    (ReflectliteValue.set #[.agg #[.pointer (some ⟨1, 121, none⟩), .pointer (some ta), .int .u64 386], .agg #[.pointer (some ⟨1, 121, none⟩), .pointer (some b), .int .u64 130]]).run Tryd.prog W
      = .ok (.tuple #[]) (W.setCell ta (.int .i64 k)) := by
  rw [rl_s]
  simp only [Sem.run_bind, rl_partsEa, rl_partsE, Result.andThen]
  simp [ReflectliteValue.flagAddr, loadVar, isAgg, underlying, Tryd.underlying121, hb, Result.andThen, rl_directE, storeVar, Value.cells, storeCells, Addr.add]
  rw [run_store Tryd.prog W ta _ _ (by rfl)]
  simp [ht, hf]

/-- what the row's condition gives: the variable errors.errorType -/
def HasType (w : World) : Prop := w.cell? ⟨0, 0, none⟩ = some (.iface 227 (.agg #[.pointer (some ⟨1, 24, none⟩)]))
theorem HasType.below {B : Nat} {w w' : World} (h : HasType w) (hB : 0 < B) (hb : Below B w w') : HasType w' := (hb.cell (p := ⟨0, 0, none⟩) hB).trans h
theorem HasType.lt {w : World} (h : HasType w) : 0 < w.heap.size := block_lt_of_cell h
end Go.Proofs.YtgejkhokijjemaaDoor
/- The contracts of errors.As at a target that points to an api.Errno, of plain.Told and of vaultsame.Error. -/
namespace Go.Proofs.YtgejkhokijjemaaDoor
open Go.RowKit Go.Extern.Stop Go.Stop Go.Extern

theorem rl_methKind (n : Nat) (h : Value) (w : World) : (Go.method (n + 1) 227 (.agg #[h]) "Kind").run Tryd.prog w = .ok (199, h) w := by kernel_rfl
theorem rl_methElem (n : Nat) (h : Value) (w : World) : (Go.method (n + 1) 227 (.agg #[h]) "Elem").run Tryd.prog w = .ok (209, .agg #[h]) w := by kernel_rfl
theorem rl_methImpl (n : Nat) (h : Value) (w : World) : (Go.method (n + 1) 227 (.agg #[h]) "Implements").run Tryd.prog w = .ok (210, .agg #[h]) w := by kernel_rfl
theorem rl_methAssign (n : Nat) (h : Value) (w : World) : (Go.method (n + 1) 227 (.agg #[h]) "AssignableTo").run Tryd.prog w = .ok (207, .agg #[h]) w := by kernel_rfl

set_option maxRecDepth 100000 in
set_option maxHeartbeats 4000000 in
theorem as_errno (k : Int) (t : Addr) (old : Value) (w : World) (hg : HasType w) (ht0 : w.cell? t = some old) (hf0 : w.frozen? t = false) :
    Calls Tryd.prog 119 #[.iface 121 (.int .i64 k), .iface 190 (.pointer (some t))] w fun ev w' => ev = .returned (.bool true) ∧ w' = ((((w.alloc (.cells #[.pointer (some t)] 190)).alloc (.cells #[.pointer (some ⟨1, 190, none⟩), .pointer (some ⟨w.heap.size, 0, none⟩), .int .u64 150] 211)).alloc (.cells #[.pointer (some ⟨1, 190, none⟩), .pointer (some ⟨w.heap.size, 0, none⟩), .int .u64 150] 211)).alloc (.cells #[.int .i64 k] 121)).setCell t (.int .i64 k) := by
  have h6 := @run_callFunc_extern Tryd.prog 143 _ (fun args => ReflectliteValue.unpack (args.getD 0 (.tuple #[]))) Tryd.func143 (by kernel_rfl) (by kernel_rfl) (by kernel_rfl) (by kernel_rfl)
  have h7 := @run_callFunc_extern Tryd.prog 144 _ (ReflectliteValue.methodAny (ReflectliteValue.valueError "reflectlite.Value.Type" 0) (fun t _ _ _ => ReflectliteType.toType t)) Tryd.func144 (by kernel_rfl) (by kernel_rfl) (by kernel_rfl) (by kernel_rfl)
  have h8 := @run_callFunc_extern Tryd.prog 145 _ (ReflectliteValue.method (ReflectliteValue.valueError "reflectlite.Value.IsNil" 0) ReflectliteValue.isNil) Tryd.func145 (by kernel_rfl) (by kernel_rfl) (by kernel_rfl) (by kernel_rfl)
  have h27 := @run_callFunc_extern Tryd.prog 199 _ (ReflectliteType.abiMethod fun t => do pure (.int .u8 (← Rtype.kind t))) Tryd.func199 (by kernel_rfl) (by kernel_rfl) (by kernel_rfl) (by kernel_rfl)
  have h37 := @run_callFunc_extern Tryd.prog 209 _ (ReflectliteType.method ReflectliteType.elem) Tryd.func209 (by kernel_rfl) (by kernel_rfl) (by kernel_rfl) (by kernel_rfl)
  have h38 := @run_callFunc_extern Tryd.prog 210 _ (ReflectliteType.relation "Implements" ReflectliteType.implements_) Tryd.func210 (by kernel_rfl) (by kernel_rfl) (by kernel_rfl) (by kernel_rfl)
  have h10 := @run_callFunc_extern Tryd.prog 153 _ ReflectliteType.typeOf Tryd.func153 (by kernel_rfl) (by kernel_rfl) (by kernel_rfl) (by kernel_rfl)
  have h35 := @run_callFunc_extern Tryd.prog 207 _ (ReflectliteType.relation "AssignableTo" ReflectliteType.assignableTo) Tryd.func207 (by kernel_rfl) (by kernel_rfl) (by kernel_rfl) (by kernel_rfl)
  have h11 := @run_callFunc_extern Tryd.prog 154 _ (ReflectliteValue.method (ReflectliteValue.valueError "reflectlite.Value.Elem" 0) ReflectliteValue.elem) Tryd.func154 (by kernel_rfl) (by kernel_rfl) (by kernel_rfl) (by kernel_rfl)
  have h12 := @run_callFunc_extern Tryd.prog 155 _ ReflectliteValue.set Tryd.func155 (by kernel_rfl) (by kernel_rfl) (by kernel_rfl) (by kernel_rfl)
  have tO := rl_typeOfE
  have aE := rl_assignE
  have vE := rl_valueOfE
  have f6 := rl_valueOfP
  have f7 := rl_typeP
  have mK := rl_methKind
  have mE := rl_methElem
  have mI := rl_methImpl
  have mA := rl_methAssign
  have kP := rl_kindP
  have kE := rl_kindE
  have eP := rl_elemP
  have iE := rl_implE
  have n8 := rl_isNilP ⟨w.heap.size, 0, none⟩ t ((w.alloc (.cells #[.pointer (some t)] 190)).alloc (.cells #[.pointer (some ⟨1, 190, none⟩), .pointer (some ⟨w.heap.size, 0, none⟩), .int .u64 150] 211)) (by simp)
  have hlt : 0 < w.heap.size := hg.lt
  unfold HasType at hg
  have hg2 : ((w.alloc (.cells #[.pointer (some t)] 190)).alloc (.cells #[.pointer (some ⟨1, 190, none⟩), .pointer (some ⟨w.heap.size, 0, none⟩), .int .u64 150] 211)).cell? ⟨0, 0, none⟩ = some (.iface 227 (.agg #[.pointer (some ⟨1, 24, none⟩)])) := by
    rw [World.cell?_alloc_lt _ _ ⟨0, 0, none⟩ (by simp), World.cell?_alloc_lt _ _ ⟨0, 0, none⟩ hlt]; exact hg
  have htl : t.block < w.heap.size := by
    rcases Nat.lt_or_ge t.block w.heap.size with h | h
    · exact h
    · simp [World.cell?, Array.getElem?_eq_none h] at ht0
  have el := rl_elemVP ⟨w.heap.size, 0, none⟩ t (((w.alloc (.cells #[.pointer (some t)] 190)).alloc (.cells #[.pointer (some ⟨1, 190, none⟩), .pointer (some ⟨w.heap.size, 0, none⟩), .int .u64 150] 211)).alloc (.cells #[.pointer (some ⟨1, 190, none⟩), .pointer (some ⟨w.heap.size, 0, none⟩), .int .u64 150] 211)) (by rw [World.cell?_alloc_lt _ _ ⟨w.heap.size, 0, none⟩ (by simp; omega)]; simp)
  have st := rl_setE t ⟨w.heap.size + 1 + 1 + 1, 0, none⟩ k old ((((w.alloc (.cells #[.pointer (some t)] 190)).alloc (.cells #[.pointer (some ⟨1, 190, none⟩), .pointer (some ⟨w.heap.size, 0, none⟩), .int .u64 150] 211)).alloc (.cells #[.pointer (some ⟨1, 190, none⟩), .pointer (some ⟨w.heap.size, 0, none⟩), .int .u64 150] 211)).alloc (.cells #[.int .i64 k] 121))
    (by rw [World.cell?_alloc_at _ _ _ _ (by simp)]; rfl)
    (by rw [World.cell?_alloc_lt _ _ t (by simp; omega), World.cell?_alloc_lt _ _ t (by simp; omega), World.cell?_alloc_lt _ _ t (by simp; omega), World.cell?_alloc_lt _ _ t htl]; exact ht0)
    (by rw [World.frozen?_alloc_old _ _ t (by simp; omega), World.frozen?_alloc_old _ _ t (by simp; omega), World.frozen?_alloc_old _ _ t (by simp; omega), World.frozen?_alloc_old _ _ t (Nat.ne_of_lt htl)]; exact hf0)
  go_enter Tryd.func119, Tryd.ntmps119
  go_wp2
  refine wp_loop_rounds 1 ?_
  rw [rounds_succ]
  go_wp2
  go_ret
  exact ⟨rfl, rfl⟩
end Go.Proofs.YtgejkhokijjemaaDoor
/- The contracts of plain.Told and of vaultsame.Error. -/
namespace Go.Proofs.YtgejkhokijjemaaDoor
open Go.RowKit

theorem told_nil (w : World) : Calls Tryd.prog 77 #[.nilIface] w fun e w' => e = .returned (.int .i64 0) ∧ w = w' := by
  go_enter Tryd.func77, Tryd.ntmps77
  go_wp2_with fail
  go_ret
  exact ⟨rfl, rfl⟩
theorem told_errno (k : Int) (w : World) (hg : HasType w) : Calls Tryd.prog 77 #[.iface 121 (.int .i64 k)] w fun e w' => e = .returned (.int .i64 k) ∧ Below w.heap.size w w' := by
  have hW : Below w.heap.size w (w.alloc (.cells #[.int .i64 0] 121)) := (Below.refl _ _).alloc (Nat.le_refl _) _
  have hg1 := hg.below hg.lt hW
  have HC := Hidden.mk (as_errno k ⟨w.heap.size, 0, none⟩ (.int .i64 0) _ hg1 (by simp) (by simp))
  clear hg1
  go_enter Tryd.func77, Tryd.ntmps77
  go_wp2_with fail
  refine HC.out.mono ?_
  rintro e w' ⟨rfl, hw'⟩
  have hB : Below w.heap.size w w' := by
    rw [hw']
    exact ((((hW.alloc hW.size _).alloc (by simp; omega) _).alloc (by simp; omega) _).alloc (by simp; omega) _).setCell (p := ⟨w.heap.size, 0, none⟩) (Nat.le_refl _) _
  have hc : w'.cell? ⟨w.heap.size, 0, none⟩ = some (.int .i64 k) := by
    rw [hw']
    refine World.cell?_setCell_same' _ _ _ ?_
    rw [(((((Below.refl _ (w.alloc (.cells #[.int .i64 0] 121))).alloc (Nat.le_refl _) _).alloc (by simp) _).alloc (by simp) _).alloc (by simp) _).cell (p := ⟨w.heap.size, 0, none⟩) (by simp)]
    simp
  clear hw' HC hW
  go_wp2_with fail
  go_ret
  exact ⟨rfl, hB⟩
theorem err_nil (x : Int) (w : World) : Calls Tryd.prog 15 #[.nilIface, .int .i64 x] w fun e w' => e = .returned (.bool ((0 : Int) == x)) ∧ Below w.heap.size w w' := by
  go_enter Tryd.func15, Tryd.ntmps15
  go_wp2_with fail
  refine (told_nil _).mono ?_
  rintro e w' ⟨rfl, rfl⟩
  go_wp2_with fail
  go_ret
  exact ⟨rfl, Below.refl _ _⟩
theorem err_some (k x : Int) (w : World) (hg : HasType w) : Calls Tryd.prog 15 #[.iface 121 (.int .i64 k), .int .i64 x] w fun e w' => e = .returned (.bool (k == x)) ∧ Below w.heap.size w w' := by
  go_enter Tryd.func15, Tryd.ntmps15
  go_wp2_with fail
  refine (told_errno k _ hg).mono ?_
  rintro e w' ⟨rfl, hb⟩
  go_wp2_with fail
  go_ret
  exact ⟨rfl, hb⟩
/-- .. of an error that is nil or a number -/
theorem err_any (n : Nat) (x : Int) (w : World) (hg : HasType w) : Calls Tryd.prog 15 #[errV n, .int .i64 x] w fun e w' => e = .returned (.bool ((n : Int) == x)) ∧ Below w.heap.size w w' := by
  unfold errV
  by_cases h : n = 0
  · rw [if_pos h, h]; exact err_nil x w
  · rw [if_neg h]; exact err_some n x w hg
end Go.Proofs.YtgejkhokijjemaaDoor
