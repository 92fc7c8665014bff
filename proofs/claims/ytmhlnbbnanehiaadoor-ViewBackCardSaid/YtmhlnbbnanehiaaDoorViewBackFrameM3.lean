/- Contracts and plain laws, put together: PagesSf, LayC, View1, View2, View3, LayK, Keys1, View5, View6, ViewP, View7, DiffP, Diff0, Diff1, DiffQ, Diff2, DiffA, DiffA1, Diff3, Img1, Img2, Img3, CheckP, Img4, Chk1, Chk2, Chk4, Img5, RefN, RefP, RefM, RefNm, RefI1, RefI2, RefD1, View8, View9, PagesV. -/
import Derived.Test.YtmhlnbbnanehiaaDoorViewBackFrameM2
import Derived.Shelf.SlGeneric
import Derived.Shelf.SlMaps.Clone
import Derived.Ground.SlmcProg
import Derived.Test.YtmhlnbbnanehiaaDoorViewBackFrameM1
import Derived.Shelf.SlIterI.Nil
import Derived.Shelf.SortM.Plain
import Derived.Shelf.SortM.SortNone
import Derived.Ground.GgzProg
import Derived.Ground.SlgmProg
import Derived.Deep.RegionHeld3
import Derived.Deep.AppendLies
import Derived.Laws.CopyOwn
import Derived.Deep.LoopGhost
/- Pages as a law plays with them: what a run keeps; rows that may be the argument's own. -/
namespace Go.Proofs.YtmhlnbbnanehiaaDoor
open Go.RowKit Go.Maps Go.ChangeMaps

theorem pgsR_of {w w' : World} {F : Nat → Prop} {A : Option Addr} {L : List PgX} (hr : RdX pcells 2 w A L) (ho : ∀ x ∈ L, PgOk w x) (hF : ∀ k, F k → w.heap.size ≤ k) (hb : Below w.heap.size w w') : PgsR w' F A L :=
  ⟨hr.below hb, fun hl ad e hf => by have := hr.lt_ hl ad e; have := hF _ hf; omega, fun x hx => (ho x hx).rd.below hb, fun x hx h0 ad e hf => by
    obtain ⟨q, off, e2, hq⟩ := (ho x hx).rd.lt h0
    rw [e2] at e
    obtain rfl := Option.some.inj e
    have := hF _ hf
    dsimp only at this; omega⟩
section
variable {w0 w w' : World} {F F' : Nat → Prop} {p d st n : Nat} {D : Dv}
theorem pread_ok (h : DevB w0 w F d D) (hp : PgH w F p d st (nP D)) (i : Nat) (hi : i < nP D) (hd : D.down = false) :
    Calls Tryd.prog 40 #[.pointer (some ⟨p, 0, none⟩), .int .i64 (i : Int)] w fun e w' => ∃ g cap, e = .returned (.tuple #[.slice (some ⟨g, 0, none⟩) 32 cap, .nilIface]) ∧ w.heap.size ≤ g ∧ Row w' 5 g cap (readD D (48 + i)) ∧ Below w.heap.size w w' := by
  obtain ⟨c0, c1, c2⟩ := hp.cell
  have hn := nP_le D
  have h48 : 48 + i < D.S.length := by unfold nP at hi; omega
  have HR := Hidden.mk (h.read (48 + i) h48 hd)
  have e : (((48 + i : Nat)) : Int) = 48 + (i : Int) := by omega
  rw [e] at HR
  have d1 : decide ((i : Int) < 0) = false := by simp
  have d2 : decide ((nP D : Int) ≤ (i : Int)) = false := by simp; omega
  have d3 : decide (nP D ≤ i) = false := by simp; omega
  have hi2 : (i : Int) ≤ 200 := by omega
  clear h hp hi hd h48 e
  go_enter Tryd.func40, Tryd.ntmps40
  go_wp2_with fail
  refine HR.out.mono ?_
  rintro e w1 ⟨g, cap, rfl, hg, hrow, -, hb, -⟩
  have H := Hidden.mk (And.intro hg (And.intro hrow hb))
  clear hg hrow hb HR
  go_wp2_with fail
  go_ret2
  exact ⟨g, cap, rfl, H.out⟩
/-- Pages beside another block that is written -/
theorem PgH.setOther (h : PgH w F p d st n) {go q : Nat} (hne : p ≠ go) (v : Value) : PgH (w.setCell ⟨go, q, none⟩ v) F p d st n := ⟨(Below.heap_setCell _ _ _ _ hne).trans h.1, h.2⟩
theorem PgH.ne_cells (h : PgH w F p d st n) {go : Nat} {cur : Array Value} {t : TypeId} (h2 : w.heap[go]? = some (.cells cur t (0, 0))) (ht : 108 ≠ t) : p ≠ go := Go.Proofs.YtmhlnbbnanehiaaDoor.ne_cells h.1 h2 ht
end
theorem OpAns.uni {w0 w w' : World} {F : Nat → Prop} {d st : Nat} {D : Dv} {r : Dv × Nat} {e : Ending} (h : OpAns w0 w F d D r st e w') :
    ∃ v F', e = .returned (.tuple #[v, errV r.2]) ∧ PdM w0 w w' F F' d r.1 ∧ (r.2 = 0 → ∃ p, v = .pointer (some ⟨p, 0, none⟩) ∧ PgH w' F' p d st (nP D) ∧ w.heap.size ≤ p) := by
  obtain ⟨F', hm, ⟨h0, p, he, hp, hn⟩ | ⟨h0, he⟩⟩ := h
  · exact ⟨_, F', by rw [he, h0]; rfl, hm, fun _ => ⟨p, rfl, hp, hn⟩⟩
  · exact ⟨_, F', he, hm, fun e => absurd e h0⟩
/-- the page that is wanted, when the commit is done -/
def wantF (pg : Nat → Bytes) (M : List (Int × Bytes)) (i j : Nat) : Bytes := updPg pg (M.take j) i
theorem wantF_succ (pg : Nat → Bytes) (M : List (Int × Bytes)) (i j : Nat) (hj : j < M.length) : wantF pg M i (j + 1) = if M[j].1 = (i : Int) then M[j].2 else wantF pg M i j := by
  unfold wantF updPg
  rw [List.take_succ_eq_append_getElem hj, List.foldl_append]
  rfl
/-- the pages are as the plain law says, and the power is there -/
structure SfP (nn n : Nat) (D : Dv) (st : Nat) (pg : Nat → Bytes) : Prop where
  full : ∃ l, Full n D st l pg
  wf : WfD D
  up : Up D
  len : D.S.length = nn
  n0 : n = nP D
theorem SfP.commit {nn n : Nat} {D : Dv} {st : Nat} {pg : Nat → Bytes} (h : SfP nn n D st pg) (m : List (Int × Bytes)) :
    ∃ pg', SfP nn n (commitP st n m D).1 (if (commitP st n m D).2 = 0 ∧ m.length ≠ 0 then st + 1 else st) pg' ∧ ((commitP st n m D).2 = 0 → pg' = updPg pg m ∧ ChkOk n m) := by
  obtain ⟨l, hl⟩ := h.full
  have H := commit_safe m hl h.wf
  have hu := commit_stays h.up st n m
  have hn0 : n = nP (commitP st n m D).1 := by
    rw [show nP (commitP st n m D).1 = nP D from by unfold nP; rw [H.len]]; exact h.n0
  by_cases h0 : (commitP st n m D).2 = 0
  · by_cases hm : m.length = 0
    · have e := H.none_ h0 hm
      have hm' : m = [] := List.eq_nil_of_length_eq_zero hm
      rw [if_neg (fun x => x.2 hm)]
      refine ⟨pg, ⟨⟨l, by rw [e]; exact hl⟩, H.wf, hu.1, H.len.trans h.len, hn0⟩, fun _ => ⟨by rw [hm']; rfl, by rw [hm']; exact ⟨by simp, by simp, by simp⟩⟩⟩
    · obtain ⟨a, b, c, e⟩ := H.done h0 hm
      rw [if_pos ⟨h0, hm⟩]
      exact ⟨_, ⟨⟨_, a⟩, H.wf, hu.1, H.len.trans h.len, hn0⟩, fun _ => ⟨rfl, e⟩⟩
  · rw [if_neg (fun x => h0 x.1)]
    exact ⟨pg, ⟨⟨l, by rw [H.bad h0 hu.2]; exact hl⟩, H.wf, hu.1, H.len.trans h.len, hn0⟩, fun x => absurd x h0⟩
theorem SfP.page {nn n : Nat} {D : Dv} {st : Nat} {pg : Nat → Bytes} (h : SfP nn n D st pg) (i : Nat) (hi : i < n) : readD D (48 + i) = pg i ∧ (pg i).length = 32 := by
  obtain ⟨l, hl⟩ := h.full
  have := (hl.all i hi).2
  refine ⟨this, ?_⟩
  rw [← this]
  refine h.wf.rd ?_
  have := hl.hold.lens
  omega
theorem SfP.commit2 {nn n : Nat} {D : Dv} {st : Nat} {pg : Nat → Bytes} (h : SfP nn n D st pg) (m : List (Int × Bytes)) :
    SfP nn n (commitP st n m D).1 (if (commitP st n m D).2 = 0 ∧ m.length ≠ 0 then st + 1 else st) (if (commitP st n m D).2 = 0 then updPg pg m else pg) ∧ ((commitP st n m D).2 = 0 → ChkOk n m) := by
  obtain ⟨l, hl⟩ := h.full
  have H := commit_safe m hl h.wf
  have hu := commit_stays h.up st n m
  have hn0 : n = nP (commitP st n m D).1 := by
    rw [show nP (commitP st n m D).1 = nP D from by unfold nP; rw [H.len]]; exact h.n0
  by_cases h0 : (commitP st n m D).2 = 0
  · by_cases hm : m.length = 0
    · have e := H.none_ h0 hm
      have hm' : m = [] := List.eq_nil_of_length_eq_zero hm
      rw [if_neg (fun x => x.2 hm), if_pos h0]
      have hup : updPg pg m = pg := by rw [hm']; rfl
      rw [hup]
      refine ⟨⟨⟨l, by rw [e]; exact hl⟩, H.wf, hu.1, H.len.trans h.len, hn0⟩, fun _ => by rw [hm']; exact ⟨by simp, by simp, by simp⟩⟩
    · obtain ⟨a, b, c, e⟩ := H.done h0 hm
      rw [if_pos ⟨h0, hm⟩, if_pos h0]
      exact ⟨⟨⟨_, a⟩, H.wf, hu.1, H.len.trans h.len, hn0⟩, fun _ => e⟩
  · rw [if_neg (fun x => h0 x.1), if_neg h0]
    exact ⟨⟨⟨l, by rw [H.bad h0 hu.2]; exact hl⟩, H.wf, hu.1, H.len.trans h.len, hn0⟩, fun x => absurd x h0⟩
/-- an entry: a row of one's own, or what came in -/
def NowE (w0 w : World) (F : Nat → Prop) (A : Option Addr) (c : Nat) (l : Bytes) : Prop :=
  Rd w0 A l ∨ ∃ g, A = some ⟨g, 0, none⟩ ∧ Row w 5 g c l ∧ ¬ F g
/-- block go holds n entries that read as f says -/
def NowL (w0 w : World) (F : Nat → Prop) (go n : Nat) (f : Nat → Bytes) : Prop :=
  ∃ (oA : Nat → Option Addr) (oc : Nat → Nat), (∃ cur, w.heap[go]? = some (.cells cur 22 (0, 0)) ∧ cur.size = n ∧ ∀ i, i < n → cur[i]? = some (.slice (oA i) 32 (oc i))) ∧ (∀ i, i < n → NowE w0 w F (oA i) (oc i) (f i) ∧ (f i).length = 32) ∧ ¬ F go
section
variable {w0 w w' : World} {F F' : Nat → Prop} {go n : Nat} {f : Nat → Bytes}
theorem NowE.rd {A : Option Addr} {c : Nat} {l : Bytes} (h : NowE w0 w F A c l) (hb : Below w0.heap.size w0 w) : Rd w A l := by
  rcases h with h | ⟨g, rfl, h, -⟩
  · exact h.below hb
  · exact h.rd
theorem NowL.of (h : Lst w F go n n f) : NowL w0 w F go n f := by
  obtain ⟨ob, oc, ⟨cur, h0, h1, h2⟩, h3, h4⟩ := h
  exact ⟨fun i => some ⟨ob i, 0, none⟩, oc, ⟨cur, h0, h1, h2⟩, fun i hi => ⟨.inr ⟨ob i, rfl, (h3 i hi).1, (h3 i hi).2.2⟩, (h3 i hi).2.1⟩, h4⟩
theorem NowL.keep (h : NowL w0 w F go n f) (hk : Keep F w w') (hF : ∀ k, F' k → F k ∨ w.heap.size ≤ k) : NowL w0 w' F' go n f := by
  obtain ⟨oA, oc, ⟨cur, h0, h1, h2⟩, h3, h4⟩ := h
  have hgl := (Array.getElem?_eq_some_iff.1 h0).1
  refine ⟨oA, oc, ⟨cur, (hk.block go hgl h4).trans h0, h1, h2⟩, fun i hi => ⟨?_, (h3 i hi).2⟩, fun hf => ?_⟩
  · rcases (h3 i hi).1 with h | ⟨g, e, hr, hn⟩
    · exact .inl h
    · refine .inr ⟨g, e, hk.row hr hn, fun hf => ?_⟩
      rcases hF _ hf with h' | h'
      · exact hn h'
      · have := hr.lt; omega
  · rcases hF _ hf with h' | h'
    · exact h4 h'
    · omega
theorem NowL.below (h : NowL w0 w F go n f) (hb : Below w.heap.size w w') : NowL w0 w' F go n f := h.keep (Keep.of_below hb) (fun _ hk => .inl hk)
theorem NowL.cm {p d st m : Nat} (h : NowL w0 w F go n f) (hp : PgH w F p d st m) (hk : Keep (fun q => F q ∨ q = p) w w') (hF : ∀ q, F' q → F q ∨ w.heap.size ≤ q) : NowL w0 w' F' go n f := by
  have h2 : NowL w0 w (fun q => F q ∨ q = p) go n f := by
    obtain ⟨oA, oc, ⟨cur, h0, h1⟩, h3, h4⟩ := h
    refine ⟨oA, oc, ⟨cur, h0, h1⟩, fun i hi => ⟨?_, (h3 i hi).2⟩, ?_⟩
    · rcases (h3 i hi).1 with h | ⟨g, e, hr, hn⟩
      · exact .inl h
      · exact .inr ⟨g, e, hr, fun hf => hf.elim hn (fun e => ne_row hp.1 hr (by decide) e.symm)⟩
    · exact fun hf => hf.elim h4 (fun e => Go.Proofs.YtmhlnbbnanehiaaDoor.ne_cells hp.1 h0 (by decide) e.symm)
  refine h2.keep hk fun q hq => ?_
  rcases hF q hq with h' | h'
  · exact .inl (.inl h')
  · exact .inr h'
theorem NowL.set (h : NowL w0 w F go n f) {i c : Nat} {A : Option Addr} {b : Bytes} (hi : i < n) (hr : Rd w0 A b) (hb : b.length = 32) : NowL w0 (w.setCell ⟨go, i, none⟩ (.slice A 32 c)) F go n (fun j => if j = i then b else f j) := by
  obtain ⟨oA, oc, ⟨cur, h0, h1, h2⟩, h3, h4⟩ := h
  have hrow : ∀ {q c' : Nat} {l : Bytes}, Row w 5 q c' l → Row (w.setCell ⟨go, i, none⟩ (.slice A 32 c)) 5 q c' l := fun {q c' l} hr =>
    hr.block (Below.heap_setCell _ _ _ _ (DevIs.ne_row h0 hr (by decide)).symm)
  refine ⟨fun j => if j = i then A else oA j, fun j => if j = i then c else oc j, ⟨_, heap_set5 h0 _, by simpa using h1, fun j hj => ?_⟩, fun j hj => ?_, h4⟩
  · rw [Array.getElem?_setIfInBounds]
    by_cases hik : i = j
    · subst hik; simp [h1, hj]
    · rw [if_neg hik]
      simp only [if_neg (fun e : j = i => hik e.symm)]
      exact h2 j hj
  · by_cases hik : j = i
    · subst hik
      simp only [if_true]
      exact ⟨.inl hr, hb⟩
    · simp only [if_neg hik]
      refine ⟨?_, (h3 j hj).2⟩
      rcases (h3 j hj).1 with h | ⟨g, e, hr', hn⟩
      · exact .inl h
      · exact .inr ⟨g, e, hrow hr', hn⟩
theorem NowL.cell (h : NowL w0 w F go n f) (i : Nat) (hi : i < n) : ∃ A c, w.cell? ⟨go, i, none⟩ = some (.slice A 32 c) ∧ NowE w0 w F A c (f i) ∧ (f i).length = 32 := by
  obtain ⟨oA, oc, ⟨cur, h0, h1, h2⟩, h3, h4⟩ := h
  refine ⟨oA i, oc i, ?_, (h3 i hi).1, (h3 i hi).2⟩
  rw [cell_of_row w go i cur _ _ h0]; exact h2 i hi
theorem NowL.slot (h : NowL w0 w F go n f) {k : Nat} (hk : k < n) : (∃ v, w.cell? ⟨go, k, none⟩ = some v) ∧ w.frozen? ⟨go, k, none⟩ = false := by
  obtain ⟨oA, oc, ⟨cur, h0, h1, h2⟩, h3, h4⟩ := h
  refine ⟨⟨cur[k]'(by omega), ?_⟩, frozen_of_row w go k cur _ h0⟩
  rw [cell_of_row w go k cur _ _ h0]; exact Array.getElem?_eq_getElem _
theorem NowL.blk (h : NowL w0 w F go n f) : (∃ cur, w.heap[go]? = some (.cells cur 22 (0, 0))) ∧ ¬ F go := by
  obtain ⟨oA, oc, ⟨cur, h0, h1, h3⟩, h4, h5⟩ := h
  exact ⟨⟨cur, h0⟩, h5⟩
theorem NowL.keepSet (_h : NowL w0 w F go n f) (k : Nat) (v : Value) : Keep (fun q => q = go) w (w.setCell ⟨go, k, none⟩ v) := Keep.setCell (F := fun q => q = go) (Keep.refl _ _) (p := ⟨go, k, none⟩) (.inl rfl) _
theorem NowL.ext {f' : Nat → Bytes} (h : NowL w0 w F go n f) (he : ∀ i, i < n → f' i = f i) : NowL w0 w F go n f' := by
  obtain ⟨oA, oc, h0, h3, h4⟩ := h
  exact ⟨oA, oc, h0, fun i hi => by rw [he i hi]; exact h3 i hi, h4⟩
end
/-- all that the law keeps at hand -/
structure PrSt (w wr : World) (F : Nat → Prop) (d go n p : Nat) (D : Dv) (st : Nat) (pg : Nat → Bytes) : Prop where
  dev : DevB w wr F d D
  pgh : PgH wr F p d st n
  nl : NowL w wr F go n pg
  gn : w.heap.size ≤ go
  pn : w.heap.size ≤ p
theorem PrSt.below {w wr w' : World} {F : Nat → Prop} {d go n p : Nat} {D : Dv} {st : Nat} {pg : Nat → Bytes} (h : PrSt w wr F d go n p D st pg) (hb : Below wr.heap.size wr w') : PrSt w w' F d go n p D st pg :=
  ⟨h.dev.below hb, h.pgh.below hb, h.nl.below hb, h.gn, h.pn⟩
/-- the entry i is what a commit brought -/
theorem PrSt.put {w wr : World} {F : Nat → Prop} {d go n p : Nat} {D : Dv} {st : Nat} {pg : Nat → Bytes} (h : PrSt w wr F d go n p D st pg) {i c : Nat} {A : Option Addr} {b : Bytes} (hi : i < n) (hr : Rd w A b) (hb : b.length = 32) : PrSt w (wr.setCell ⟨go, i, none⟩ (.slice A 32 c)) F d go n p D st (fun j => if j = i then b else pg j) := by
  obtain ⟨⟨cur, hcur⟩, hnf⟩ := h.nl.blk
  exact ⟨h.dev.keep (h.nl.keepSet i _) (fun q hq e => hnf (e ▸ hq)) (fun q hq => by rw [hq]; exact h.gn), h.pgh.setOther (h.pgh.ne_cells hcur (by decide)) _, h.nl.set hi hr hb, h.gn, h.pn⟩
end Go.Proofs.YtmhlnbbnanehiaaDoor
/- Laid: library functions whose contracts are proved over whatever program: the table of numbers, and a field a function or a type. -/
namespace Go.Proofs.YtmhlnbbnanehiaaDoor
open Go.Shelf
def mapClone_ren : Go.Shelf.Ren := ⟨fun | 5 => 63 | 7 => 87 | n => n, fun | 23 => 112 | 25 => 3 | 3 => 4 | 4 => 4 | 20 => 20 | n => n, fun | n => n⟩
theorem mapClone : Go.Proofs.SlLaysW.n5 Tryd.prog mapClone_ren := {
  mixed := by kernel_rfl
  f5 := ⟨Tryd.f63.name, by decide, Tryd.func63.trans (congrArg some (by kernel_rfl))⟩
  f7 := Tryd.func87.trans (congrArg some (by kernel_rfl))
  t4 := Tryd.underlying4
  a4 := Tryd.isAgg4
  z4 := Tryd.sizeOf4
  v4 := Tryd.zeroValue4
  t20 := Tryd.underlying20
  a20 := Tryd.isAgg20
  z20 := Tryd.sizeOf20
  v20 := Tryd.zeroValue20
  t23 := Tryd.underlying112
  a23 := Tryd.isAgg112
  z23 := Tryd.sizeOf112
  v23 := Tryd.zeroValue112 }
end Go.Proofs.YtmhlnbbnanehiaaDoor
/- Package view: Len, has, All. -/
namespace Go.Proofs.YtmhlnbbnanehiaaDoor
open Go.RowKit Go.Maps Go.ChangeMaps

/-- all bytes of n pages -/
def allB (D : Dv) (n : Nat) : Bytes := (List.range n).flatMap fun i => readD D (48 + i)
theorem allB_succ (D : Dv) (n : Nat) : allB D (n + 1) = allB D n ++ readD D (48 + n) := by
  unfold allB
  rw [List.range_succ, List.flatMap_append]
  simp
theorem allB_len {D : Dv} (n : Nat) (h : ∀ i, i < n → (readD D (48 + i)).length = 32) : (allB D n).length = 32 * n := by
  induction n with
  | zero => rfl
  | succ n ih => rw [allB_succ, List.length_append, ih (fun i hi => h i (by omega)), h n (by omega)]; omega
section
variable {w0 w : World} {F : Nat → Prop} {p d st : Nat} {D : Dv}
set_option maxRecDepth 100000 in
theorem vall_ok (h : DevB w0 w F d D) (hp : PgH w F p d st (nP D)) (hd : D.down = false) (hl : ∀ i, i < nP D → (readD D (48 + i)).length = 32) (n : Nat) (hn : n = nP D) :
    Calls Tryd.prog 60 #[.pointer (some ⟨p, 0, none⟩)] w fun e w' => ∃ v, e = .returned (.tuple #[v, .nilIface]) ∧ w'.ownsRow w.heap.size 5 1 v (32 * n) ((allB D n).map bv) ∧ Below w.heap.size w w' := by
  obtain ⟨ib, hi0, hz0, hz1, hz2⟩ := info_parts byte_info
  have hn2 : n ≤ 200 := by rw [hn]; exact (nP_le D).1
  have H := Hidden.mk h
  have HP := Hidden.mk hp
  rw [← hn] at HP
  have HL := Hidden.mk hl
  have HN := Hidden.mk hn
  have HRA : Hidden (∀ W, Below w.heap.size w W → ∀ i, i < n → Calls Tryd.prog 40 #[.pointer (some ⟨p, 0, none⟩), .int .i64 (i : Int)] W fun e w' => ∃ g cap, e = .returned (.tuple #[.slice (some ⟨g, 0, none⟩) 32 cap, .nilIface]) ∧ W.heap.size ≤ g ∧ Row w' 5 g cap (readD D (48 + i)) ∧ Below W.heap.size W w') :=
    ⟨fun W hW i hi => pread_ok (h.below hW) (hp.below hW) i (by rw [← hn]; exact hi) hd⟩
  clear h hp hl hn
  go_enter Tryd.func60, Tryd.ntmps60
  go_wp2_with fail
  refine (plen_any HP.out).mono ?_
  rintro e w' ⟨rfl, rfl⟩
  go_wp2_with fail
  go_loopg [4, 10] n (fun m s i wr => ∃ k : Nat, k ≤ n ∧ m = n - k ∧ i = .int .i64 (k : Int) ∧ Hidden (wr.ownsRow w.heap.size 5 1 s (32 * k) ((allB D k).map bv) ∧ Below w.heap.size w wr))
  case atStart => exact ⟨0, by omega, rfl, rfl, ⟨World.ownsRow_nil _ _ _ _, Below.refl _ _⟩⟩
  case round =>
    obtain ⟨k, hk, rfl, rfl, hs⟩ := hrel
    by_cases hlt : k < n
    · have i0 : (0 : Int) ≤ k := by omega
      have i1 : (k : Int) < n := by omega
      have s1 : IntKind.i64.wrap ((k : Int) + 1) = (k : Int) + 1 := IntWalk.i64_in _ (by omega)
      have HS := Hidden.mk hs.out
      have hlen := HL.out k (by rw [← HN.out]; exact hlt)
      have HLT := Hidden.mk hlt
      clear hs hlt
      go_wp2_with fail
      refine (HRA.out _ HS.out.2 k HLT.out).mono ?_
      rintro e w5 ⟨g, cap, rfl, hg5, hr5, hb5⟩
      have hsrc := Src.of_rd hr5.rd
      rw [hlen] at hsrc
      have hown := own_below HS.out.1 hb5
      have hbw := HS.out.2.trans (hb5.mono HS.out.2.size)
      have HSZ := Hidden.mk hbw.size
      go_wp2_with (at_builtin; go_loud (refine wpList_append_src _ rfl (.tmp 22) (.tmp 23) _ rfl w.heap.size 5 ib _ 1 1 Tryd.underlying22 hi0 hz0 hz1 hz2 rfl (by decide) _ (32 * k) _ rfl hown _ 32 cap _ rfl hsrc (by simp [Value.oneCell']) (by simp only [maxLen]; omega) (by omega) HSZ.out ?_); intro v1 w1 hown1 hg1 hnn)
      have hB := hbw.grown hg1 hbw.size (fun q hq => (hown.lt q hq).1)
      have hown2 : w1.ownsRow w.heap.size 5 1 v1 (32 * (k + 1)) ((allB D (k + 1)).map bv) := by
        rw [allB_succ, List.map_append, Nat.mul_add]
        exact hown1
      have HO := Hidden.mk (And.intro hown2 hB)
      clear hown1 hown2 hB hg1 hnn hown hbw hsrc hg5 hr5 hb5
      go_wp2_with fail
      go_roundg (n - (k + 1))
      case measure => omega
      case rel => exact ⟨k + 1, by omega, rfl, by go_num, HO⟩
    · obtain rfl : n = k := by omega
      have t4 : decide ((n : Int) < n) = false := by simp
      go_wp2_with fail
      go_ret2
      exact ⟨_, rfl, hs.out.1, hs.out.2⟩
end
end Go.Proofs.YtmhlnbbnanehiaaDoor
/- Package view: New. -/
namespace Go.Proofs.YtmhlnbbnanehiaaDoor
open Go.RowKit Go.Maps Go.ChangeMaps

/-- an own row of bytes that is not empty, as a row -/
theorem row_of_owns {w : World} {base n : Nat} {v : Value} {l : Bytes} (h : w.ownsRow base 5 1 v n (l.map bv)) (hl : l.length = n) (hn : 0 < n) : ∃ g cap, v = .slice (some ⟨g, 0, none⟩) n cap ∧ base ≤ g ∧ Row w 5 g cap l := by
  obtain ⟨-, ⟨_, h0⟩ | ⟨g, cap, cur, rfl, hb, hg, h1, h2, h3, h4⟩⟩ := h
  · omega
  · exact ⟨g, cap, rfl, hb, cur, hg, by omega, h2, by omega, by simpa [hl] using h4⟩
/-- a view lies at block v: its pages, what is kept, what is now, what is dirty; G: the blocks that it takes -/
def VwH (w : World) (G : Nat → Prop) (v p : Nat) (K N : Bytes) (f : Nat → Option Value) (cnt : Nat) : Prop :=
  ∃ gk ck gn cn bm, w.heap[v]? = some (.cells #[.pointer (some ⟨p, 0, none⟩), .slice (some ⟨gk, 0, none⟩) K.length ck, .slice (some ⟨gn, 0, none⟩) N.length cn, .map (some bm)] 114 (0, 0)) ∧
    Row w 5 gk ck K ∧ Row w 5 gn cn N ∧ gk ≠ gn ∧ IM Tryd.prog 3 natL w bm f cnt ∧ ∀ q, G q ↔ q = v ∨ q = gk ∨ q = gn ∨ q = bm
section
variable {w0 w : World} {F : Nat → Prop} {p d st : Nat} {D : Dv}
set_option maxRecDepth 100000 in
theorem vnew_ok (h : DevB w0 w F d D) (hp : PgH w F p d st (nP D)) (hd : D.down = false) (hl : ∀ i, i < nP D → (readD D (48 + i)).length = 32) (n : Nat) (hn : n = nP D) (hn1 : 1 ≤ n) :
    Calls Tryd.prog 11 #[.pointer (some ⟨p, 0, none⟩)] w fun e w' => ∃ v G, e = .returned (.tuple #[.pointer (some ⟨v, 0, none⟩), .nilIface]) ∧ VwH w' G v p (allB D n) (allB D n) (fun _ => none) 0 ∧ (∀ q, G q → w.heap.size ≤ q) ∧ Below w.heap.size w w' := by
  have hn2 : n ≤ 200 := by rw [hn]; exact (nP_le D).1
  have HAL := Hidden.mk (allB_len (D := D) n (fun i hi => hl i (by rw [← hn]; exact hi)))
  have HA := Hidden.mk (vall_ok h hp hd hl n hn)
  clear h hp hl hn hd
  go_enter Tryd.func11, Tryd.ntmps11
  go_wp2_with fail
  refine HA.out.mono ?_
  rintro e w1 ⟨v1, rfl, hown, hb1⟩
  obtain ⟨g, cap, rfl, hg, hr⟩ := row_of_owns hown HAL.out (by omega)
  have HB1 := Hidden.mk (And.intro hr (And.intro hg hb1))
  clear hown hr hg hb1 HA
  go_wp2_with fail
  refine (clone_some _ (32 * n) cap (allB D n) _ HAL.out (by omega) HB1.out.1.rd).mono ?_
  rintro e w2 ⟨g2, cap2, rfl, hg2, hr2, hb2⟩
  have HB2 := Hidden.mk (And.intro hr2 (And.intro hg2 hb2))
  clear hr2 hg2 hb2
  have hmm := @run_makeMap Tryd.prog
  go_wp2_with fail
  go_ret2
  clear hmm
  obtain ⟨hr1, hg1, hb1⟩ := HB1.out
  obtain ⟨hr2, hg2, hb2⟩ := HB2.out
  have hbw : Below w2.heap.size w2 ((w2.alloc (.map #[] 0)).alloc (.cells #[.pointer (some ⟨p, 0, none⟩), .slice (some ⟨g, 0, none⟩) (32 * n) cap, .slice (some ⟨g2, 0, none⟩) (32 * n) cap2, .map (some w2.heap.size)] 114)) :=
    ((Below.refl _ _).alloc (Nat.le_refl _) _).alloc (by simp) _
  have hs1 := hb1.size
  have hs2 := hb2.size
  have hl1 := hr1.lt
  have hv := heap_alloc_new (w2.alloc (.map #[] 0)) (.cells #[.pointer (some ⟨p, 0, none⟩), .slice (some ⟨g, 0, none⟩) (32 * n) cap, .slice (some ⟨g2, 0, none⟩) (32 * n) cap2, .map (some w2.heap.size)] 114)
  rw [World.size_alloc] at hv
  refine ⟨w2.heap.size + 1, fun q => q = w2.heap.size + 1 ∨ q = g ∨ q = g2 ∨ q = w2.heap.size, rfl, ⟨g, cap, g2, cap2, w2.heap.size, ?_, (hr1.below hb2 hl1).below hbw (by omega), hr2.below hbw hr2.lt, by omega, (IM.made w2).block (Below.heap_alloc _ _ _ (by simp)), fun q => Iff.rfl⟩, fun q hq => by omega, (hb1.trans (hb2.mono hs1)).trans (hbw.mono (by omega))⟩
  rw [HAL.out]
  exact hv
end
end Go.Proofs.YtmhlnbbnanehiaaDoor
/- Package view: Len, has, Read. -/
namespace Go.Proofs.YtmhlnbbnanehiaaDoor
open Go.RowKit Go.Maps Go.ChangeMaps

theorem four {w : World} {p : Nat} {a b c d : Value} {t : TypeId} (h : w.heap[p]? = some (.cells #[a, b, c, d] t (0, 0))) :
    w.cell? ⟨p, 0, none⟩ = some a ∧ w.cell? ⟨p, 1, none⟩ = some b ∧ w.cell? ⟨p, 2, none⟩ = some c ∧ w.cell? ⟨p, 3, none⟩ = some d :=
  ⟨by rw [cell_of_row w p 0 _ _ _ h]; rfl, by rw [cell_of_row w p 1 _ _ _ h]; rfl, by rw [cell_of_row w p 2 _ _ _ h]; rfl, by rw [cell_of_row w p 3 _ _ _ h]; rfl⟩
section
variable {w : World} {G : Nat → Prop} {v p cnt : Nat} {K N : Bytes} {f : Nat → Option Value}
theorem vlen_any (h : VwH w G v p K N f cnt) : Calls Tryd.prog 12 #[.pointer (some ⟨v, 0, none⟩)] w fun e w' => e = .returned (.int .i64 N.length) ∧ w = w' := by
  obtain ⟨gk, ck, gn, cn, bm, h0, -⟩ := h
  obtain ⟨c0, c1, c2, c3⟩ := four h0
  clear h0
  go_enter Tryd.func12, Tryd.ntmps12
  go_wp2_with fail
  go_ret
  exact ⟨rfl, rfl⟩
/-- do the bytes lie there? -/
def vhas (N : Bytes) (at_ n : Int) : Bool := decide (0 ≤ at_ ∧ 0 ≤ n ∧ at_ + n ≤ N.length)
theorem vhas_any (h : VwH w G v p K N f cnt) (hN : N.length ≤ 6400) (x n : Int) : Calls Tryd.prog 62 #[.pointer (some ⟨v, 0, none⟩), .int .i64 x, .int .i64 n] w fun e w' => e = .returned (.bool (vhas N x n)) ∧ w = w' := by
  obtain ⟨gk, ck, gn, cn, bm, h0, -⟩ := h
  obtain ⟨c0, c1, c2, c3⟩ := four h0
  clear h0
  by_cases h1 : 0 ≤ x
  · have d1 : decide (0 ≤ x) = true := by simpa using h1
    by_cases h2 : 0 ≤ n
    · have d2 : decide (0 ≤ n) = true := by simpa using h2
      by_cases h3 : x ≤ N.length
      · have d3 : decide (x ≤ (N.length : Int)) = true := by simpa using h3
        have s1 : IntKind.i64.wrap ((N.length : Int) - x) = (N.length : Int) - x := IntWalk.i64_in _ (by omega)
        have e : vhas N x n = decide (n ≤ (N.length : Int) - x) := by
          unfold vhas
          exact decide_eq_decide.2 ⟨fun h => by omega, fun h => by omega⟩
        rw [e]
        clear h1 h2 h3 e
        go_enter Tryd.func62, Tryd.ntmps62
        go_wp2_with fail
        go_ret
        exact ⟨rfl, rfl⟩
      · have d3 : decide (x ≤ (N.length : Int)) = false := by simp; omega
        have e : vhas N x n = false := decide_eq_false (fun h => by omega)
        rw [e]
        clear h1 h2 h3 e
        go_enter Tryd.func62, Tryd.ntmps62
        go_wp2_with fail
        go_ret
        exact ⟨rfl, rfl⟩
    · have d2 : decide (0 ≤ n) = false := by simp; omega
      have e : vhas N x n = false := decide_eq_false (fun h => by omega)
      rw [e]
      clear h1 h2 e
      go_enter Tryd.func62, Tryd.ntmps62
      go_wp2_with fail
      go_ret
      exact ⟨rfl, rfl⟩
  · have d1 : decide (0 ≤ x) = false := by simp; omega
    have e : vhas N x n = false := decide_eq_false (fun h => by omega)
    rw [e]
    clear h1 e
    go_enter Tryd.func62, Tryd.ntmps62
    go_wp2_with fail
    go_ret
    exact ⟨rfl, rfl⟩
end
end Go.Proofs.YtmhlnbbnanehiaaDoor
/- Laid: library functions whose contracts are proved over whatever program: the table of numbers, and a field a function or a type. -/
namespace Go.Proofs.YtmhlnbbnanehiaaDoor
open Go.Shelf
def keysB_ren : Go.Shelf.Ren := ⟨fun | 7 => 66 | 10 => 91 | n => n, fun | 23 => 112 | 26 => 3 | 3 => 4 | 28 => 120 | 0 => 0 | 27 => 119 | 33 => 148 | 4 => 4 | n => n, fun | n => n⟩
theorem keysB : Go.Proofs.SlLaysZI.n7 Tryd.prog keysB_ren := {
  mixed := by kernel_rfl
  f7 := ⟨Tryd.f66.name, by decide, Tryd.func66.trans (congrArg some (by kernel_rfl))⟩
  f10 := ⟨Tryd.f91.name, by decide, Tryd.func91.trans (congrArg some (by kernel_rfl))⟩
  t0 := Tryd.underlying0
  a0 := Tryd.isAgg0
  z0 := Tryd.sizeOf0
  v0 := Tryd.zeroValue0
  t4 := Tryd.underlying4
  a4 := Tryd.isAgg4
  z4 := Tryd.sizeOf4
  v4 := Tryd.zeroValue4
  t23 := Tryd.underlying112
  a23 := Tryd.isAgg112
  z23 := Tryd.sizeOf112
  v23 := Tryd.zeroValue112
  t26 := Tryd.underlying3
  a26 := Tryd.isAgg3
  z26 := Tryd.sizeOf3
  v26 := Tryd.zeroValue3
  t27 := Tryd.underlying119
  a27 := Tryd.isAgg119
  z27 := Tryd.sizeOf119
  v27 := Tryd.zeroValue119
  t28 := Tryd.underlying120
  a28 := Tryd.isAgg120
  z28 := Tryd.sizeOf120
  v28 := Tryd.zeroValue120
  t33 := Tryd.underlying148
  a33 := Tryd.isAgg148
  z33 := Tryd.sizeOf148
  v33 := Tryd.zeroValue148 }
def sortedI_ren : Go.Shelf.Ren := ⟨fun | 6 => 65 | 8 => 89 | 9 => 90 | 11 => 103 | 13 => 105 | 12 => 104 | 23 => 121 | 24 => 122 | 14 => 112 | 15 => 113 | 16 => 114 | 17 => 115 | 18 => 116 | 19 => 117 | 20 => 118 | 21 => 119 | 22 => 120 | 25 => 131 | 26 => 132 | 27 => 133 | 28 => 134 | 29 => 135 | 30 => 108 | 31 => 139 | n => n, fun | 26 => 3 | 28 => 120 | 24 => 40 | 0 => 0 | 3 => 3 | 37 => 170 | 48 => 194 | 50 => 196 | 4 => 4 | 40 => 187 | 39 => 186 | 45 => 191 | 5 => 5 | 9 => 9 | 51 => 202 | 55 => 206 | 57 => 210 | 58 => 211 | 33 => 148 | n => n, fun | n => n⟩
theorem sortedI : Go.Proofs.SlLaysZI.n6 Tryd.prog sortedI_ren := {
  mixed := by kernel_rfl
  f6 := ⟨Tryd.f65.name, by decide, Tryd.func65.trans (congrArg some (by kernel_rfl))⟩
  f8 := ⟨Tryd.f89.name, by decide, Tryd.func89.trans (congrArg some (by kernel_rfl))⟩
  f11 := ⟨Tryd.f103.name, by decide, Tryd.func103.trans (congrArg some (by kernel_rfl))⟩
  t0 := Tryd.underlying0
  a0 := Tryd.isAgg0
  z0 := Tryd.sizeOf0
  v0 := Tryd.zeroValue0
  t24 := Tryd.underlying40
  a24 := Tryd.isAgg40
  z24 := Tryd.sizeOf40
  v24 := Tryd.zeroValue40
  t26 := Tryd.underlying3
  a26 := Tryd.isAgg3
  z26 := Tryd.sizeOf3
  v26 := Tryd.zeroValue3
  t28 := Tryd.underlying120
  a28 := Tryd.isAgg120
  z28 := Tryd.sizeOf120
  v28 := Tryd.zeroValue120
  i26 := by kernel_rfl }
def sortI_ren : Go.Shelf.Ren := ⟨fun | 5 => 90 | 8 => 105 | 7 => 104 | 19 => 121 | 20 => 122 | 10 => 112 | 11 => 113 | 12 => 114 | 13 => 115 | 14 => 116 | 15 => 117 | 16 => 118 | 17 => 119 | 18 => 120 | 30 => 131 | 31 => 132 | 32 => 133 | 33 => 134 | 34 => 135 | 35 => 108 | 40 => 139 | n => n, fun | 23 => 40 | 25 => 3 | 3 => 3 | 32 => 170 | 22 => 40 | 0 => 0 | 44 => 194 | 46 => 196 | 4 => 4 | 36 => 187 | 35 => 186 | 41 => 191 | 5 => 5 | 9 => 9 | 53 => 202 | 57 => 206 | 63 => 210 | 64 => 211 | n => n, fun | n => n⟩
theorem sortI : Go.Proofs.SlLaysM.n5 Tryd.prog sortI_ren := {
  mixed := by kernel_rfl
  f5 := ⟨Tryd.f90.name, by decide, Tryd.func90.trans (congrArg some (by kernel_rfl))⟩
  f7 := ⟨Tryd.f104.name, by decide, Tryd.func104.trans (congrArg some (by kernel_rfl))⟩
  f8 := Tryd.func105.trans (congrArg some (by kernel_rfl))
  f10 := ⟨Tryd.f112.name, by decide, Tryd.func112.trans (congrArg some (by kernel_rfl))⟩
  f11 := ⟨Tryd.f113.name, by decide, Tryd.func113.trans (congrArg some (by kernel_rfl))⟩
  f12 := ⟨Tryd.f114.name, by decide, Tryd.func114.trans (congrArg some (by kernel_rfl))⟩
  f13 := ⟨Tryd.f115.name, by decide, Tryd.func115.trans (congrArg some (by kernel_rfl))⟩
  f14 := ⟨Tryd.f116.name, by decide, Tryd.func116.trans (congrArg some (by kernel_rfl))⟩
  f15 := ⟨Tryd.f117.name, by decide, Tryd.func117.trans (congrArg some (by kernel_rfl))⟩
  f16 := ⟨Tryd.f118.name, by decide, Tryd.func118.trans (congrArg some (by kernel_rfl))⟩
  f17 := ⟨Tryd.f119.name, by decide, Tryd.func119.trans (congrArg some (by kernel_rfl))⟩
  f18 := ⟨Tryd.f120.name, by decide, Tryd.func120.trans (congrArg some (by kernel_rfl))⟩
  f19 := Tryd.func121.trans (congrArg some (by kernel_rfl))
  f20 := Tryd.func122.trans (congrArg some (by kernel_rfl))
  f30 := ⟨Tryd.f131.name, by decide, Tryd.func131.trans (congrArg some (by kernel_rfl))⟩
  f31 := Tryd.func132.trans (congrArg some (by kernel_rfl))
  f32 := Tryd.func133.trans (congrArg some (by kernel_rfl))
  f33 := ⟨Tryd.f134.name, by decide, Tryd.func134.trans (congrArg some (by kernel_rfl))⟩
  f34 := ⟨Tryd.f135.name, by decide, Tryd.func135.trans (congrArg some (by kernel_rfl))⟩
  f35 := ⟨Tryd.f108.name, by decide, Tryd.func108.trans (congrArg some (by kernel_rfl))⟩
  f40 := ⟨Tryd.f139.name, by decide, Tryd.func139.trans (congrArg some (by kernel_rfl))⟩
  t0 := Tryd.underlying0
  a0 := Tryd.isAgg0
  z0 := Tryd.sizeOf0
  v0 := Tryd.zeroValue0
  t3 := Tryd.underlying3
  a3 := Tryd.isAgg3
  z3 := Tryd.sizeOf3
  v3 := Tryd.zeroValue3
  t4 := Tryd.underlying4
  a4 := Tryd.isAgg4
  z4 := Tryd.sizeOf4
  v4 := Tryd.zeroValue4
  t5 := Tryd.underlying5
  a5 := Tryd.isAgg5
  z5 := Tryd.sizeOf5
  v5 := Tryd.zeroValue5
  t9 := Tryd.underlying9
  a9 := Tryd.isAgg9
  z9 := Tryd.sizeOf9
  v9 := Tryd.zeroValue9
  t22 := Tryd.underlying40
  a22 := Tryd.isAgg40
  z22 := Tryd.sizeOf40
  v22 := Tryd.zeroValue40
  t23 := Tryd.underlying40
  a23 := Tryd.isAgg40
  z23 := Tryd.sizeOf40
  v23 := Tryd.zeroValue40
  t25 := Tryd.underlying3
  a25 := Tryd.isAgg3
  z25 := Tryd.sizeOf3
  v25 := Tryd.zeroValue3
  t32 := Tryd.underlying170
  a32 := Tryd.isAgg170
  z32 := Tryd.sizeOf170
  v32 := Tryd.zeroValue170
  t35 := Tryd.underlying186
  a35 := Tryd.isAgg186
  z35 := Tryd.sizeOf186
  v35 := Tryd.zeroValue186
  t36 := Tryd.underlying187
  a36 := Tryd.isAgg187
  z36 := Tryd.sizeOf187
  v36 := Tryd.zeroValue187
  t41 := Tryd.underlying191
  a41 := Tryd.isAgg191
  z41 := Tryd.sizeOf191
  v41 := Tryd.zeroValue191
  t44 := Tryd.underlying194
  a44 := Tryd.isAgg194
  z44 := Tryd.sizeOf194
  v44 := Tryd.zeroValue194
  t46 := Tryd.underlying196
  a46 := Tryd.isAgg196
  z46 := Tryd.sizeOf196
  v46 := Tryd.zeroValue196
  t53 := Tryd.underlying202
  a53 := Tryd.isAgg202
  z53 := Tryd.sizeOf202
  v53 := Tryd.zeroValue202
  t57 := Tryd.underlying206
  a57 := Tryd.isAgg206
  z57 := Tryd.sizeOf206
  v57 := Tryd.zeroValue206
  t63 := Tryd.underlying210
  a63 := Tryd.isAgg210
  z63 := Tryd.sizeOf210
  v63 := Tryd.zeroValue210
  t64 := Tryd.underlying211
  a64 := Tryd.isAgg211
  z64 := Tryd.sizeOf211
  v64 := Tryd.zeroValue211 }
end Go.Proofs.YtmhlnbbnanehiaaDoor
/- slices.Sorted(maps.Keys(m)) of maps from numbers to booleans. -/
namespace Go.Proofs.YtmhlnbbnanehiaaDoor
open Go.RowKit Go.Maps Go.ChangeMaps Go.Sort Go.Shelf

section
variable {P : Program} {K : TypeId} {w : World} {b cnt : Nat} {f : Nat → Option Value}
/-- the keys of a map that is told by a function -/
theorem IM.keys (h : IM P K natL w b f cnt) (hK : P.underlying K = some (.int .i64)) :
    ∃ D : DataW Value, w.ownsMap P K heldR b cnt D ∧ Maps.size D = cnt ∧ (intKeys D).Nodup ∧ (∀ x ∈ intKeys D, ∃ k : Nat, x = k ∧ (f k).isSome = true) ∧ ∀ k, (f k).isSome = true → (k : Int) ∈ intKeys D := by
  obtain ⟨D, hown, hs, hh⟩ := h
  have hK2 := Go.Maps.int_keyed hK
  refine ⟨D, hown, hs, ?_⟩
  obtain ⟨L, hD, hp, _⟩ := hown.entries hK2
  obtain ⟨L', hD', hko⟩ := hown.keysOf
  obtain rfl : L = L' := by rw [hD] at hD'; simpa using hD'
  subst hD
  have hint : ∀ p ∈ L, ∃ x, p.1 = .int .i64 x := fun p hp => by
    obtain ⟨v, hv⟩ := hko p hp
    obtain ⟨x, _, hx, _⟩ := Maps.keyOf_i64 hK hv
    exact ⟨x, hx⟩
  clear hown hD'
  have hmem : ∀ x : Int, x ∈ intKeys (.map L) ↔ has (.map L) (.int .i64 x) = true := fun x => by
    rw [has_eq, List.any_eq_true]
    show x ∈ L.map (fun p => Go.intOf p.1) ↔ _
    rw [List.mem_map]
    constructor
    · rintro ⟨p, hp', rfl⟩
      obtain ⟨a, ha⟩ := hint p hp'
      exact ⟨p, hp', by rw [ha]; simp [Lit.sameKey, Go.intOf]⟩
    · rintro ⟨p, hp', hs'⟩
      obtain ⟨a, ha⟩ := hint p hp'
      rw [ha] at hs'
      exact ⟨p, hp', by rw [ha]; simpa [Lit.sameKey, Go.intOf] using hs'⟩
  refine ⟨?_, fun x hx => ?_, fun k hk => ?_⟩
  · show (L.map fun p => Go.intOf p.1).Nodup
    refine List.pairwise_map.2 (hp.imp_of_mem fun {p q} hp' hq' hne e => hne ?_)
    obtain ⟨a, ha⟩ := hint p hp'
    obtain ⟨c, hc⟩ := hint q hq'
    rw [ha, hc] at e ⊢
    exact congrArg _ e
  · obtain ⟨k, e, hk⟩ := hh.2 _ ((hmem x).1 hx)
    unfold natL at e
    injection e with _ e
    exact ⟨k, e, hk⟩
  · obtain ⟨v, hv⟩ := Option.isSome_iff_exists.1 hk
    exact (hmem k).2 ((hh.1 k).2 v hv).1
end
/-- a list of numbers that rises, with just the keys of f -/
structure KeysOf (f : Nat → Option Value) (S : List Nat) : Prop where
  up : S.Pairwise (· < ·)
  mem : ∀ k, k ∈ S ↔ (f k).isSome = true
theorem keys_sorted {f : Nat → Option Value} {L ss : List Int} (hp : ss.Perm L) (hn : L.Nodup) (h1 : ∀ x ∈ L, ∃ k : Nat, x = k ∧ (f k).isSome = true) (h2 : ∀ k, (f k).isSome = true → (k : Int) ∈ L) :
    ∃ S : List Nat, ss.mergeSort leI = S.map (fun i : Nat => (i : Int)) ∧ KeysOf f S := by
  have tr : ∀ a b c : Int, leI a b = true → leI b c = true → leI a c = true := fun a b c h1 h2 => by simp only [leI, decide_eq_true_eq] at *; exact Int.le_trans h1 h2
  have tot : ∀ a b : Int, (leI a b || leI b a) = true := fun a b => by simp only [leI, Bool.or_eq_true, decide_eq_true_eq]; exact Int.le_total a b
  have hpm : (ss.mergeSort leI).Perm L := (List.mergeSort_perm ss leI).trans hp
  have hs := List.pairwise_mergeSort tr tot ss
  have hnd : (ss.mergeSort leI).Nodup := hpm.nodup_iff.2 hn
  have hm : ∀ x, x ∈ ss.mergeSort leI ↔ x ∈ L := fun x => hpm.mem_iff
  generalize ss.mergeSort leI = T at *
  have hcast : T = (T.map Int.toNat).map (fun i : Nat => (i : Int)) := by
    rw [List.map_map]
    conv => lhs; rw [← List.map_id T]
    refine List.map_congr_left fun x hx => ?_
    obtain ⟨k, rfl, _⟩ := h1 x ((hm x).1 hx)
    simp
  refine ⟨T.map Int.toNat, hcast, ?_, fun k => ?_⟩
  · refine List.pairwise_map.2 ?_
    refine (hs.and hnd).imp_of_mem fun {a b} ha hb hab => ?_
    obtain ⟨x, rfl, _⟩ := h1 a ((hm a).1 ha)
    obtain ⟨y, rfl, _⟩ := h1 b ((hm b).1 hb)
    have e1 := of_decide_eq_true hab.1
    have e2 := hab.2
    simp only [Int.toNat_natCast]
    omega
  · rw [List.mem_map]
    constructor
    · rintro ⟨x, hx, rfl⟩
      obtain ⟨y, rfl, hy⟩ := h1 x ((hm x).1 hx)
      simpa using hy
    · intro hk
      exact ⟨(k : Int), (hm _).2 (h2 k hk), by simp⟩
theorem sorts_int (m : Nat) : AnyZI.SortsIn Tryd.prog sortedI_ren Fence.wide m :=
  ⟨fun blk off cap ss W hH hblk hsz => callsIn_wide.2 (AnyM.slices_Sort_int sortI blk off cap ss W hH hblk hsz),
   fun p cap W => callsIn_wide.2 (AnyM.slices_Sort_int_none sortI p cap W)⟩
theorem keys_call (b : Nat) (w : World) : Calls Tryd.prog 66 #[.map (some b)] w fun e w' => e = .returned (.func (.func 91) #[] #[.pointer (some ⟨w.heap.size, 0, none⟩)]) ∧ w' = w.alloc (.cells #[.map (some b)] 112) := by
  have cK : CallsIn Fence.wide 5 Tryd.prog 66 #[.map (some b)] w fun e w' => e = .returned (.func (.func 91) #[] #[.pointer (some ⟨w.heap.size, 0, none⟩)]) ∧ w' = w.alloc (.cells #[.map (some b)] 112) := AnyZI.keys_in keysB Fence.wide 5 trivial rfl (some b) w
  exact callsIn_wide.1 cK
theorem sorted_call (b cnt : Nat) (f : Nat → Option Value) (w : World) (h : IM Tryd.prog 3 natL w b f cnt) (hc : cnt ≤ 100000) :
    Calls Tryd.prog 65 #[.func (.func 91) #[] #[.pointer (some ⟨w.heap.size, 0, none⟩)]] (w.alloc (.cells #[.map (some b)] 112)) fun e w' => ∃ v S, e = .returned v ∧ KeysOf f S ∧
      w'.ownsRow w.heap.size 3 1 v S.length (S.map fun i : Nat => .int .i64 (i : Int)) ∧ Below w.heap.size w w' := by
  obtain ⟨D, hown, hs, hn, h1, h2⟩ := h.keys Tryd.underlying3
  have hbl := hown.lt
  have hseq : SeqGives Fence.wide 2 Tryd.prog 91 #[.pointer (some ⟨w.heap.size, 0, none⟩)] encZ (fun ss => ss.Perm (intKeys D)) (Maps.size D) (w.alloc (.cells #[.map (some b)] 112)) :=
    AnyZI.keys_gives (ρ := keysB_ren) { keysB with } Fence.wide _ trivial rfl (by omega) w.heap.size b cnt D _ (by simp) (by simp) (by
      obtain ⟨es, clock, hb, Ft, hs, hD⟩ := hown
      exact ⟨es, clock, (Below.heap_alloc _ _ b hbl).trans hb, Ft, hs, hD⟩)
  have cS := AnyZI.sorted_in sortedI Fence.wide 5 trivial trivial trivial trivial rfl (by omega) (sorts_int _) (enters_of Tryd.func90 (by kernel_rfl) rfl) 91 #[.pointer (some ⟨w.heap.size, 0, none⟩)] trivial (enters_of Tryd.func91 (by kernel_rfl) rfl) _ _ (by rw [hs]; simp only [maxLen]; omega) (by rw [hs]; omega) _ hseq
  change CallsIn _ _ Tryd.prog 65 _ _ _ at cS
  refine (callsIn_wide.1 cS).mono ?_
  rintro e w' ⟨v, ss, rfl, hS, hrow, -, hb⟩
  obtain ⟨S, e1, e2⟩ := keys_sorted hS hn h1 h2
  have hlen : S.length = ss.length := by
    have := congrArg List.length e1
    rw [List.length_map, List.length_mergeSort] at this
    omega
  refine ⟨v, S, rfl, e2, ?_, ((Below.refl _ w).alloc (Nat.le_refl _) _).trans (hb.mono (by simp))⟩
  have e3 : (ss.mergeSort (fun x y => decide (x ≤ y))).map encZ = S.map fun i : Nat => .int .i64 (i : Int) := by
    show (ss.mergeSort leI).map encZ = _
    rw [e1, List.map_map]; rfl
  rw [e3, ← hlen] at hrow
  exact ownsRow_base_a hrow (by simp)
end Go.Proofs.YtmhlnbbnanehiaaDoor
/- Package view: Dirty. -/
namespace Go.Proofs.YtmhlnbbnanehiaaDoor
open Go.RowKit Go.Maps Go.ChangeMaps

section
variable {w : World} {G : Nat → Prop} {v p cnt : Nat} {K N : Bytes} {f : Nat → Option Value}
theorem VwH.below {w' : World} (h : VwH w G v p K N f cnt) (hb : Below w.heap.size w w') : VwH w' G v p K N f cnt := by
  obtain ⟨gk, ck, gn, cn, bm, h0, h1, h2, h3, h4, h5⟩ := h
  exact ⟨gk, ck, gn, cn, bm, (hb.block _ (Array.getElem?_eq_some_iff.1 h0).1).trans h0, h1.below hb h1.lt, h2.below hb h2.lt, h3, h4.block (hb.block _ h4.lt), h5⟩
/-- a view beside what may have changed -/
theorem VwH.keep {w' : World} {F : Nat → Prop} (h : VwH w G v p K N f cnt) (hk : Keep F w w') (ha : ∀ q, G q → ¬ F q) : VwH w' G v p K N f cnt := by
  obtain ⟨gk, ck, gn, cn, bm, h0, h1, h2, h3, h4, h5⟩ := h
  exact ⟨gk, ck, gn, cn, bm, (hk.block _ (Array.getElem?_eq_some_iff.1 h0).1 (ha _ ((h5 _).2 (.inl rfl)))).trans h0, hk.row h1 (ha _ ((h5 _).2 (.inr (.inl rfl)))), hk.row h2 (ha _ ((h5 _).2 (.inr (.inr (.inl rfl))))), h3, h4.block (hk.block _ h4.lt (ha _ ((h5 _).2 (.inr (.inr (.inr rfl)))))), h5⟩
set_option maxRecDepth 100000 in
theorem vdirty_any (h : VwH w G v p K N f cnt) (hc : cnt ≤ 100000) : Calls Tryd.prog 17 #[.pointer (some ⟨v, 0, none⟩)] w fun e w' => ∃ u S, e = .returned u ∧ KeysOf f S ∧
      w'.ownsRow w.heap.size 3 1 u S.length (S.map fun i : Nat => .int .i64 (i : Int)) ∧ Below w.heap.size w w' := by
  obtain ⟨gk, ck, gn, cn, bm, h0, -, -, -, hm, -⟩ := h
  obtain ⟨c0, c1, c2, c3⟩ := four h0
  have HK := Hidden.mk (keys_call bm w)
  have HS := Hidden.mk (sorted_call bm cnt f w hm hc)
  clear h0 hm
  go_enter Tryd.func17, Tryd.ntmps17
  go_wp2_with fail
  refine HK.out.mono ?_
  rintro e w1 ⟨rfl, rfl⟩
  go_wp2_with fail
  refine HS.out.mono ?_
  rintro e w2 ⟨u, S, rfl, hk, hown, hb⟩
  have HF := Hidden.mk (And.intro hk (And.intro hown hb))
  clear hk hown hb
  go_wp2_with fail
  go_ret
  exact ⟨u, S, rfl, HF.out⟩
end
end Go.Proofs.YtmhlnbbnanehiaaDoor
/- Package view: the clone of a map that is told by a function. -/
namespace Go.Proofs.YtmhlnbbnanehiaaDoor
open Go.RowKit Go.Maps Go.ChangeMaps

theorem mapClone_call {b cnt : Nat} {f : Nat → Option Value} {w : World} (h : IM Tryd.prog 3 natL w b f cnt) :
    Calls Tryd.prog 63 #[.map (some b)] w fun e w' => e = .returned (.map (some w.heap.size)) ∧ IM Tryd.prog 3 natL w' w.heap.size f cnt ∧ Below w.heap.size w w' := by
  obtain ⟨D, hown, hs, hh⟩ := h
  have hc := Go.Proofs.AnyW.maps_Clone_owns mapClone 3 heldR b cnt D w hown
  change Calls Tryd.prog 63 _ _ _ at hc
  refine hc.mono ?_
  rintro e w' ⟨he, h1, -, hb⟩
  exact ⟨he, ⟨D, h1, hs, hh⟩, hb⟩
end Go.Proofs.YtmhlnbbnanehiaaDoor
/- Package view: the plain words: what a write makes of the bytes and of the dirty pages. -/
namespace Go.Proofs.YtmhlnbbnanehiaaDoor
open Go.RowKit Go.Maps Go.ChangeMaps

/-- one more dirty page -/
def dm (fc : (Nat → Option Value) × Nat) (i : Nat) : (Nat → Option Value) × Nat := (upd fc.1 i (.bool true), if (fc.1 i).isSome then fc.2 else fc.2 + 1)
/-- the pages lo, lo + 1 .. are dirty, j of them -/
def dmN (f : Nat → Option Value) (c lo : Nat) : Nat → (Nat → Option Value) × Nat
  | 0 => (f, c)
  | j + 1 => dm (dmN f c lo j) (lo + j)
theorem dmN_at (f : Nat → Option Value) (c lo j k : Nat) : (dmN f c lo j).1 k = if lo ≤ k ∧ k < lo + j then some (.bool true) else f k := by
  induction j with
  | zero => rw [if_neg (by omega)]; rfl
  | succ j ih =>
    show upd (dmN f c lo j).1 (lo + j) (.bool true) k = _
    unfold upd
    by_cases h : k = lo + j
    · rw [if_pos h, if_pos (by omega)]
    · rw [if_neg h, ih]
      by_cases h2 : lo ≤ k ∧ k < lo + j
      · rw [if_pos h2, if_pos (by omega)]
      · rw [if_neg h2, if_neg (by omega)]
theorem dmN_le (f : Nat → Option Value) (c lo j : Nat) : (dmN f c lo j).2 ≤ c + j := by
  induction j with
  | zero => exact Nat.le_refl _
  | succ j ih =>
    show (if ((dmN f c lo j).1 (lo + j)).isSome then (dmN f c lo j).2 else (dmN f c lo j).2 + 1) ≤ _
    split <;> omega
/-- the bytes with b laid at x -/
def layB (N : Bytes) (x : Nat) (b : Bytes) : Bytes := N.take x ++ b ++ N.drop (x + b.length)
theorem layB_len {N : Bytes} {x : Nat} {b : Bytes} (h : x + b.length ≤ N.length) : (layB N x b).length = N.length := by
  unfold layB; simp; omega
theorem layB_nil {N : Bytes} {x : Nat} : layB N x [] = N := by
  unfold layB; simp
/-- laid in two parts -/
theorem layB_two {N : Bytes} {x : Nat} {b : Bytes} (k : Nat) (hk : k ≤ b.length) (h : x + b.length ≤ N.length) : layB (layB N x (b.take k)) (x + k) (b.drop k) = layB N x b := by
  have h1 : (b.take k).length = k := by simp; omega
  have h2 : (b.drop k).length = b.length - k := by simp
  have e1 : (layB N x (b.take k)).take (x + k) = N.take x ++ b.take k := by
    unfold layB
    rw [List.take_append_of_le_length (by simp; omega), List.take_of_length_le (by simp; omega)]
  have e2 : (layB N x (b.take k)).drop (x + k + (b.length - k)) = N.drop (x + b.length) := by
    unfold layB
    rw [List.drop_append, List.drop_eq_nil_of_le (by simp; omega), List.nil_append, h1, List.drop_drop]
    congr 1
    simp; omega
  show (layB N x (b.take k)).take (x + k) ++ b.drop k ++ (layB N x (b.take k)).drop (x + k + (b.drop k).length) = _
  rw [e1, h2, e2, List.append_assoc (N.take x), List.take_append_drop]
  rfl
/-- what was laid is there -/
theorem layB_read {N : Bytes} {x : Nat} {b : Bytes} (h : x + b.length ≤ N.length) : ((layB N x b).drop x).take b.length = b := by
  unfold layB
  rw [List.append_assoc, List.drop_append, List.drop_eq_nil_of_le (by simp; omega), List.nil_append]
  have : x - (N.take x).length = 0 := by simp; omega
  rw [this, List.drop_zero, List.take_append_of_le_length (Nat.le_refl _), List.take_of_length_le (Nat.le_refl _)]
end Go.Proofs.YtmhlnbbnanehiaaDoor
/- Package view: Write where it changes nothing. -/
namespace Go.Proofs.YtmhlnbbnanehiaaDoor
open Go.RowKit Go.Maps Go.ChangeMaps

section
variable {w : World} {G : Nat → Prop} {v p cnt : Nat} {K N : Bytes} {f : Nat → Option Value}
theorem vwrite_e1 (h : VwH w G v p K N f cnt) (hN : N.length ≤ 6400) (x : Int) (A : Option Addr) (n c : Nat) (hv : vhas N x n = false) : Calls Tryd.prog 13 #[.pointer (some ⟨v, 0, none⟩), .int .i64 x, .slice A n c] w fun e w' => e = .returned (.iface 103 (.int .i64 1)) ∧ w = w' := by
  have HH := Hidden.mk (vhas_any h hN x n)
  rw [hv] at HH
  clear h hv
  go_enter Tryd.func13, Tryd.ntmps13
  go_wp2_with fail
  refine HH.out.mono ?_
  rintro e w' ⟨rfl, rfl⟩
  go_wp2_with fail
  go_ret
  exact ⟨rfl, rfl⟩
theorem vwrite_none (h : VwH w G v p K N f cnt) (hN : N.length ≤ 6400) (x : Int) (A : Option Addr) (c : Nat) (hv : vhas N x 0 = true) : Calls Tryd.prog 13 #[.pointer (some ⟨v, 0, none⟩), .int .i64 x, .slice A 0 c] w fun e w' => e = .returned .nilIface ∧ w = w' := by
  have HH := Hidden.mk (vhas_any h hN x 0)
  rw [hv] at HH
  clear h hv
  go_enter Tryd.func13, Tryd.ntmps13
  go_wp2_with fail
  refine HH.out.mono ?_
  rintro e w' ⟨rfl, rfl⟩
  go_wp2_with fail
  go_ret
  exact ⟨rfl, rfl⟩
end
end Go.Proofs.YtmhlnbbnanehiaaDoor
/- Plain facts on changes of bytes. No program in sight. -/
namespace Go.Proofs.YtmhlnbbnanehiaaDoor

/-- a change: where, what stood there, what stands there then -/
structure Chg where
  at_ : Int
  old : Bytes
  new : Bytes

/-- how far two lists differ, from the first place on -/
def diffRun : Bytes → Bytes → Nat
  | x :: a, y :: b => if x = y then 0 else diffRun a b + 1
  | _, _ => 0
theorem diffRun_le (a b : Bytes) : diffRun a b ≤ a.length ∧ diffRun a b ≤ b.length := by
  induction a generalizing b with
  | nil => simp [diffRun]
  | cons x a ih =>
    cases b with
    | nil => simp [diffRun]
    | cons y b =>
      simp only [diffRun]
      have := ih b
      split <;> simp <;> omega
theorem diffRun_at (k : Nat) : ∀ (a b : Bytes), (∀ j, j < k → a[j]? ≠ b[j]?) → k ≤ a.length → k ≤ b.length → (k = a.length ∨ k = b.length ∨ a[k]? = b[k]?) → diffRun a b = k := by
  induction k with
  | zero =>
    intro a b _ _ _ h
    cases a with
    | nil => simp [diffRun]
    | cons x a =>
      cases b with
      | nil => simp [diffRun]
      | cons y b => simp at h; simp [diffRun, h]
  | succ k ih =>
    intro a b hne ha hb h
    cases a with
    | nil => simp at ha
    | cons x a =>
      cases b with
      | nil => simp at hb
      | cons y b =>
        have h0 := hne 0 (by omega)
        simp at h0
        have := ih a b (fun j hj => by have := hne (j + 1) (by omega); simpa using this) (by simpa using ha) (by simpa using hb) (by simpa using h)
        simp [diffRun, h0, this]
theorem diffRun_ne (a b : Bytes) (j : Nat) (h : j < diffRun a b) : a[j]? ≠ b[j]? := by
  induction a generalizing b j with
  | nil => simp [diffRun] at h
  | cons x a ih =>
    cases b with
    | nil => simp [diffRun] at h
    | cons y b =>
      simp only [diffRun] at h
      split at h
      · omega
      · rename_i hne
        cases j with
        | zero => simpa using hne
        | succ j => simpa using ih b j (by omega)
theorem diffRun_stop (a b : Bytes) (hl : a.length = b.length) (h : diffRun a b < a.length) : a[diffRun a b]? = b[diffRun a b]? := by
  induction a generalizing b with
  | nil => simp at h
  | cons x a ih =>
    cases b with
    | nil => simp at hl
    | cons y b =>
      simp only [diffRun] at h ⊢
      split
      · rename_i he; simp [he]
      · rename_i hne
        rw [if_neg hne] at h
        simpa using ih b (by simpa using hl) (by simpa using h)

/-- the run that begins at i -/
def runAt (a b : Bytes) (i : Nat) : Nat := diffRun (a.drop i) (b.drop i)
/-- the changes from i on; f: fuel -/
def diffF (a b : Bytes) : Nat → Nat → List Chg
  | 0, _ => []
  | f + 1, i =>
    if i < a.length then
      (if 0 < runAt a b i then [⟨i, (a.drop i).take (runAt a b i), (b.drop i).take (runAt a b i)⟩] else []) ++ diffF a b f (i + runAt a b i + 1)
    else []
theorem diffF_fuel (a b : Bytes) (f : Nat) : ∀ g i, a.length - i ≤ f → a.length - i ≤ g → diffF a b f i = diffF a b g i := by
  induction f with
  | zero =>
    intro g i hf hg
    cases g with
    | zero => rfl
    | succ g => simp only [diffF]; rw [if_neg (by omega)]
  | succ f ih =>
    intro g i hf hg
    cases g with
    | zero => simp only [diffF]; rw [if_neg (by omega)]
    | succ g =>
      simp only [diffF]
      split
      · rw [ih g _ (by omega) (by omega)]
      · rfl
/-- all changes -/
def diffL (a b : Bytes) : List Chg := diffF a b a.length 0
theorem diffF_step (a b : Bytes) (i : Nat) (h : i < a.length) : diffF a b (a.length - i) i =
    (if 0 < runAt a b i then [⟨i, (a.drop i).take (runAt a b i), (b.drop i).take (runAt a b i)⟩] else []) ++ diffF a b (a.length - (i + runAt a b i + 1)) (i + runAt a b i + 1) := by
  obtain ⟨f, hf⟩ : ∃ f, a.length - i = f + 1 := ⟨a.length - i - 1, by omega⟩
  rw [hf, diffF, if_pos h, diffF_fuel a b f (a.length - (i + runAt a b i + 1)) _ (by omega) (by omega)]
theorem runAt_le (a b : Bytes) (i : Nat) (hl : a.length = b.length) (hi : i ≤ a.length) : i + runAt a b i ≤ a.length := by
  have := (diffRun_le (a.drop i) (b.drop i)).1
  simp at this
  unfold runAt; omega
theorem runAt_ne (a b : Bytes) (i j : Nat) (h1 : i ≤ j) (h2 : j < i + runAt a b i) : a[j]? ≠ b[j]? := by
  have := diffRun_ne (a.drop i) (b.drop i) (j - i) (by unfold runAt at h2; omega)
  rw [List.getElem?_drop, List.getElem?_drop, show i + (j - i) = j from by omega] at this
  exact this
theorem runAt_stop (a b : Bytes) (i : Nat) (hl : a.length = b.length) (h : i + runAt a b i < a.length) : a[i + runAt a b i]? = b[i + runAt a b i]? := by
  have := diffRun_stop (a.drop i) (b.drop i) (by simp [hl]) (by unfold runAt at h; simp; omega)
  rw [List.getElem?_drop, List.getElem?_drop] at this
  exact this
/-- a walk that came to k has found the run -/
theorem runAt_at (a b : Bytes) (i k : Nat) (hl : a.length = b.length) (hik : i ≤ k) (hk : k ≤ a.length) (hne : ∀ j, i ≤ j → j < k → a[j]? ≠ b[j]?) (hstop : k = a.length ∨ a[k]? = b[k]?) : runAt a b i = k - i := by
  unfold runAt
  refine diffRun_at (k - i) _ _ (fun j hj => ?_) (by simp; omega) (by simp; omega) ?_
  · rw [List.getElem?_drop, List.getElem?_drop]; exact hne (i + j) (by omega) (by omega)
  · rcases hstop with h | h
    · left; simp; omega
    · right; right
      rw [List.getElem?_drop, List.getElem?_drop, show i + (k - i) = k from by omega]; exact h
end Go.Proofs.YtmhlnbbnanehiaaDoor
/- The region of diff.Diff that appends a change: in whatever order. -/
namespace Go.Proofs.YtmhlnbbnanehiaaDoor
open Go.RowKit

theorem Row.grown {w w' : World} {e g cap : Nat} {l : Bytes} {r : Option Nat} (h : Row w e g cap l) (hg : w.grownBy w' r) (hr : r ≠ some g) : Row w' e g cap l := by
  obtain ⟨cur, h0, h1⟩ := h
  exact ⟨cur, (hg.block g (Array.getElem?_eq_some_iff.1 h0).1 (fun e => hr e.symm)).trans h0, h1⟩
theorem change_info : (Tryd.prog.info? 135).map (fun i => (i.zero, i.size, i.bytes)) = some (some (.agg #[.int .i64 0, .slice none 0 0, .slice none 0 0]), 3, 56) := by kernel_rfl

/-- the region with a number, in a body -/
def findReg (id : Nat) : Code → Option Code
  | .region i ops d => if i = id then some (.region i ops d) else none
  | .seq a b => match findReg id a with
    | some c => some c
    | none => findReg id b
  | .cond _ a b => match findReg id a with
    | some c => some c
    | none => findReg id b
  | .block _ c => findReg id c
  | .loop c => findReg id c
  | .scope c => findReg id c
  | _ => none
noncomputable def diffReg : Code := ((Tryd.f43.body.bind (findReg 12)).getD .skip)

set_option maxRecDepth 100000 in
set_option maxHeartbeats 1000000 in
theorem diff_region (Q : Exit → Act → World → Prop) (p off q off2 n c d i k : Nat) (v : Value) (m : Nat) (xs : List Value) (base : Nat) (a b : Bytes) (w : World) (u2 u3 u4 u5 u9 u10 u11 u12 u13 u14 u15 u16 u17 u18 u19 u20 u21 u22 u23 u24 u25 u26 u27 u28 u29 u30 u31 u32 u33 u34 u35 u36 u37 u38 u39 u40 u41 u42 u43 u44 u45 u46 u47 u48 u49 u50 u51 u52 u53 u54 u55 u56 u57 u58 u59 u60 u61 u62 u63 : Value)
    (han : a.length = n) (hbn : b.length = n) (ha : Rd w (some ⟨p, off, none⟩) a) (hb : Rd w (some ⟨q, off2, none⟩) b) (hik : i < k) (hkn : k ≤ n) (hn : n ≤ 6400) (hkc : k ≤ c) (hkd : k ≤ d) (hci : ¬ c = i) (hdi : ¬ d = i)
    (hown : w.ownsRow base 135 3 v m xs) (hbase : base ≤ w.heap.size) (hm : m ≤ 100000)
    (h : ∀ v' w' g1 c1 g2 c2 (x46 x47 x48 x49 x50 x51 x52 x53 x54 x55 x56 x57 x58 x59 x60 : Value), w'.ownsRow base 135 3 v' (m + 1) (xs ++ [.int .i64 i, .slice (some ⟨g1, 0, none⟩) (k - i) c1, .slice (some ⟨g2, 0, none⟩) (k - i) c2]) →
      w.heap.size ≤ g1 → w.heap.size ≤ g2 → Row w' 5 g1 c1 ((a.drop i).take (k - i)) → Row w' 5 g2 c2 ((b.drop i).take (k - i)) → w.grownBy w' v.ownBlock → Q .normal ⟨#[.slice (some ⟨p, off, none⟩) n c, .slice (some ⟨q, off2, none⟩) n d, u2, u3, u4, u5, v', .int .i64 i, .int .i64 k, u9, u10, u11, u12, u13, u14, u15, u16, u17, u18, u19, u20, u21, u22, u23, u24, u25, u26, u27, u28, u29, u30, u31, u32, u33, u34, u35, u36, u37, u38, u39, u40, u41, u42, u43, u44, u45, x46, x47, x48, x49, x50, x51, x52, x53, x54, x55, x56, x57, x58, x59, x60, u61, u62, u63], []⟩ w') :
    Code.wp Tryd.prog diffReg Q ⟨#[.slice (some ⟨p, off, none⟩) n c, .slice (some ⟨q, off2, none⟩) n d, u2, u3, u4, u5, v, .int .i64 i, .int .i64 k, u9, u10, u11, u12, u13, u14, u15, u16, u17, u18, u19, u20, u21, u22, u23, u24, u25, u26, u27, u28, u29, u30, u31, u32, u33, u34, u35, u36, u37, u38, u39, u40, u41, u42, u43, u44, u45, u46, u47, u48, u49, u50, u51, u52, u53, u54, u55, u56, u57, u58, u59, u60, u61, u62, u63], []⟩ w := by
  obtain ⟨i0, hi0, hz0, hz1, hz2⟩ := info_parts change_info
  have cA : ∀ W, Below w.heap.size w W → Calls Tryd.prog 61 #[.slice (some ⟨p, off + i, none⟩) (k - i) (c - i)] W fun e w' => ∃ g cap, e = .returned (.slice (some ⟨g, 0, none⟩) (k - i) cap) ∧ W.heap.size ≤ g ∧ Row w' 5 g cap ((a.drop i).take (k - i)) ∧ Below W.heap.size W w' := fun W hW =>
    clone_some _ (k - i) _ ((a.drop i).take (k - i)) W (by simp; omega) (by omega) (by have := (ha.below hW).cut i (k - i) (by omega); simpa [Addr.add_lit] using this)
  have cB : ∀ W, Below w.heap.size w W → Calls Tryd.prog 61 #[.slice (some ⟨q, off2 + i, none⟩) (k - i) (d - i)] W fun e w' => ∃ g cap, e = .returned (.slice (some ⟨g, 0, none⟩) (k - i) cap) ∧ W.heap.size ≤ g ∧ Row w' 5 g cap ((b.drop i).take (k - i)) ∧ Below W.heap.size W w' := fun W hW =>
    clone_some _ (k - i) _ ((b.drop i).take (k - i)) W (by simp; omega) (by omega) (by have := (hb.below hW).cut i (k - i) (by omega); simpa [Addr.add_lit] using this)
  have HA := Hidden.mk cA
  have HB := Hidden.mk cB
  have hik' : i ≤ k := by omega
  clear cA cB ha hb han hbn
  conv => arg 2; whnf
  go_region_held3 (fun _ => True) (first | trivial)
    (first
      | (go_at_call 61; refine (HA.out _ (by exact (Below.refl _ _).drew)).mono ?_; rintro e w1 ⟨g1, cap1, rfl, hg1, hrow1, hb1⟩)
      | (go_at_call 61; refine (HB.out w1 (by exact ((Below.refl _ _).drew).trans hb1)).mono ?_; rintro e w2 ⟨g2, cap2, rfl, hg2, hrow2, hb2⟩; have hB2 : Below w.heap.size w w2 := (((Below.refl _ _).drew).trans hb1).trans (hb2.mono hb1.size))
      | (refine step_append_lies _ (by rfl) _ _ _ (by rfl) base 135 i0 _ 3 56 Tryd.underlying75 hi0 hz0 hz1 hz2 rfl (by omega) v m xs (by rfl) (own_below hown (hB2.alloc hB2.size _))
          ⟨w2.heap.size, 0, none⟩ 1 1 [.int .i64 i, .slice (some ⟨g1, 0, none⟩) (k - i) cap1, .slice (some ⟨g2, 0, none⟩) (k - i) cap2] (by rfl) (by rfl) (World.news_of_block (cs := #[.int .i64 i, .slice (some ⟨g1, 0, none⟩) (k - i) cap1, .slice (some ⟨g2, 0, none⟩) (k - i) cap2]) (t := 135) (fr := (0, 0)) (heap_alloc_new w2 _)) (by simp [Value.oneCell'])
          (by omega) (by simp only [maxLen]; omega) (by omega) (by simp; have := hB2.size; omega) (w2.heap.size + 1) (by simp) ?_; intro gg cap w3 hown3 hgrow hat hlt))
  have hal : Below w2.heap.size w2 (w2.alloc (.cells #[.int .i64 i, .slice (some ⟨g1, 0, none⟩) (k - i) cap1, .slice (some ⟨g2, 0, none⟩) (k - i) cap2] 135)) := (Below.refl _ _).alloc (Nat.le_refl _) _
  have hg1' : w.heap.size ≤ g1 := hg1
  have hg2' : w.heap.size ≤ g2 := Nat.le_trans hb1.size hg2
  have hne1 : v.ownBlock ≠ some g1 := fun e => by have := (hown.lt _ e).2; omega
  have hne2 : v.ownBlock ≠ some g2 := fun e => by have := (hown.lt _ e).2; omega
  refine h _ _ g1 cap1 g2 cap2 _ _ _ _ _ _ _ _ _ _ _ _ _ _ _ hown3 hg1' hg2' (((hrow1.below hb2 hrow1.lt).below hal (Nat.lt_of_lt_of_le hrow1.lt hb2.size)).grown hgrow hne1) ((hrow2.below hal hrow2.lt).grown hgrow hne2) (grown_trans' (hB2.trans (hal.mono hB2.size)) hgrow)
end Go.Proofs.YtmhlnbbnanehiaaDoor
/- The contract of diff.Diff. -/
namespace Go.Proofs.YtmhlnbbnanehiaaDoor
open Go.RowKit

/-- one change, as it lies in a row of the call's own -/
def ChAt (w : World) (base : Nat) (xs : List Value) (i : Nat) (c : Chg) : Prop :=
  ∃ go co gn cn, base ≤ go ∧ base ≤ gn ∧ xs[3 * i]? = some (.int .i64 c.at_) ∧ xs[3 * i + 1]? = some (.slice (some ⟨go, 0, none⟩) c.old.length co) ∧ xs[3 * i + 2]? = some (.slice (some ⟨gn, 0, none⟩) c.new.length cn) ∧
    Row w 5 go co c.old ∧ Row w 5 gn cn c.new
/-- the slice v is the call's own, and has the changes L -/
def OwnC (w : World) (base : Nat) (v : Value) (L : List Chg) : Prop :=
  ∃ xs, w.ownsRow base 135 3 v L.length xs ∧ ∀ i (h : i < L.length), ChAt w base xs i L[i]

theorem own_row_ne {w : World} {base : Nat} {e e' : TypeId} {size : Nat} {v : Value} {n : Nat} {xs : List Value} {g cap : Nat} {l : Bytes} (h : w.ownsRow base e size v n xs) (hr : Row w e' g cap l) (hne : e ≠ e') : v.ownBlock ≠ some g := by
  rcases h.2 with ⟨rfl, _⟩ | ⟨g', cap', cur, rfl, _, hh, _⟩
  · simp [Value.ownBlock]
  · intro he
    have : g' = g := by simpa [Value.ownBlock] using he
    subst this
    obtain ⟨cur', h0, _⟩ := hr
    rw [hh] at h0
    injection h0 with h0
    injection h0 with _ ht
    exact hne ht
theorem OwnC.snoc {w w' : World} {base : Nat} {v v' : Value} {L : List Chg} {xs : List Value} {at_ : Int} {g1 c1 g2 c2 n m : Nat} {old new : Bytes} (h : w.ownsRow base 135 3 v L.length xs) (hat : ∀ i (h : i < L.length), ChAt w base xs i L[i])
    (h' : w'.ownsRow base 135 3 v' (L.length + 1) (xs ++ [.int .i64 at_, .slice (some ⟨g1, 0, none⟩) n c1, .slice (some ⟨g2, 0, none⟩) m c2])) (hg : w.grownBy w' v.ownBlock)
    (hr1 : Row w' 5 g1 c1 old) (hr2 : Row w' 5 g2 c2 new) (ho : old.length = n) (hn : new.length = m) (hb1 : base ≤ g1) (hb2 : base ≤ g2) : OwnC w' base v' (L ++ [⟨at_, old, new⟩]) := by
  subst ho hn
  have hlen : xs.length = L.length * 3 := h.1
  refine ⟨_, by simpa using h', fun i hi => ?_⟩
  rw [List.length_append, List.length_singleton] at hi
  by_cases hlt : i < L.length
  · obtain ⟨go, co, gn, cn, h1, h2, e0, e1, e2, r1, r2⟩ := hat i hlt
    rw [List.getElem_append_left hlt]
    refine ⟨go, co, gn, cn, h1, h2, ?_, ?_, ?_, r1.grown hg (own_row_ne h r1 (by decide)), r2.grown hg (own_row_ne h r2 (by decide))⟩
    · rw [List.getElem?_append_left (by omega)]; exact e0
    · rw [List.getElem?_append_left (by omega)]; exact e1
    · rw [List.getElem?_append_left (by omega)]; exact e2
  · obtain rfl : i = L.length := by omega
    rw [List.getElem_append_right (Nat.le_refl _)]
    refine ⟨g1, c1, g2, c2, hb1, hb2, ?_, ?_, ?_, by simpa using hr1, by simpa using hr2⟩
    · rw [List.getElem?_append_right (by omega), show 3 * L.length - xs.length = 0 from by omega]; simp
    · rw [List.getElem?_append_right (by omega), show 3 * L.length + 1 - xs.length = 1 from by omega]; simp
    · rw [List.getElem?_append_right (by omega), show 3 * L.length + 2 - xs.length = 2 from by omega]; simp

theorem diff_e3 (A B : Option Addr) (n m c d : Nat) (w : World) (h : n ≠ m) :
    Calls Tryd.prog 43 #[.slice A n c, .slice B m d] w fun e w' => e = .returned (.tuple #[.slice none 0 0, .iface 103 (.int .i64 3)]) ∧ w = w' := by
  have h' : ((n : Int) != (m : Int)) = true := by simp; omega
  clear h
  go_enter Tryd.func43, Tryd.ntmps43
  go_wp2
  go_ret2
  exact ⟨rfl, rfl⟩
theorem diff_e4 (A B : Option Addr) (n c d : Nat) (w : World) (h : 6400 < n) :
    Calls Tryd.prog 43 #[.slice A n c, .slice B n d] w fun e w' => e = .returned (.tuple #[.slice none 0 0, .iface 103 (.int .i64 4)]) ∧ w = w' := by
  go_enter Tryd.func43, Tryd.ntmps43
  go_wp2
  go_ret2
  exact ⟨rfl, rfl⟩

set_option maxRecDepth 100000 in
theorem diff_ok (A B : Option Addr) (n c d : Nat) (a b : Bytes) (w : World) (hn : a.length = n) (hm : b.length = n) (hle : n ≤ 6400) (hc : n ≤ c) (hd : n ≤ d) (ha : Rd w A a) (hb : Rd w B b) :
    Calls Tryd.prog 43 #[.slice A n c, .slice B n d] w fun e w' => ∃ v, e = .returned (.tuple #[v, .nilIface]) ∧ OwnC w' w.heap.size v (diffL a b) ∧ Below w.heap.size w w' := by
  subst hn
  obtain ⟨i0, hi0, hz0, hz1, hz2⟩ := info_parts change_info
  go_enter Tryd.func43, Tryd.ntmps43
  go_wp2_with fail
  go_loopw [6, 7] (fun v i wr => ∃ (k : Nat) (L : List Chg), k ≤ a.length + 1 ∧ i = .int .i64 k ∧ Below w.heap.size w wr ∧ OwnC wr w.heap.size v L ∧ L.length ≤ k ∧ Hidden (L ++ diffF a b (a.length - k) k = diffL a b)) (fun _ i _ => a.length + 1 - (intOf i).toNat)
  case atStart => exact ⟨0, [], by omega, rfl, Below.refl _ _, ⟨[], World.ownsRow_nil _ _ _ _, by simp⟩, by simp, ⟨by simp [diffL]⟩⟩
  case round =>
    obtain ⟨i, L, hi, rfl, hbel, hown, hLi, HL⟩ := hrel
    by_cases hlt : i < a.length
    · have hrl := runAt_le a b i hm.symm (by omega)
      have hstep := diffF_step a b i hlt
      obtain ⟨wo, rfl⟩ : ∃ wo : World, wo = wr := ⟨_, rfl⟩
      have ha1 := ha.below hbel
      have hb1 := hb.below hbel
      obtain ⟨p, off, rfl, _⟩ := ha1 i hlt
      obtain ⟨q, off2, rfl, _⟩ := hb1 i (by omega)
      have HS := Hidden.mk hstep
      have HI := Hidden.mk hi
      clear hstep
      go_wp2_with fail
      go_loopw [8] (fun kk w2 => (∃ nq, w2 = wo.drewN nq) ∧ ∃ k : Nat, i ≤ k ∧ k ≤ a.length ∧ kk = .int .i64 k ∧ Hidden (∀ j, i ≤ j → j < k → a[j]? ≠ b[j]?)) (fun kk _ => a.length - (intOf kk).toNat)
      case atStart => exact ⟨⟨0, rfl⟩, i, by omega, by omega, rfl, ⟨fun j h1 h2 => by omega⟩⟩
      case round =>
        obtain ⟨⟨nq, rfl⟩, k, hik, hk, rfl, hne⟩ := hrel
        by_cases hk2 : k < a.length
        · have hcp := ha1.at_ k hk2
          have hcq := hb1.at_ k (by omega)
          by_cases he : a[k] = b[k]
          · have hbq : ((a[k].toNat : Int) != (b[k].toNat : Int)) = false := by simp [he]
            have HR : Hidden (runAt a b i = k - i) := ⟨runAt_at a b i k hm.symm hik hk hne.out (.inr (by rw [List.getElem?_eq_getElem hk2, List.getElem?_eq_getElem (by omega), he]))⟩
            clear hne
            go_wp2_with fail
            go_quiet (fail)
            by_cases hki : i < k
            · obtain ⟨xs, hxs, hat⟩ := hown
              go_wp2_with fail
              refine diff_region _ p off q off2 a.length c d i k u6 L.length xs w.heap.size a b _ _ _ _ _ _ _ _ _ _ _ _ _ _ _ _ _ _ _ _ _ _ _ _ _ _ _ _ _ _ _ _ _ _ _ _ _ _ _ _ _ _ _ _ _ _ _ _ _ _ _ _ _ _ _ _ _ _ _ _ rfl hm ha1 hb1 hki hk hle (by omega) (by omega) (by omega) (by omega) hxs hbel.size (by omega) ?_
              intro v' w3 g1 c1 g2 c2 x46 x47 x48 x49 x50 x51 x52 x53 x54 x55 x56 x57 x58 x59 x60 hown3 hg1 hg2 hrow1 hrow2 hgrow
              have hrun := HR.out
              have hst := HS.out
              rw [hrun, if_pos (by omega), show i + (k - i) + 1 = k + 1 from by omega] at hst
              have HL2 : Hidden ((L ++ [⟨i, (a.drop i).take (k - i), (b.drop i).take (k - i)⟩]) ++ diffF a b (a.length - (k + 1)) (k + 1) = diffL a b) := ⟨by rw [List.append_assoc, ← hst]; exact HL.out⟩
              have hOC : OwnC w3 w.heap.size v' (L ++ [⟨i, (a.drop i).take (k - i), (b.drop i).take (k - i)⟩]) := OwnC.snoc (w := wo.drewN _) hxs hat hown3 hgrow hrow1 hrow2 (by simp; omega) (by simp; omega) (Nat.le_trans hbel.size hg1) (Nat.le_trans hbel.size hg2)
              have hB3 : Below w.heap.size w w3 := hbel.trans ((below_drewN (Below.refl _ _) _).grown hgrow hbel.size (fun q hq => (hxs.lt q hq).1))
              clear hrun hst HR HS HL hgrow hown3
              go_wp2_with fail
              go_roundw
              case rel => exact ⟨k + 1, _, by omega, by go_num, hB3, hOC, by simp; omega, HL2⟩
              case measure => simp [intOf]; omega
            · obtain rfl : k = i := by omega
              have hrun : runAt a b k = 0 := by have := HR.out; omega
              have hst := HS.out
              rw [hrun, if_neg (by omega), show k + 0 + 1 = k + 1 from by omega, List.nil_append] at hst
              have HL2 : Hidden (L ++ diffF a b (a.length - (k + 1)) (k + 1) = diffL a b) := ⟨by rw [← hst]; exact HL.out⟩
              have hOC : ∀ N, OwnC (wo.drewN N) w.heap.size u6 L := fun _ => hown
              clear hrun hst HR HS HL
              go_wp2_with fail
              go_roundw
              case rel => exact ⟨k + 1, L, by omega, by go_num, below_drewN hbel _, hOC _, by omega, HL2⟩
              case measure => simp [intOf]; omega
          · have hbq : ((a[k].toNat : Int) != (b[k].toNat : Int)) = true := by
              simp only [bne_iff_ne, ne_eq]; intro h; apply he; rw [← UInt8.toNat_inj]; omega
            have hnk : Hidden (∀ j, i ≤ j → j < k + 1 → a[j]? ≠ b[j]?) := ⟨fun j h1 h2 => by
              rcases Nat.lt_or_ge j k with h | h
              · exact hne.out j h1 h
              · obtain rfl : j = k := by omega
                rw [List.getElem?_eq_getElem hk2, List.getElem?_eq_getElem (by omega)]
                simpa using he⟩
            clear he hne
            go_wp2_with fail
            go_quiet (fail)
            go_wp2_with fail
            go_roundw
            case rel => exact ⟨⟨_, rfl⟩, k + 1, by omega, by omega, by go_num, hnk⟩
            case measure => simp [intOf]; omega
        · have hk2' : decide ((k : Int) < a.length) = false := by simp; omega
          have HR : Hidden (runAt a b i = k - i) := ⟨runAt_at a b i k hm.symm hik hk hne.out (.inl (by omega))⟩
          clear hne
          go_wp2_with fail
          go_quiet (fail)
          by_cases hki : i < k
          · obtain ⟨xs, hxs, hat⟩ := hown
            go_wp2_with fail
            refine diff_region _ p off q off2 a.length c d i k u6 L.length xs w.heap.size a b _ _ _ _ _ _ _ _ _ _ _ _ _ _ _ _ _ _ _ _ _ _ _ _ _ _ _ _ _ _ _ _ _ _ _ _ _ _ _ _ _ _ _ _ _ _ _ _ _ _ _ _ _ _ _ _ _ _ _ _ rfl hm ha1 hb1 hki hk hle (by omega) (by omega) (by omega) (by omega) hxs hbel.size (by omega) ?_
            intro v' w3 g1 c1 g2 c2 x46 x47 x48 x49 x50 x51 x52 x53 x54 x55 x56 x57 x58 x59 x60 hown3 hg1 hg2 hrow1 hrow2 hgrow
            have hrun := HR.out
            have hst := HS.out
            rw [hrun, if_pos (by omega), show i + (k - i) + 1 = k + 1 from by omega] at hst
            have HL2 : Hidden ((L ++ [⟨i, (a.drop i).take (k - i), (b.drop i).take (k - i)⟩]) ++ diffF a b (a.length - (k + 1)) (k + 1) = diffL a b) := ⟨by rw [List.append_assoc, ← hst]; exact HL.out⟩
            have hOC : OwnC w3 w.heap.size v' (L ++ [⟨i, (a.drop i).take (k - i), (b.drop i).take (k - i)⟩]) := OwnC.snoc (w := wo.drewN _) hxs hat hown3 hgrow hrow1 hrow2 (by simp; omega) (by simp; omega) (Nat.le_trans hbel.size hg1) (Nat.le_trans hbel.size hg2)
            have hB3 : Below w.heap.size w w3 := hbel.trans ((below_drewN (Below.refl _ _) _).grown hgrow hbel.size (fun q hq => (hxs.lt q hq).1))
            clear hrun hst HR HS HL hgrow hown3
            go_wp2_with fail
            go_roundw
            case rel => exact ⟨k + 1, _, by omega, by go_num, hB3, hOC, by simp; omega, HL2⟩
            case measure => simp [intOf]; omega
          · obtain rfl : k = i := by omega
            have hrun : runAt a b k = 0 := by have := HR.out; omega
            have hst := HS.out
            rw [hrun, if_neg (by omega), show k + 0 + 1 = k + 1 from by omega, List.nil_append] at hst
            have HL2 : Hidden (L ++ diffF a b (a.length - (k + 1)) (k + 1) = diffL a b) := ⟨by rw [← hst]; exact HL.out⟩
            have hOC : ∀ N, OwnC (wo.drewN N) w.heap.size u6 L := fun _ => hown
            clear hrun hst HR HS HL
            go_wp2_with fail
            go_roundw
            case rel => exact ⟨k + 1, L, by omega, by go_num, below_drewN hbel _, hOC _, by omega, HL2⟩
            case measure => simp [intOf]; omega
    · go_wp2_with fail
      go_ret2
      have hfin : Hidden (L = diffL a b) := ⟨by
        have := HL.out
        rw [show a.length - i = 0 from by omega] at this
        simpa [diffF] using this⟩
      exact ⟨_, rfl, by rw [← hfin.out]; exact hown, hbel⟩
end Go.Proofs.YtmhlnbbnanehiaaDoor
/- Plain facts on where changes lie. No program in sight. -/
namespace Go.Proofs.YtmhlnbbnanehiaaDoor

/-- what each change is -/
structure IsChg (a b : Bytes) (i : Nat) (c : Chg) (j r : Nat) : Prop where
  at_ : c.at_ = j
  lo : i ≤ j
  pos : 0 < r
  hi : j + r ≤ a.length
  old : c.old = (a.drop j).take r
  new : c.new = (b.drop j).take r
  ne : ∀ p, j ≤ p → p < j + r → a[p]? ≠ b[p]?
theorem diffF_mem (a b : Bytes) (hl : a.length = b.length) (f : Nat) : ∀ i, ∀ c ∈ diffF a b f i, ∃ j r, IsChg a b i c j r := by
  induction f with
  | zero => intro i c hc; simp [diffF] at hc
  | succ f ih =>
    intro i c hc
    simp only [diffF] at hc
    split at hc
    · rename_i hi
      rw [List.mem_append] at hc
      rcases hc with hc | hc
      · split at hc
        · rename_i hr
          rw [List.mem_singleton] at hc
          subst hc
          exact ⟨i, runAt a b i, rfl, Nat.le_refl _, hr, runAt_le a b i hl (by omega), rfl, rfl, fun p h1 h2 => runAt_ne a b i p h1 h2⟩
        · simp at hc
      · obtain ⟨j, r, h⟩ := ih _ c hc
        exact ⟨j, r, h.at_, by have := h.lo; omega, h.pos, h.hi, h.old, h.new, h.ne⟩
    · simp at hc
theorem diffL_mem (a b : Bytes) (hl : a.length = b.length) (c : Chg) (h : c ∈ diffL a b) : ∃ j r, IsChg a b 0 c j r := diffF_mem a b hl _ 0 c h
theorem IsChg.old_len {a b : Bytes} {i : Nat} {c : Chg} {j r : Nat} (h : IsChg a b i c j r) : c.old.length = r := by rw [h.old]; simp; have := h.hi; omega
theorem IsChg.new_len {a b : Bytes} {i : Nat} {c : Chg} {j r : Nat} (h : IsChg a b i c j r) (hl : a.length = b.length) : c.new.length = r := by rw [h.new]; simp; have := h.hi; omega
/-- where nothing differs from i on no change is told -/
theorem diffF_nil (a b : Bytes) (f : Nat) : ∀ i, a.length - i ≤ f → diffF a b f i = [] → ∀ p, i ≤ p → p < a.length → a.length = b.length → a[p]? = b[p]? := by
  induction f with
  | zero => intro i hf _ p hp hl _; omega
  | succ f ih =>
    intro i hf h p hp hpl hl
    simp only [diffF] at h
    rw [if_pos (by omega), List.append_eq_nil_iff] at h
    have h0 : runAt a b i = 0 := by
      rcases Nat.eq_zero_or_pos (runAt a b i) with h0 | h0
      · exact h0
      · have := h.1; rw [if_pos h0] at this; cases this
    rw [h0] at h
    rcases Nat.eq_or_lt_of_le hp with he | hlt
    · subst he
      have := runAt_stop a b i hl (by omega)
      rw [h0, Nat.add_zero] at this
      exact this
    · exact ih _ (by omega) h.2 p (by omega) hpl hl
theorem diffL_eq_nil (a b : Bytes) (hl : a.length = b.length) (h : diffL a b = []) : a = b := by
  apply List.ext_getElem? 
  intro p
  by_cases hp : p < a.length
  · exact diffF_nil a b _ 0 (by omega) h p (by omega) hp hl
  · rw [List.getElem?_eq_none (by omega), List.getElem?_eq_none (by omega)]
theorem diffL_self (a : Bytes) : diffL a a = [] := by
  cases h : diffL a a with
  | nil => rfl
  | cons c r =>
    obtain ⟨j, r', hc⟩ := diffL_mem a a rfl c (by rw [h]; simp)
    exact absurd rfl (hc.ne j (Nat.le_refl _) (by have := hc.pos; omega))
/-- what was put at a place changes no byte but there -/
theorem splice_same (l x : Bytes) (o p : Nat) (h : o + x.length ≤ l.length) (hp : p < o ∨ o + x.length ≤ p) : l[p]? = (splice l o x)[p]? := by
  unfold splice
  have hl : (l.take o).length = o := by simp; omega
  rcases hp with hp | hp
  · rw [List.getElem?_append_left (by omega), List.getElem?_take, if_pos hp]
  · rw [List.getElem?_append_right (by omega), hl, List.getElem?_append_right (by omega), List.getElem?_drop]
    congr 1; omega
theorem splice_get (l x : Bytes) (o q : Nat) (h : o + x.length ≤ l.length) (hq : q < x.length) : (splice l o x)[o + q]? = x[q]? := by
  unfold splice
  have hl : (l.take o).length = o := by simp; omega
  rw [List.getElem?_append_right (by omega), hl, List.getElem?_append_left (by omega)]
  congr 1; omega
theorem diff_splice (l x : Bytes) (o : Nat) (h : o + x.length ≤ l.length) (c : Chg) (hc : c ∈ diffL l (splice l o x)) : ∃ j r : Nat, c.at_ = j ∧ c.new.length = r ∧ o ≤ j ∧ j + r ≤ o + x.length := by
  have hl : l.length = (splice l o x).length := (length_splice l o x h).symm
  obtain ⟨j, r, hj⟩ := diffL_mem _ _ hl c hc
  refine ⟨j, r, hj.at_, hj.new_len hl, ?_, ?_⟩
  · rcases Nat.lt_or_ge j o with hlt | hge
    · exact absurd (splice_same l x o j h (.inl hlt)) (hj.ne j (Nat.le_refl _) (by have := hj.pos; omega))
    · exact hge
  · rcases Nat.lt_or_ge (o + x.length) (j + r) with hlt | hge
    · have := hj.pos
      exact absurd (splice_same l x o (j + r - 1) h (.inr (by omega))) (hj.ne (j + r - 1) (by omega) (by omega))
    · exact hge
end Go.Proofs.YtmhlnbbnanehiaaDoor
/- Reading what diff.Diff gave. -/
namespace Go.Proofs.YtmhlnbbnanehiaaDoor
open Go.RowKit

/-- the cells of one change of a slice that lies at A -/
structure ChCells (w : World) (g off i : Nat) (c : Chg) (go co gn cn : Nat) : Prop where
  at_ : w.cell? ⟨g, off + i * 3, none⟩ = some (.int .i64 c.at_)
  old : w.cell? ⟨g, off + i * 3 + 1, none⟩ = some (.slice (some ⟨go, 0, none⟩) c.old.length co)
  new : w.cell? ⟨g, off + i * 3 + 2, none⟩ = some (.slice (some ⟨gn, 0, none⟩) c.new.length cn)
  rowO : Row w 5 go co c.old
  rowN : Row w 5 gn cn c.new
/-- the slice at A has the changes L -/
def RdC (w : World) (A : Option Addr) (L : List Chg) : Prop := ∀ i (h : i < L.length), ∃ g off go co gn cn, A = some ⟨g, off, none⟩ ∧ ChCells w g off i L[i] go co gn cn
theorem OwnC.rd {w : World} {base : Nat} {v : Value} {L : List Chg} (h : OwnC w base v L) : ∃ A c, v = .slice A L.length c ∧ L.length ≤ c ∧ c ≤ maxLen ∧ RdC w A L := by
  obtain ⟨xs, hown, hat⟩ := h
  rcases hown.2 with ⟨rfl, h0⟩ | ⟨g, cap, cur, rfl, _, hh, hc, hm, hz, ht⟩
  · rw [h0]
    exact ⟨none, 0, rfl, by omega, by simp, fun i hi => by omega⟩
  · refine ⟨_, cap, rfl, hc, hm, fun i hi => ?_⟩
    obtain ⟨go, co, gn, cn, _, _, e0, e1, e2, r1, r2⟩ := hat i hi
    have hcell : ∀ j u, xs[j]? = some u → w.cell? ⟨g, 0 + j, none⟩ = some u := fun j u hu => by
      have := hown.cells (g := g) rfl j u hu
      rw [Addr.add_lit] at this
      exact this
    rw [Nat.mul_comm 3 i] at e0 e1 e2
    exact ⟨g, 0, go, co, gn, cn, rfl, hcell _ _ e0, (Nat.add_assoc 0 (i * 3) 1) ▸ hcell _ _ e1, (Nat.add_assoc 0 (i * 3) 2) ▸ hcell _ _ e2, r1, r2⟩
theorem ChCells.below {w w' : World} {g off i : Nat} {c : Chg} {go co gn cn : Nat} (h : ChCells w g off i c go co gn cn) (hb : Below w.heap.size w w') : ChCells w' g off i c go co gn cn :=
  ⟨(hb.cell (block_lt_of_cell h.at_)).trans h.at_, (hb.cell (block_lt_of_cell h.old)).trans h.old, (hb.cell (block_lt_of_cell h.new)).trans h.new, h.rowO.below hb h.rowO.lt, h.rowN.below hb h.rowN.lt⟩
theorem RdC.below {w w' : World} {A : Option Addr} {L : List Chg} (h : RdC w A L) (hb : Below w.heap.size w w') : RdC w' A L := fun i hi => by
  obtain ⟨g, off, go, co, gn, cn, hA, hc⟩ := h i hi
  exact ⟨g, off, go, co, gn, cn, hA, hc.below hb⟩
end Go.Proofs.YtmhlnbbnanehiaaDoor
/- Plain facts on applying changes, and turning them. No program in sight. -/
namespace Go.Proofs.YtmhlnbbnanehiaaDoor

/-- one change applied: a number of an error, or the bytes -/
def apply1 (b : Bytes) (c : Chg) : Except Int Bytes :=
  if c.at_ < 0 ∨ (b.length : Int) < c.at_ ∨ (b.length : Int) - c.at_ < c.old.length then .error 1
  else if c.old.length ≠ c.new.length then .error 3
  else if (b.drop c.at_.toNat).take c.old.length ≠ c.old then .error 6
  else .ok (splice b c.at_.toNat c.new)
/-- changes applied, one after the other -/
def applyL : Bytes → List Chg → Except Int Bytes
  | b, [] => .ok b
  | b, c :: L => match apply1 b c with
    | .error e => .error e
    | .ok b' => applyL b' L
/-- changes turned -/
def turnC (c : Chg) : Chg := ⟨c.at_, c.new, c.old⟩
def turnL (L : List Chg) : List Chg := L.reverse.map turnC

theorem apply1_len {b b' : Bytes} {c : Chg} (h : apply1 b c = .ok b') : b'.length = b.length := by
  unfold apply1 at h
  split at h
  · cases h
  · split at h
    · cases h
    · split at h
      · cases h
      · rename_i h1 h2 h3
        injection h with h
        subst h
        exact length_splice _ _ _ (by omega)
theorem apply1_ok (b old new : Bytes) (j : Nat) (hn : old.length = new.length) (hj : j + old.length ≤ b.length) (ho : (b.drop j).take old.length = old) : apply1 b ⟨j, old, new⟩ = .ok (splice b j new) := by
  unfold apply1
  simp only [Int.toNat_natCast]
  rw [if_neg (by omega), if_neg (by omega), if_neg (by simpa using ho)]
theorem applyL_append (b : Bytes) (L M : List Chg) : applyL b (L ++ M) = match applyL b L with
    | .error e => .error e
    | .ok b' => applyL b' M := by
  induction L generalizing b with
  | nil => rfl
  | cons c L ih =>
    simp only [List.cons_append, applyL]
    cases apply1 b c with
    | error e => rfl
    | ok b' => exact ih b'
theorem applyL_one (b : Bytes) (c : Chg) : applyL b [c] = apply1 b c := by
  simp only [applyL]
  cases apply1 b c <;> rfl
theorem turnL_append (L M : List Chg) : turnL (L ++ M) = turnL M ++ turnL L := by simp [turnL]
theorem turnL_length (L : List Chg) : (turnL L).length = L.length := by simp [turnL]
theorem take_drop_ext (x y : Bytes) (i r : Nat) (h : ∀ p, i ≤ p → p < i + r → x[p]? = y[p]?) : (x.drop i).take r = (y.drop i).take r := by
  apply List.ext_getElem?
  intro p
  rw [List.getElem?_take, List.getElem?_take]
  split
  · rw [List.getElem?_drop, List.getElem?_drop]; exact h _ (by omega) (by omega)
  · rfl
theorem splice_read (l x : Bytes) (o p : Nat) (h : o + x.length ≤ l.length) : (splice l o x)[p]? = if o ≤ p ∧ p < o + x.length then x[p - o]? else l[p]? := by
  split
  · rename_i hp
    have := splice_get l x o (p - o) h (by omega)
    rwa [show o + (p - o) = p from by omega] at this
  · rename_i hp
    exact (splice_same l x o p h (by omega)).symm
theorem cut_read (x : Bytes) (i r p : Nat) (h1 : i ≤ p) (h2 : p < i + r) : ((x.drop i).take r)[p - i]? = x[p]? := by
  rw [List.getElem?_take, if_pos (by omega), List.getElem?_drop]
  congr 1; omega
/-- what has changed makes of the old the new -/
theorem apply_diffF (a b : Bytes) (hl : a.length = b.length) (f : Nat) : ∀ i cur, a.length - i ≤ f → cur.length = a.length → (∀ p, cur[p]? = if p < i then b[p]? else a[p]?) → applyL cur (diffF a b f i) = .ok b := by
  have hend : ∀ i (cur : Bytes), a.length ≤ i → cur.length = a.length → (∀ p, cur[p]? = if p < i then b[p]? else a[p]?) → cur = b := by
    intro i cur hi hc hp
    apply List.ext_getElem?
    intro p
    rw [hp p]
    split
    · rfl
    · rw [List.getElem?_eq_none (by omega), List.getElem?_eq_none (by omega)]
  induction f with
  | zero =>
    intro i cur hf hc hp
    simp only [diffF, applyL]
    rw [hend i cur (by omega) hc hp]
  | succ f ih =>
    intro i cur hf hc hp
    simp only [diffF]
    by_cases hi : i < a.length
    · rw [if_pos hi]
      have hr := runAt_le a b i hl (by omega)
      have hstop : i + runAt a b i < a.length → a[i + runAt a b i]? = b[i + runAt a b i]? := runAt_stop a b i hl
      generalize runAt a b i = r at *
      by_cases h0 : 0 < r
      · rw [if_pos h0, applyL_append, applyL_one]
        have ho : ((a.drop i).take r).length = r := by simp; omega
        have hn : ((b.drop i).take r).length = r := by simp; omega
        have hm : (cur.drop i).take ((a.drop i).take r).length = (a.drop i).take r := by
          rw [ho]
          exact take_drop_ext _ _ _ _ fun p h1 h2 => by rw [hp p, if_neg (by omega)]
        rw [apply1_ok cur _ _ i (by omega) (by omega) hm]
        dsimp only
        refine ih _ _ (by omega) (by rw [length_splice _ _ _ (by omega), hc]) fun p => ?_
        rw [splice_read _ _ _ _ (by omega), hn]
        by_cases h1 : i ≤ p ∧ p < i + r
        · rw [if_pos h1, if_pos (by omega), cut_read _ _ _ _ h1.1 h1.2]
        · rw [if_neg h1, hp p]
          by_cases h2 : p < i
          · rw [if_pos h2, if_pos (by omega)]
          · rw [if_neg h2]
            by_cases h3 : p < i + r + 1
            · rw [if_pos h3]
              obtain rfl : p = i + r := by omega
              by_cases h4 : i + r < a.length
              · exact hstop h4
              · rw [List.getElem?_eq_none (by omega), List.getElem?_eq_none (by omega)]
            · rw [if_neg h3]
      · obtain rfl : r = 0 := by omega
        rw [if_neg h0, List.nil_append]
        refine ih _ _ (by omega) hc fun p => ?_
        rw [hp p]
        by_cases h2 : p < i
        · rw [if_pos h2, if_pos (by omega)]
        · rw [if_neg h2]
          by_cases h3 : p < i + 0 + 1
          · rw [if_pos h3]
            obtain rfl : p = i := by omega
            exact hstop (by omega)
          · rw [if_neg h3]
    · rw [if_neg hi]
      simp only [applyL]
      rw [hend i cur (by omega) hc hp]
theorem apply_diffL (a b : Bytes) (hl : a.length = b.length) : applyL a (diffL a b) = .ok b :=
  apply_diffF a b hl _ 0 a (by omega) rfl fun p => by rw [if_neg (by omega)]
/-- .. and turned, of the new the old -/
theorem apply_turnF (a b : Bytes) (hl : a.length = b.length) (f : Nat) : ∀ i cur, a.length - i ≤ f → cur.length = a.length → (∀ p, i ≤ p → cur[p]? = b[p]?) →
    ∃ c', applyL cur (turnL (diffF a b f i)) = .ok c' ∧ c'.length = a.length ∧ ∀ p, c'[p]? = if p < i then cur[p]? else a[p]? := by
  have hend : ∀ i (cur : Bytes), a.length ≤ i → cur.length = a.length → ∀ p, cur[p]? = if p < i then cur[p]? else a[p]? := by
    intro i cur hi hc p
    split
    · rfl
    · rw [List.getElem?_eq_none (by omega), List.getElem?_eq_none (by omega)]
  induction f with
  | zero =>
    intro i cur hf hc hp
    exact ⟨cur, rfl, hc, hend i cur (by omega) hc⟩
  | succ f ih =>
    intro i cur hf hc hp
    simp only [diffF]
    by_cases hi : i < a.length
    · rw [if_pos hi]
      have hr := runAt_le a b i hl (by omega)
      have hstop : i + runAt a b i < a.length → a[i + runAt a b i]? = b[i + runAt a b i]? := runAt_stop a b i hl
      generalize runAt a b i = r at *
      obtain ⟨c1, h1, hl1, hp1⟩ := ih (i + r + 1) cur (by omega) hc (fun p h => hp p (by omega))
      rw [turnL_append, applyL_append, h1]
      dsimp only
      by_cases h0 : 0 < r
      · rw [if_pos h0]
        have ho : ((a.drop i).take r).length = r := by simp; omega
        have hn : ((b.drop i).take r).length = r := by simp; omega
        have hm : (c1.drop i).take ((b.drop i).take r).length = (b.drop i).take r := by
          rw [hn]
          exact take_drop_ext _ _ _ _ fun p h1 h2 => by rw [hp1 p, if_pos (by omega), hp p (by omega)]
        refine ⟨splice c1 i ((a.drop i).take r), ?_, by rw [length_splice _ _ _ (by omega), hl1], fun p => ?_⟩
        · simp only [turnL, List.reverse_cons, List.reverse_nil, List.nil_append, List.map_cons, List.map_nil, turnC]
          rw [applyL_one]
          exact apply1_ok c1 _ _ i (by omega) (by omega) hm
        · rw [splice_read _ _ _ _ (by omega), ho]
          by_cases h2 : i ≤ p ∧ p < i + r
          · rw [if_pos h2, if_neg (by omega), cut_read _ _ _ _ h2.1 h2.2]
          · rw [if_neg h2, hp1 p]
            by_cases h3 : p < i
            · rw [if_pos (by omega), if_pos h3]
            · rw [if_neg h3]
              by_cases h4 : p < i + r + 1
              · rw [if_pos h4, hp p (by omega)]
                obtain rfl : p = i + r := by omega
                by_cases h5 : i + r < a.length
                · exact (hstop h5).symm
                · rw [List.getElem?_eq_none (by omega), List.getElem?_eq_none (by omega)]
              · rw [if_neg h4]
      · obtain rfl : r = 0 := by omega
        rw [if_neg h0]
        refine ⟨c1, rfl, hl1, fun p => ?_⟩
        rw [hp1 p]
        by_cases h3 : p < i
        · rw [if_pos (by omega), if_pos h3]
        · rw [if_neg h3]
          by_cases h4 : p < i + 0 + 1
          · rw [if_pos h4, hp p (by omega)]
            obtain rfl : p = i := by omega
            exact (hstop (by omega)).symm
          · rw [if_neg h4]
    · rw [if_neg hi]
      exact ⟨cur, rfl, hc, hend i cur (by omega) hc⟩
theorem apply_turnL (a b : Bytes) (hl : a.length = b.length) : applyL b (turnL (diffL a b)) = .ok a := by
  obtain ⟨c, h, hc, hp⟩ := apply_turnF a b hl a.length 0 b (by omega) hl.symm (fun _ _ => rfl)
  have : c = a := List.ext_getElem? fun p => by rw [hp p, if_neg (by omega)]
  rw [this] at h; exact h
/-- where a change begins, and that two do not touch -/
theorem diffF_apart (a b : Bytes) (hl : a.length = b.length) (f : Nat) : ∀ i, ∀ k c d, (diffF a b f i)[k]? = some c → (diffF a b f i)[k + 1]? = some d → c.at_ + (c.old.length : Int) < d.at_ := by
  induction f with
  | zero => intro i k c d h; simp [diffF] at h
  | succ f ih =>
    intro i k c d h1 h2
    simp only [diffF] at h1 h2
    split at h1
    · rename_i hi
      rw [if_pos hi] at h2
      split at h1
      · rename_i h0
        rw [if_pos h0] at h2
        cases k with
        | zero =>
          simp only [List.singleton_append, List.getElem?_cons_zero, Option.some.injEq, List.getElem?_cons_succ] at h1 h2
          obtain ⟨j, r, hj⟩ := diffF_mem a b hl f _ d (List.mem_of_getElem? h2)
          have hle := runAt_le a b i hl (by omega)
          have ho : ((a.drop i).take (runAt a b i)).length = runAt a b i := by simp; omega
          subst h1
          rw [hj.at_]
          have := hj.lo
          dsimp only
          rw [ho]
          omega
        | succ k =>
          simp only [List.singleton_append, List.getElem?_cons_succ] at h1 h2
          exact ih _ k c d h1 h2
      · rename_i h0
        rw [if_neg h0] at h2
        exact ih _ k c d h1 h2
    · simp at h1
end Go.Proofs.YtmhlnbbnanehiaaDoor
/- The contract of diff.Apply. -/
namespace Go.Proofs.YtmhlnbbnanehiaaDoor
open Go.RowKit

/-- the cells of one change, wherever its bytes lie -/
structure ChAny (w : World) (g off i : Nat) (c : Chg) (Ao An : Option Addr) (co cn : Nat) : Prop where
  at_ : w.cell? ⟨g, off + i * 3, none⟩ = some (.int .i64 c.at_)
  old : w.cell? ⟨g, off + i * 3 + 1, none⟩ = some (.slice Ao c.old.length co)
  new : w.cell? ⟨g, off + i * 3 + 2, none⟩ = some (.slice An c.new.length cn)
  rdO : Rd w Ao c.old
  rdN : Rd w An c.new
  leO : c.old.length ≤ co
  leN : c.new.length ≤ cn
/-- the slice at A has the changes L, wherever their bytes lie -/
def RdG (w : World) (A : Option Addr) (L : List Chg) : Prop := ∀ i (h : i < L.length), ∃ g off Ao An co cn, A = some ⟨g, off, none⟩ ∧ ChAny w g off i L[i] Ao An co cn
theorem RdC.rdg {w : World} {A : Option Addr} {L : List Chg} (h : RdC w A L) : RdG w A L := fun i hi => by
  obtain ⟨g, off, go, co, gn, cn, hA, hc⟩ := h i hi
  exact ⟨g, off, _, _, co, cn, hA, hc.at_, hc.old, hc.new, hc.rowO.rd, hc.rowN.rd, hc.rowO.le.1, hc.rowN.le.1⟩
theorem ChAny.below {w w' : World} {g off i : Nat} {c : Chg} {Ao An : Option Addr} {co cn : Nat} (h : ChAny w g off i c Ao An co cn) (hb : Below w.heap.size w w') : ChAny w' g off i c Ao An co cn :=
  ⟨(hb.cell (block_lt_of_cell h.at_)).trans h.at_, (hb.cell (block_lt_of_cell h.old)).trans h.old, (hb.cell (block_lt_of_cell h.new)).trans h.new, h.rdO.below hb, h.rdN.below hb, h.leO, h.leN⟩
theorem RdG.below {w w' : World} {A : Option Addr} {L : List Chg} (h : RdG w A L) (hb : Below w.heap.size w w') : RdG w' A L := fun i hi => by
  obtain ⟨g, off, Ao, An, co, cn, hA, hc⟩ := h i hi
  exact ⟨g, off, Ao, An, co, cn, hA, hc.below hb⟩

/-- b[i:k] of bytes, wherever i stands -/
theorem run_cut_any (A : Option Addr) (n c i k : Nat) (hik : i ≤ k) (hkc : k ≤ c) (W : World) :
    (Instr.sliceAt 22 (.slice A n c) (some (.int .i64 i)) (some (.int .i64 k)) none).run Tryd.prog W = .ok (.slice (if c = i then A else A.map (·.add i)) (k - i) (c - i)) W := by
  obtain ⟨i0, hi0, hz0, hz1, hz2⟩ := info_parts byte_info
  simp [Instr.sliceAt, Instr.slice, Instr.sliceBounds, Instr.sliceBound, run_underlying Tryd.underlying22, asIntOf, sizeOf, typeInfo, hi0, hz1, hik, hkc]
/-- b[i:] of bytes -/
theorem run_tail_any (A : Option Addr) (n c i : Nat) (hin : i ≤ n) (W : World) :
    (Instr.sliceAt 22 (.slice A n c) (some (.int .i64 i)) none none).run Tryd.prog W = .ok (.slice (if c = i then A else A.map (·.add i)) (n - i) (c - i)) W := by
  obtain ⟨i0, hi0, hz0, hz1, hz2⟩ := info_parts byte_info
  simp [Instr.sliceAt, Instr.slice, Instr.sliceBounds, Instr.sliceBound, run_underlying Tryd.underlying22, asIntOf, sizeOf, typeInfo, hi0, hz1, hin]

theorem apply_e4 (A B : Option Addr) (n m c d : Nat) (w : World) (h : 200 < m) :
    Calls Tryd.prog 46 #[.slice A n c, .slice B m d] w fun e w' => e = .returned (.tuple #[.slice none 0 0, .iface 103 (.int .i64 4)]) ∧ w = w' := by
  go_enter Tryd.func46, Tryd.ntmps46
  go_wp2
  go_ret2
  exact ⟨rfl, rfl⟩

set_option maxRecDepth 100000 in
theorem apply_some (ad : Addr) (n c : Nat) (b : Bytes) (LA : Option Addr) (m d : Nat) (L : List Chg) (w : World) (hn : b.length = n) (hnl : n ≤ 140737488351232) (hb : Rd w (some ad) b) (hm : L.length = m) (hm2 : m ≤ 200) (hmd : m ≤ d) (hL : RdG w LA L) :
    Calls Tryd.prog 46 #[.slice (some ad) n c, .slice LA m d] w fun e w' => Below w.heap.size w w' ∧ ((∃ x, applyL b L = .error x ∧ e = .returned (.tuple #[.slice none 0 0, .iface 103 (.int .i64 x)])) ∨
      ∃ b' g cap, applyL b L = .ok b' ∧ e = .returned (.tuple #[.slice (some ⟨g, 0, none⟩) n cap, .nilIface]) ∧ w.heap.size ≤ g ∧ b'.length = n ∧ Row w' 5 g cap b') := by
  subst hn hm
  go_enter Tryd.func46, Tryd.ntmps46
  go_wp2_with fail
  refine (clone_some ad b.length c b _ rfl hnl hb).mono ?_
  rintro e w1 ⟨g, cap, rfl, hg, hrow1, hb1⟩
  have hcap := hrow1.le.1
  go_wp2_with fail
  go_loopw [17] (fun kv wr => ∃ (k : Nat) (cur : Bytes), kv = .int .i64 k ∧ k ≤ L.length ∧ cur.length = b.length ∧ Below w.heap.size w wr ∧ Row wr 5 g cap cur ∧ Hidden (applyL cur (L.drop k) = applyL b L)) (fun kv _ => L.length - (intOf kv).toNat)
  case atStart => exact ⟨0, b, rfl, Nat.zero_le _, rfl, hb1, hrow1, ⟨by simp⟩⟩
  case round =>
    obtain ⟨k, cur, rfl, hk, hcl, hbel, hrow, HL⟩ := hrel
    by_cases hlt : k < L.length
    · have HD : Hidden (applyL b L = match apply1 cur L[k] with | .error e => .error e | .ok b' => applyL b' (L.drop (k + 1))) := ⟨by
        rw [← HL.out, List.drop_eq_getElem_cons hlt]; rfl⟩
      clear HL
      obtain ⟨gl, off, Ao, An, co, cn, rfl, hc⟩ := (hL.below hbel) k hlt
      have k0 : (0 : Int) ≤ k := by omega
      have k1 : (k : Int) < L.length := by omega
      obtain ⟨a1, a2, a3, rO, rN, lO, lN⟩ := hc
      generalize L[k] = ch at *
      obtain ⟨at_, old, new⟩ := ch
      dsimp only at a1 a2 a3 rO rN lO lN HD
      generalize ho : old.length = no at *
      generalize hnw : new.length = nn at *
      have hgl : g < wr.heap.size := hrow.lt
      by_cases h1 : at_ < 0
      · have HE : Hidden (applyL b L = .error 1) := ⟨by rw [HD.out]; simp [apply1, h1]⟩
        clear HD
        go_wp2_with fail
        go_ret2
        exact ⟨hbel.alloc hbel.size _, .inl ⟨1, HE.out, rfl⟩⟩
      · obtain ⟨j, rfl⟩ := Int.eq_ofNat_of_zero_le (show 0 ≤ at_ by omega)
        by_cases h2 : b.length < j
        · have HE : Hidden (applyL b L = .error 1) := ⟨by rw [HD.out]; unfold apply1; rw [if_pos (by dsimp only; omega)]⟩
          clear HD
          go_wp2_with fail
          go_ret2
          exact ⟨hbel.alloc hbel.size _, .inl ⟨1, HE.out, rfl⟩⟩
        · have s1 : IntKind.i64.wrap ((b.length : Int) - j) = (b.length : Int) - j := IntWalk.i64_in _ (by omega)
          by_cases h3 : b.length - j < no
          · have HE : Hidden (applyL b L = .error 1) := ⟨by rw [HD.out]; unfold apply1; rw [if_pos (by dsimp only; omega)]⟩
            clear HD
            go_wp2_with fail
            go_ret2
            exact ⟨hbel.alloc hbel.size _, .inl ⟨1, HE.out, rfl⟩⟩
          · by_cases h4 : no = nn
            · subst h4
              have t1 : decide ((b.length : Int) < j) = false := by simp; omega
              have t2 : decide ((b.length : Int) - j < no) = false := by simp; omega
              have s2 : IntKind.i64.wrap ((j : Int) + no) = (j : Int) + no := IntWalk.i64_in _ (by omega)
              have hcl2 : ((cur.drop j).take no).length = no := by simp; omega
              obtain ⟨A', hA'⟩ : ∃ A' : Option Addr, A' = (if cap = j then some ⟨g, 0, none⟩ else (some (⟨g, 0, none⟩ : Addr)).map (·.add j)) := ⟨_, rfl⟩
              have hcut := run_cut_any (some ⟨g, 0, none⟩) b.length cap j (j + no) (by omega) (by omega)
              have htl := run_tail_any (some ⟨g, 0, none⟩) b.length cap j (by omega)
              rw [Nat.add_sub_cancel_left, Int.natCast_add, ← hA'] at hcut
              rw [← hA'] at htl
              have hBX : Below wr.heap.size wr (wr.alloc (.cells #[.int .i64 j, .slice Ao no co, .slice An no cn] 135)) := (Below.refl _ _).alloc (Nat.le_refl _) _
              have hrdc : Rd wr A' ((cur.drop j).take no) := by
                have := hrow.rd.cutIf j no cap (by omega) (by omega)
                rw [hA']; exact this
              have hrx := hrdc.below hBX
              have rOx := rO.below hBX
              have rNx := rN.below hBX
              have hrowx := hrow.below hBX hgl
              have hbx : Below w.heap.size w (wr.alloc (.cells #[.int .i64 j, .slice Ao no co, .slice An no cn] 135)) := hbel.alloc hbel.size _
              have hc0 : (wr.alloc (.cells #[.int .i64 j, .slice Ao no co, .slice An no cn] 135)).cell? ⟨wr.heap.size, 0, none⟩ = some (.int .i64 j) := by simp
              have hc1 : (wr.alloc (.cells #[.int .i64 j, .slice Ao no co, .slice An no cn] 135)).cell? ⟨wr.heap.size, 1, none⟩ = some (.slice Ao no co) := by simp
              have hc2 : (wr.alloc (.cells #[.int .i64 j, .slice Ao no co, .slice An no cn] 135)).cell? ⟨wr.heap.size, 2, none⟩ = some (.slice An no cn) := by simp
              have HA' := Hidden.mk hA'
              clear hA' hrdc hBX
              go_wp2_with fail
              generalize wr.alloc (.cells #[.int .i64 j, .slice Ao no co, .slice An no cn] 135) = w2 at *
              obtain ⟨q, hq⟩ : ∃ q : Bool, ((cur.drop j).take no == old) = q := ⟨_, rfl⟩
              have HQ := Hidden.mk hq
              clear hq
              go_quiet ((go_at_call 82; refine Calls.quiet_of_same (v := .bool q) ((equal_any A' Ao no no _ _ ((cur.drop j).take no) old _ hcl2 ho (hrx.drewN _) (rOx.drewN _)).mono ?_); rintro e w' ⟨rfl, rfl⟩; exact ⟨by rw [HQ.out], rfl⟩))
              cases q with
              | true =>
                have h5 : (cur.drop j).take no = old := by simpa using HQ.out
                have HE : Hidden (applyL b L = applyL (splice cur j new) (L.drop (k + 1))) := ⟨by
                  rw [HD.out]; unfold apply1
                  rw [if_neg (by dsimp only; omega), if_neg (by dsimp only; omega), if_neg (by dsimp only; rw [ho, Int.toNat_natCast]; simpa using h5)]
                  simp⟩
                clear HD h5 HQ
                go_wp2_with fail
                have hrow3 : Row (w2.drewN nq) 5 g cap cur := hrowx
                have rN3 : Rd (w2.drewN nq) An new := rNx
                have hd0 : (w2.drewN nq).cell? ⟨wr.heap.size, 0, none⟩ = some (.int .i64 j) := hc0
                have hd2 : (w2.drewN nq).cell? ⟨wr.heap.size, 2, none⟩ = some (.slice An no cn) := hc2
                have hb3 : Below w.heap.size w (w2.drewN nq) := below_drewN hbx nq
                clear hc0 hc1 hc2 hbx hrowx rNx rOx hrx
                generalize w2.drewN nq = w3 at *
                obtain ⟨cur0, hcur, _, _, hcs, _⟩ := id hrow3
                have hrow4 := hrow3.set_ j new (by omega) cur0 hcur
                have hB4 : Below w.heap.size w (w3.setRow g (setB cur0 j (new.map bv))) := below_setRow hb3 hg _
                have hcopy : ∀ ty, (Builtin.copy_ #[22, 22] ty #[.slice A' (b.length - j) (cap - j), .slice An no cn]).run Tryd.prog w3.drew = .ok (.int .i64 (no : Int)) ((w3.setRow g (setB cur0 j (new.map bv))).drew) := fun ty => by
                  have hmin : no = Nat.min no (b.length - j) := (Nat.min_eq_left (by omega)).symm
                  by_cases hcj : cap = j
                  · have h0 : no = 0 := by omega
                    rw [HA'.out, if_pos hcj]
                    have := run_copy_rd w3.drew g 0 (b.length - j) (cap - j) no cn no An new cur0 5 hcur hnw rN3 hmin (by omega) ty
                    rw [List.take_of_length_le (by omega)] at this
                    have hnil : new = [] := List.eq_nil_of_length_eq_zero (by omega)
                    rw [hnil] at this ⊢
                    simp only [List.map_nil, setB_nil] at this ⊢
                    exact this
                  · rw [HA'.out, if_neg hcj]
                    have := run_copy_rd w3.drew g j (b.length - j) (cap - j) no cn no An new cur0 5 hcur hnw rN3 hmin (by omega) ty
                    rw [List.take_of_length_le (by omega)] at this
                    simp only [Option.map_some, Addr.add_lit, Nat.zero_add]
                    exact this
                have hsl : (splice cur j new).length = b.length := by rw [splice_len _ _ _ (by omega), hcl]
                generalize w3.setRow g (setB cur0 j (new.map bv)) = w4 at *
                clear hcur hcs hrow3
                go_region
                go_wp2_with fail
                go_roundw
                case rel => exact ⟨k + 1, _, by go_num, by omega, hsl, hB4.drew, hrow4, ⟨HE.out.symm⟩⟩
                case measure => simp [intOf]; omega
              | false =>
                have h5 : ¬ (cur.drop j).take no = old := by simpa using HQ.out
                have HE : Hidden (applyL b L = .error 6) := ⟨by
                  rw [HD.out]; unfold apply1
                  rw [if_neg (by dsimp only; omega), if_neg (by dsimp only; omega), if_pos (by dsimp only; rw [ho, Int.toNat_natCast]; exact h5)]⟩
                clear HD h5 HQ
                go_wp2_with fail
                go_ret2
                exact ⟨below_drewN hbx _, .inl ⟨6, HE.out, rfl⟩⟩
            · have HE : Hidden (applyL b L = .error 3) := ⟨by rw [HD.out]; unfold apply1; rw [if_neg (by dsimp only; omega), if_pos (by dsimp only; omega)]⟩
              have t3 : ((no : Int) != (nn : Int)) = true := by simp; omega
              clear HD
              go_wp2_with fail
              go_ret2
              exact ⟨hbel.alloc hbel.size _, .inl ⟨3, HE.out, rfl⟩⟩
    · go_wp2_with fail
      go_ret2
      have hfin := HL.out
      rw [show L.drop k = [] from by simp; omega] at hfin
      exact ⟨hbel, .inr ⟨cur, g, cap, hfin.symm, rfl, hg, hcl, hrow⟩⟩
end Go.Proofs.YtmhlnbbnanehiaaDoor
/- The contract of diff.Pages. -/
namespace Go.Proofs.YtmhlnbbnanehiaaDoor
open Go.RowKit Go.Maps Go.ChangeMaps

/-- a set of numbers, as a map has it -/
def setF (S : Nat → Bool) (q : Nat) : Option Value := if S q = true then some (.bool true) else none
theorem setF_upd (S : Nat → Bool) (k : Nat) : upd (setF S) k (.bool true) = setF (fun q => S q || (k == q)) := by
  funext x
  unfold upd setF
  by_cases hx : x = k
  · subst hx; simp
  · rw [if_neg hx]
    have : (k == x) = false := by simpa using fun e => hx e.symm
    simp [this]
theorem IM.size_le {P : Program} {K : TypeId} {w : World} {b cnt : Nat} {f : Nat → Option Value} (h : IM P K natL w b f cnt) (hK : P.underlying K = some (.int .i64)) (n : Nat) (hn : ∀ k, (f k).isSome = true → k < n) : cnt ≤ n := by
  obtain ⟨D, hown, hs, hnd, h1, _⟩ := h.keys hK
  have hl : (intKeys D).length = cnt := by
    obtain ⟨L, hD, _⟩ := hown.entries (Go.Maps.int_keyed hK)
    subst hD
    rw [← hs]; simp [intKeys, Maps.size]
  have hm : ((intKeys D).map Int.toNat).Nodup := by
    refine List.pairwise_map.2 (hnd.imp_of_mem fun {a b} ha hb hne e => hne ?_)
    obtain ⟨x, rfl, _⟩ := h1 a ha
    obtain ⟨y, rfl, _⟩ := h1 b hb
    simp only [Int.toNat_natCast] at e
    rw [e]
  have := nodup_le n ((intKeys D).map Int.toNat) hm (fun x hx => by
    obtain ⟨y, hy, rfl⟩ := List.mem_map.1 hx
    obtain ⟨z, rfl, hz⟩ := h1 y hy
    exact hn z hz)
  rw [List.length_map, hl] at this
  exact this
/-- the pages that a change touches, of its first j bytes; that changes touch -/
def tchC (a : Nat) (j q : Nat) : Bool := (List.range j).any fun i => (a + i) / 32 == q
theorem tchC_succ (a j q : Nat) : tchC a (j + 1) q = (tchC a j q || ((a + j) / 32 == q)) := by
  unfold tchC
  rw [List.range_succ, List.any_append]; simp
def tchL (L : List Chg) (q : Nat) : Bool := L.any fun c => tchC c.at_.toNat c.new.length q
theorem tchL_succ (L : List Chg) (k q : Nat) (hk : k < L.length) : tchL (L.take (k + 1)) q = (tchL (L.take k) q || tchC L[k].at_.toNat L[k].new.length q) := by
  unfold tchL
  rw [List.take_succ_eq_append_getElem hk, List.any_append]; simp
/-- a change that lies within an image -/
def InC (c : Chg) : Prop := 0 ≤ c.at_ ∧ c.at_ < 6400 ∧ c.at_ + c.new.length ≤ 6400
theorem tchC_lt {a j q : Nat} (h : tchC a j q = true) (hj : a + j ≤ 6400) : q < 200 := by
  obtain ⟨i, hi, e⟩ := List.any_eq_true.1 h
  have := List.mem_range.1 hi
  have := beq_iff_eq.1 e
  omega
theorem tchL_lt {L : List Chg} (hL : ∀ c ∈ L, InC c) {q : Nat} (h : tchL L q = true) : q < 200 := by
  obtain ⟨c, hc, e⟩ := List.any_eq_true.1 h
  obtain ⟨a, b, d⟩ := hL c hc
  exact tchC_lt e (by omega)
structure DpSt (w wr : World) (mb : Nat) (S : Nat → Bool) : Prop where
  im : ∃ cnt, IM Tryd.prog 3 natL wr mb (setF S) cnt ∧ cnt ≤ 200
  bel : Below w.heap.size w wr
  new : w.heap.size ≤ mb
/-- what diff.Pages says -/
def DpAns (w : World) (L : List Chg) (e : Ending) (w' : World) : Prop := ∃ (v : Value) (S : List Nat), e = .returned (.tuple #[v, .nilIface]) ∧ S.Pairwise (· < ·) ∧ (∀ k, k ∈ S ↔ tchL L k = true) ∧ w'.ownsRow w.heap.size 3 1 v S.length (S.map fun i : Nat => .int .i64 (i : Int)) ∧ Below w.heap.size w w'
theorem dpAns_mk {w w' : World} {L : List Chg} {e : Ending} {v : Value} {S : List Nat} (h : e = .returned (.tuple #[v, .nilIface])) (hh : S.Pairwise (· < ·) ∧ (∀ k, k ∈ S ↔ tchL L k = true) ∧ w'.ownsRow w.heap.size 3 1 v S.length (S.map fun i : Nat => .int .i64 (i : Int)) ∧ Below w.heap.size w w') : DpAns w L e w' := ⟨v, S, h, hh⟩
theorem own_base' {w : World} {b b' : Nat} {e : TypeId} {size n : Nat} {v : Value} {xs : List Value} (h : w.ownsRow b e size v n xs) (hb : b' ≤ b) : w.ownsRow b' e size v n xs := by
  refine ⟨h.1, ?_⟩
  rcases h.2 with h1 | ⟨g, cap, cur, a1, a2, a3⟩
  · exact .inl h1
  · exact .inr ⟨g, cap, cur, a1, Nat.le_trans hb a2, a3⟩
set_option maxRecDepth 100000 in
theorem dpages_ok (A : Option Addr) (m c : Nat) (L : List Chg) (w : World) (hm : L.length = m) (hr : RdG w A L) (hin : ∀ c ∈ L, InC c) (hml : m ≤ 281474976710656) :
    Calls Tryd.prog 48 #[.slice A m c] w (DpAns w L) := by
  have HM := Hidden.mk hm
  have HR := Hidden.mk hr
  have HI := Hidden.mk hin
  have hmm := @run_makeMap Tryd.prog
  have HST : Hidden (DpSt w (w.alloc (.map #[] 0)) w.heap.size (tchL (L.take 0))) := ⟨⟨⟨0, IM.made w, by omega⟩, (Below.refl _ _).alloc (Nat.le_refl _) _, Nat.le_refl _⟩⟩
  clear hm hr hin
  go_enter Tryd.func48, Tryd.ntmps48
  go_wp2_with fail
  clear hmm
  go_loopg [11] m (fun r i wr => ∃ k : Nat, k ≤ m ∧ r = m - k ∧ i = .int .i64 (k : Int) ∧ Hidden (DpSt w wr w.heap.size (tchL (L.take k))))
  case atStart => exact ⟨0, by omega, rfl, rfl, HST⟩
  case round =>
    obtain ⟨k, hk, rfl, rfl, hst⟩ := hrel
    by_cases hlt : k < m
    · have i0 : (0 : Int) ≤ k := by omega
      have i1 : (k : Int) < m := by omega
      have hkl : k < L.length := by rw [HM.out]; exact hlt
      have s0 : IntKind.i64.wrap ((k : Int) + 1) = (k : Int) + 1 := IntWalk.i64_in _ (by omega)
      obtain ⟨g, off, Ao, An, co, cn, rfl, hch⟩ := (HR.out.below hst.out.bel) k hkl
      obtain ⟨x0, x1, x2⟩ := hch
      have HS := Hidden.mk (fun q => tchL_succ L k q hkl)
      have hic := HI.out L[k] (List.getElem_mem hkl)
      have HTL : Hidden (∀ q, tchL (L.take k) q = true → q < 200) := ⟨fun q h => tchL_lt (fun c hc => HI.out c (List.mem_of_mem_take hc)) h⟩
      generalize L[k] = ch at *
      obtain ⟨at_, old, new⟩ := ch
      dsimp only at *
      obtain ⟨a, rfl⟩ := Int.eq_ofNat_of_zero_le hic.1
      have ha : a < 6400 := by have := hic.2.1; dsimp only at this; omega
      have han : a + new.length ≤ 6400 := by have := hic.2.2; dsimp only at this; omega
      rw [Int.toNat_natCast] at HS
      generalize new.length = nl at *
      generalize old.length = ol at *
      have d1 : decide ((a : Int) < 0) = false := by simp
      have d2 : decide (6400 ≤ (a : Int)) = false := by simp; omega
      have s1 : IntKind.i64.wrap (6400 - (a : Int)) = 6400 - (a : Int) := IntWalk.i64_in _ (by omega)
      have d3 : decide (6400 - (a : Int) < (nl : Int)) = false := by simp; omega
      have hbx := heap_alloc_new wr (.cells #[.int .i64 (a : Int), .slice Ao ol co, .slice An nl cn] 135)
      have b0 : (wr.alloc (.cells #[.int .i64 (a : Int), .slice Ao ol co, .slice An nl cn] 135)).cell? ⟨wr.heap.size, 0, none⟩ = some (.int .i64 (a : Int)) := by simp only [World.cell?]; rw [hbx]; rfl
      have b2 : (wr.alloc (.cells #[.int .i64 (a : Int), .slice Ao ol co, .slice An nl cn] 135)).cell? ⟨wr.heap.size, 2, none⟩ = some (.slice An nl cn) := by simp only [World.cell?]; rw [hbx]; rfl
      have HB2 := Hidden.mk (hst.out.bel.alloc hst.out.bel.size (.cells #[.int .i64 (a : Int), .slice Ao ol co, .slice An nl cn] 135))
      obtain ⟨cnt, him, hc200⟩ := hst.out.im
      have hne : wr.heap.size ≠ w.heap.size := by have := him.lt; omega
      have HNE := Hidden.mk hne
      have HIM2 := Hidden.mk (him.block (Below.heap_alloc wr (.cells #[.int .i64 (a : Int), .slice Ao ol co, .slice An nl cn] 135) w.heap.size him.lt))
      have HB0 := Hidden.mk b0
      clear hst him hic hbx hne HST
      go_wp2_with fail
      generalize hW2 : wr.alloc (.cells #[.int .i64 (a : Int), .slice Ao ol co, .slice An nl cn] 135) = W2 at *
      clear hW2 b0 b2 x0 x1 x2
      generalize wr.heap.size = bx at *
      have HS2 : Hidden (DpSt w W2 w.heap.size (fun q => tchL (L.take k) q || tchC a 0 q) ∧ W2.cell? ⟨bx, 0, none⟩ = some (.int .i64 (a : Int))) := ⟨⟨⟨⟨cnt, by simpa [tchC] using HIM2.out, hc200⟩, HB2.out, Nat.le_refl _⟩, HB0.out⟩⟩
      clear HIM2 HB2 HB0 hc200
      go_loopg [36] nl (fun r i wx => ∃ j : Nat, j ≤ nl ∧ r = nl - j ∧ i = .int .i64 (j : Int) ∧ Hidden (DpSt w wx w.heap.size (fun q => tchL (L.take k) q || tchC a j q) ∧ wx.cell? ⟨bx, 0, none⟩ = some (.int .i64 (a : Int))))
      case atStart => exact ⟨0, by omega, rfl, rfl, HS2⟩
      case round =>
        obtain ⟨j, hj, rfl, rfl, hs⟩ := hrel
        by_cases hlt2 : j < nl
        · have j0 : (0 : Int) ≤ j := by omega
          have j1 : (j : Int) < nl := by omega
          have s2 : IntKind.i64.wrap ((j : Int) + 1) = (j : Int) + 1 := IntWalk.i64_in _ (by omega)
          have s3 : IntKind.i64.wrap ((a : Int) + j) = (a : Int) + j := IntWalk.i64_in _ (by omega)
          have s4 : ((a : Int) + j) / 32 = (((a + j) / 32 : Nat) : Int) := by omega
          have hq : (a + j) / 32 < 200 := by omega
          obtain ⟨cnt2, him2, hc2⟩ := hs.out.1.im
          obtain ⟨W4, hrun, him4, hg4, hs4⟩ := him2.store int_keyed natL_inj (T := 112) Tryd.underlying112 (by simp only [maxLen]; omega) (int_key (n := (a + j) / 32) (by omega)) (.bool true)
          rw [setF_upd] at him4
          have hset : (fun q => (tchL (L.take k) q || tchC a j q) || ((a + j) / 32 == q)) = fun q => tchL (L.take k) q || tchC a (j + 1) q := by
            funext q; rw [tchC_succ, Bool.or_assoc]
          rw [hset] at him4
          have hle := him4.size_le Tryd.underlying3 200 (fun q hq' => by
            unfold setF at hq'
            by_cases hb : (tchL (L.take k) q || tchC a (j + 1) q) = true
            · rcases Bool.or_eq_true_iff.1 hb with h | h
              · exact HTL.out q h
              · exact tchC_lt h (by omega)
            · rw [if_neg hb] at hq'; cases hq')
          have hB4 : Below w.heap.size w W4 := hs.out.1.bel.grown hg4 hs.out.1.bel.size (fun q hq => Nat.le_of_eq (Option.some.inj hq))
          have y0 := hs.out.2
          have hc4 : W4.cell? ⟨bx, 0, none⟩ = some (.int .i64 (a : Int)) := (World.cell?_of_block (a := ⟨bx, 0, none⟩) (hg4.block _ (block_lt_of_cell y0) (fun e => HNE.out (Option.some.inj e)))).trans y0
          have HN : Hidden (DpSt w W4 w.heap.size (fun q => tchL (L.take k) q || tchC a (j + 1) q) ∧ W4.cell? ⟨bx, 0, none⟩ = some (.int .i64 (a : Int))) := ⟨⟨⟨_, him4, hle⟩, hB4, Nat.le_refl _⟩, hc4⟩
          rw [← s4] at hrun
          clear hs him2 him4 hset hle hB4 hc4 hg4 hs4 s4 hc2 hq
          go_wp2_with fail
          go_roundg (nl - (j + 1))
          case measure => omega
          case rel => exact ⟨j + 1, by omega, rfl, by go_num, HN⟩
        · obtain rfl : nl = j := by omega
          have t5 : decide ((nl : Int) < nl) = false := by simp
          have HN : Hidden (DpSt w _ w.heap.size (tchL (L.take (k + 1)))) := ⟨by
            have h := hs.out.1
            have e : (fun q => tchL (L.take k) q || tchC a nl q) = tchL (L.take (k + 1)) := by funext q; exact (HS.out q).symm
            rw [e] at h
            exact h⟩
          clear hs
          go_wp2_with fail
          go_roundg (m - (k + 1))
          case measure => omega
          case rel => exact ⟨k + 1, by omega, rfl, by go_num, HN⟩
    · obtain rfl : m = k := by omega
      have t5 : decide ((m : Int) < m) = false := by simp
      obtain ⟨cnt, him, hc200⟩ := hst.out.im
      have htk : L.take m = L := List.take_of_length_le (by rw [HM.out]; exact Nat.le_refl _)
      rw [htk] at him
      have HSC := Hidden.mk (sorted_call w.heap.size cnt (setF (tchL L)) wr him (by omega))
      have HB := Hidden.mk hst.out.bel
      clear hst him htk HST hc200
      go_wp2_with fail
      refine (keys_call w.heap.size wr).mono ?_
      rintro e w5 ⟨rfl, rfl⟩
      go_wp2_with fail
      refine HSC.out.mono ?_
      rintro e w6 ⟨v, S, rfl, hK, hown, hb6⟩
      have HF : Hidden (S.Pairwise (· < ·) ∧ (∀ k, k ∈ S ↔ tchL L k = true) ∧ w6.ownsRow w.heap.size 3 1 v S.length (S.map fun i : Nat => .int .i64 (i : Int)) ∧ Below w.heap.size w w6) := ⟨⟨hK.up, fun k => by
        rw [hK.mem k]
        unfold setF
        by_cases hb : tchL L k = true
        · rw [if_pos hb]; simp [hb]
        · rw [if_neg hb]; simp [hb], own_base' hown HB.out.size, HB.out.trans (hb6.mono HB.out.size)⟩⟩
      clear hK hown hb6 HSC
      go_wp2_with fail
      go_ret2
      exact dpAns_mk rfl HF.out
end Go.Proofs.YtmhlnbbnanehiaaDoor
/- Contracts of package image: the small ones, and New. -/
namespace Go.Proofs.YtmhlnbbnanehiaaDoor
open Go.RowKit

def rightB (n : Int) : Bool := decide (288 ≤ n) && decide (n ≤ 6400)
theorem rightB_true {n : Int} : rightB n = true ↔ 288 ≤ n ∧ n ≤ 6400 := by simp [rightB]
theorem rightB_false {n : Int} : rightB n = false ↔ n < 288 ∨ 6400 < n := by simp [rightB]; omega
def handleB (n : Int) : Bool := decide (1 ≤ n) && decide (n ≤ 40)
theorem handleB_true {n : Int} : handleB n = true ↔ 1 ≤ n ∧ n ≤ 40 := by simp [handleB]
theorem handleB_false {n : Int} : handleB n = false ↔ n < 1 ∨ 40 < n := by simp [handleB]; omega
def tagB (n : Int) : Bool := decide (0 ≤ n) && decide (n ≤ 15)
theorem tagB_true {n : Int} : tagB n = true ↔ 0 ≤ n ∧ n ≤ 15 := by simp [tagB]
theorem tagB_false {n : Int} : tagB n = false ↔ n < 0 ∨ 15 < n := by simp [tagB]; omega
def lenB (n : Int) : Bool := decide (1 ≤ n) && decide (n ≤ 1000)
theorem lenB_true {n : Int} : lenB n = true ↔ 1 ≤ n ∧ n ≤ 1000 := by simp [lenB]
theorem lenB_false {n : Int} : lenB n = false ↔ n < 1 ∨ 1000 < n := by simp [lenB]; omega
def withinB (n at_ len : Int) : Bool := decide (288 ≤ at_) && decide (len ≤ n) && decide (at_ ≤ n - len)
theorem withinB_true {n a l : Int} : withinB n a l = true ↔ 288 ≤ a ∧ l ≤ n ∧ a ≤ n - l := by simp [withinB, and_assoc]
end Go.Proofs.YtmhlnbbnanehiaaDoor
/- The contract of image.Put. -/
namespace Go.Proofs.YtmhlnbbnanehiaaDoor
open Go.RowKit

theorem splice_join (l x y : Bytes) (o : Nat) (h : o + x.length + y.length ≤ l.length) : splice (splice l o x) (o + x.length) y = splice l o (x ++ y) := by
  unfold splice
  have h1 : (l.take o).length = o := by simp; omega
  rw [List.take_append, h1, List.take_of_length_le (by omega), List.take_append, show o + x.length - o = x.length from by omega, List.take_of_length_le (Nat.le_refl _), Nat.sub_self, List.take_zero, List.append_nil]
  rw [List.drop_append, h1, List.drop_of_length_le (by omega), List.nil_append, List.drop_append, List.drop_of_length_le (by omega), List.nil_append, List.drop_drop]
  simp only [List.append_assoc, List.length_append]
  congr 4
  omega
/-- the five bytes of an entry -/
def entB (at_ len tag : Nat) : Bytes := UInt8.ofNat (tag + 1) :: (numB at_ 2 ++ numB len 2)
theorem entB_len (at_ len tag : Nat) : (entB at_ len tag).length = 5 := by simp [entB, numB_length]
def entO (h : Int) : Nat := (5 * (h - 1)).toNat

/-- an entry as a value -/
abbrev entV (h at_ len tag : Int) : Value := .agg #[.int .i64 h, .int .i64 at_, .int .i64 len, .int .i64 tag]
/-- a block of an entry's four cells -/
structure EntAt (w : World) (p : Nat) (h at_ len tag : Int) : Prop where
  c0 : w.cell? ⟨p, 0, none⟩ = some (.int .i64 h)
  c1 : w.cell? ⟨p, 1, none⟩ = some (.int .i64 at_)
  c2 : w.cell? ⟨p, 2, none⟩ = some (.int .i64 len)
  c3 : w.cell? ⟨p, 3, none⟩ = some (.int .i64 tag)
theorem EntAt.new (w : World) (h at_ len tag : Int) (t : TypeId) : EntAt (w.alloc (.cells #[.int .i64 h, .int .i64 at_, .int .i64 len, .int .i64 tag] t)) w.heap.size h at_ len tag :=
  ⟨World.cell?_alloc_mark w _ t (0, 0) 0, World.cell?_alloc_mark w _ t (0, 0) 1, World.cell?_alloc_mark w _ t (0, 0) 2, World.cell?_alloc_mark w _ t (0, 0) 3⟩
theorem EntAt.keep {w w' : World} {p : Nat} {h at_ len tag : Int} (e : EntAt w p h at_ len tag) (hk : w'.heap[p]? = w.heap[p]?) : EntAt w' p h at_ len tag :=
  ⟨(World.cell?_of_block (w := w) hk).trans e.c0, (World.cell?_of_block (w := w) hk).trans e.c1, (World.cell?_of_block (w := w) hk).trans e.c2, (World.cell?_of_block (w := w) hk).trans e.c3⟩

/-- an image with an entry -/
def putEnt (l : Bytes) (h at_ len tag : Int) : Bytes := splice l (entO h) (entB at_.toNat len.toNat tag.toNat)
theorem putEnt_len (l : Bytes) (h at_ len tag : Int) (h1 : 1 ≤ h) (h2 : h ≤ 40) (hl : 200 ≤ l.length) : (putEnt l h at_ len tag).length = l.length := by
  unfold putEnt; refine splice_len _ _ _ ?_; rw [entB_len]; unfold entO; omega

/-- what Put answers, whatever it is handed -/
def PutAns (w w' : World) (n : Nat) (l : Bytes) (h at_ len tag : Int) (v err : Value) : Prop :=
  (∃ k, err = .iface 103 (.int .i64 k)) ∨
  (err = .nilIface ∧ handleB h = true ∧ tagB tag = true ∧ lenB len = true ∧ withinB n at_ len = true ∧ ∃ g cap, v = .slice (some ⟨g, 0, none⟩) n cap ∧ w.heap.size ≤ g ∧ Row w' 5 g cap (putEnt l h at_ len tag))
theorem PutAns.isNil {w w' : World} {n : Nat} {l : Bytes} {h at_ len tag : Int} {v err : Value} (a : PutAns w w' n l h at_ len tag v err) : ∃ b, ErrIs err b ∧
    (b = true → handleB h = true ∧ tagB tag = true ∧ lenB len = true ∧ withinB n at_ len = true ∧ ∃ g cap, v = .slice (some ⟨g, 0, none⟩) n cap ∧ w.heap.size ≤ g ∧ Row w' 5 g cap (putEnt l h at_ len tag)) := by
  rcases a with ⟨k, rfl⟩ | ⟨rfl, h1⟩
  · exact ⟨false, errIs_some k, fun h => by cases h⟩
  · exact ⟨true, errIs_nil, fun _ => h1⟩
end Go.Proofs.YtmhlnbbnanehiaaDoor
/- The contract of image.PutRoot. -/
namespace Go.Proofs.YtmhlnbbnanehiaaDoor
open Go.RowKit

abbrev rootV (s : Bytes) (h : Int) : Value := .agg #[sv s, .int .i64 h]
def rootO (i : Int) : Nat := (200 + i * 11).toNat
/-- the eleven bytes of a root -/
def rootB (s : Bytes) (h : Int) : Bytes := nameB s ++ [0, 0, UInt8.ofNat h.toNat]
end Go.Proofs.YtmhlnbbnanehiaaDoor
/- Plain words for what is wrong with an image, and what mending makes of it. No walk here. -/
namespace Go.Proofs.YtmhlnbbnanehiaaDoor

/-- the five bytes of the handle k + 1 -/
def rawE (l : Bytes) (k : Nat) : Bytes := (l.drop (5 * k)).take 5
/-- the eleven bytes of a root -/
def rawR (l : Bytes) (i : Nat) : Bytes := (l.drop (200 + 11 * i)).take 11
def rHd (r : Bytes) : UInt8 := r.headD 0
def rAt (r : Bytes) : Nat := ofB ((r.drop 1).take 2)
def rLen (r : Bytes) : Nat := ofB ((r.drop 3).take 2)
def rTag (r : Bytes) : Int := ((rHd r).toNat : Int) - 1
def hasE (r : Bytes) : Bool := rHd r != 0
def strayE (n : Nat) (r : Bytes) : Bool := !(tagB (rTag r) && lenB (rLen r) && withinB n (rAt r) (rLen r))
def zeroE (r : Bytes) : Bool := !r.any nonZero
def overE (r s : Bytes) : Bool := decide (rAt r < rAt s + rLen s) && decide (rAt s < rAt r + rLen r)
def wholeE (n : Nat) (r : Bytes) : Bool := hasE r && !strayE n r

/-- a fault -/
structure Flt where
  what : Nat
  which : Nat
/-- what a handle is: 0: none; 1, 2, 3: a fault; 6: right -/
def kindH (n : Nat) (R : Nat → Bytes) (k : Nat) : Nat :=
  if hasE (R k) = true then (if strayE n (R k) = true then 1 else if (List.range k).any (fun j => wholeE n (R j) && overE (R k) (R j)) = true then 2 else 6)
  else (if zeroE (R k) = true then 0 else 3)
def fltOf (kind which : Nat) : List Flt := if kind = 0 ∨ kind = 6 then [] else [⟨kind, which⟩]
def faultsH (n : Nat) (R : Nat → Bytes) (m : Nat) : List Flt := (List.range m).flatMap fun k => fltOf (kindH n R k) (k + 1)
def leadsE (n : Nat) (R : Nat → Bytes) (x : UInt8) : Bool := (List.range 40).any fun k => kindH n R k == 6 && x.toNat == k + 1
def nmR (r : Bytes) : Bytes := nameAt (r.take 8)
def badR (leads : UInt8 → Bool) (r : Bytes) : Bool := !gotName (r.take 8) || r.getD 8 0 != 0 || r.getD 9 0 != 0 || !leads (r.getD 10 0)
def okR (leads : UInt8 → Bool) (r : Bytes) : Bool := !zeroE r && !badR leads r
/-- what a root is: 0: none; 4, 5: a fault; 6: right -/
def kindR (leads : UInt8 → Bool) (S : Nat → Bytes) (i : Nat) : Nat :=
  if zeroE (S i) = true then 0 else if badR leads (S i) = true then 4 else if (List.range i).any (fun j => okR leads (S j) && (nmR (S i) == nmR (S j))) = true then 5 else 6
def faultsR (leads : UInt8 → Bool) (S : Nat → Bytes) (m : Nat) : List Flt := (List.range m).flatMap fun i => fltOf (kindR leads S i) i
/-- what is wrong with an image -/
def checkL (l : Bytes) : List Flt := faultsH l.length (rawE l) 40 ++ faultsR (leadsE l.length (rawE l)) (rawR l) 8

theorem faultsH_succ (n : Nat) (R : Nat → Bytes) (m : Nat) : faultsH n R (m + 1) = faultsH n R m ++ fltOf (kindH n R m) (m + 1) := by
  simp [faultsH, List.range_succ]
theorem faultsR_succ (leads : UInt8 → Bool) (S : Nat → Bytes) (m : Nat) : faultsR leads S (m + 1) = faultsR leads S m ++ fltOf (kindR leads S m) m := by
  simp [faultsR, List.range_succ]
theorem fltOf_len (a b : Nat) : (fltOf a b).length ≤ 1 := by unfold fltOf; split <;> simp
theorem faultsH_len (n : Nat) (R : Nat → Bytes) (m : Nat) : (faultsH n R m).length ≤ m := by
  induction m with
  | zero => simp [faultsH]
  | succ m ih => rw [faultsH_succ, List.length_append]; have := fltOf_len (kindH n R m) (m + 1); omega
theorem faultsR_len (leads : UInt8 → Bool) (S : Nat → Bytes) (m : Nat) : (faultsR leads S m).length ≤ m := by
  induction m with
  | zero => simp [faultsR]
  | succ m ih => rw [faultsR_succ, List.length_append]; have := fltOf_len (kindR leads S m) m; omega
theorem kindH_cases (n : Nat) (R : Nat → Bytes) (k : Nat) : kindH n R k = 0 ∨ kindH n R k = 1 ∨ kindH n R k = 2 ∨ kindH n R k = 3 ∨ kindH n R k = 6 := by
  unfold kindH; repeat' split
  all_goals simp
theorem kindR_cases (leads : UInt8 → Bool) (S : Nat → Bytes) (k : Nat) : kindR leads S k = 0 ∨ kindR leads S k = 4 ∨ kindR leads S k = 5 ∨ kindR leads S k = 6 := by
  unfold kindR; repeat' split
  all_goals simp
theorem mem_fltOf {a b : Nat} {f : Flt} : f ∈ fltOf a b ↔ ¬ (a = 0 ∨ a = 6) ∧ f = ⟨a, b⟩ := by
  unfold fltOf; split <;> simp_all
theorem mem_checkL {l : Bytes} {f : Flt} : f ∈ checkL l ↔ (∃ k, k < 40 ∧ ¬ (kindH l.length (rawE l) k = 0 ∨ kindH l.length (rawE l) k = 6) ∧ f = ⟨kindH l.length (rawE l) k, k + 1⟩) ∨
    (∃ i, i < 8 ∧ ¬ (kindR (leadsE l.length (rawE l)) (rawR l) i = 0 ∨ kindR (leadsE l.length (rawE l)) (rawR l) i = 6) ∧ f = ⟨kindR (leadsE l.length (rawE l)) (rawR l) i, i⟩) := by
  simp only [checkL, List.mem_append, faultsH, faultsR, List.mem_flatMap, List.mem_range, mem_fltOf]

/-- the same handles, once what is wrong is 0 -/
theorem zeros_has : hasE (List.replicate 5 0) = false := by decide
theorem zeros_zero (n : Nat) : zeroE (List.replicate n 0) = true := by
  simp [zeroE, nonZero]
theorem kindH_after (n : Nat) (R R' : Nat → Bytes) (h : ∀ k, k < 40 → R' k = if kindH n R k = 0 ∨ kindH n R k = 6 then R k else List.replicate 5 0) (k : Nat) (hk : k < 40) :
    kindH n R' k = if kindH n R k = 6 then 6 else 0 := by
  have hz : kindH n R k ≠ 0 → kindH n R k ≠ 6 → kindH n R' k = 0 := fun h0 h6 => by
    have := h k hk
    rw [if_neg (by omega)] at this
    unfold kindH
    rw [this, zeros_has, zeros_zero]; simp
  rcases kindH_cases n R k with h0 | h0 | h0 | h0 | h0
  · rw [if_neg (by omega)]
    have hR := h k hk
    rw [if_pos (by omega)] at hR
    unfold kindH at h0 ⊢
    rw [hR]
    split at h0
    · repeat' split at h0
      all_goals simp at h0
    · rename_i hh
      rw [if_neg hh]
      split at h0
      · rename_i hz; rw [if_pos hz]
      · simp at h0
  · rw [if_neg (by omega)]; exact hz (by omega) (by omega)
  · rw [if_neg (by omega)]; exact hz (by omega) (by omega)
  · rw [if_neg (by omega)]; exact hz (by omega) (by omega)
  · rw [if_pos h0]
    have hR := h k hk
    rw [if_pos (by omega)] at hR
    unfold kindH at h0 ⊢
    rw [hR]
    split at h0
    · rename_i hh
      rw [if_pos hh]
      split at h0
      · simp at h0
      · rename_i hs
        rw [if_neg hs]
        split at h0
        · simp at h0
        · rename_i ha
          rw [if_neg]
          intro hx
          apply ha
          rw [List.any_eq_true] at hx ⊢
          obtain ⟨j, hj, hw⟩ := hx
          refine ⟨j, hj, ?_⟩
          have hj' : j < k := List.mem_range.1 hj
          have hRj := h j (by omega)
          split at hRj
          · rw [← hRj]; exact hw
          · rw [hRj] at hw; simp only [wholeE, zeros_has, Bool.false_and, Bool.false_eq_true] at hw
    · split at h0 <;> simp at h0
theorem leadsE_after (n : Nat) (R R' : Nat → Bytes) (h : ∀ k, k < 40 → kindH n R' k = if kindH n R k = 6 then 6 else 0) : leadsE n R' = leadsE n R := by
  funext x
  have : ∀ k ∈ List.range 40, (kindH n R' k == 6 && x.toNat == k + 1) = (kindH n R k == 6 && x.toNat == k + 1) := fun k hk => by
    rw [h k (List.mem_range.1 hk)]
    split
    · rename_i h6; rw [h6]
    · rename_i h6; simp [h6]
  unfold leadsE
  rw [Bool.eq_iff_iff, List.any_eq_true, List.any_eq_true]
  constructor
  · rintro ⟨k, hk, h⟩; exact ⟨k, hk, (this k hk) ▸ h⟩
  · rintro ⟨k, hk, h⟩; exact ⟨k, hk, (this k hk).symm ▸ h⟩
theorem kindR_after (leads : UInt8 → Bool) (S S' : Nat → Bytes) (h : ∀ i, i < 8 → S' i = if kindR leads S i = 0 ∨ kindR leads S i = 6 then S i else List.replicate 11 0) (i : Nat) (hi : i < 8) :
    kindR leads S' i = if kindR leads S i = 6 then 6 else 0 := by
  have hz : kindR leads S i ≠ 0 → kindR leads S i ≠ 6 → kindR leads S' i = 0 := fun h0 h6 => by
    have := h i hi
    rw [if_neg (by omega)] at this
    unfold kindR
    rw [this, zeros_zero]; simp
  rcases kindR_cases leads S i with h0 | h0 | h0 | h0
  · rw [if_neg (by omega)]
    have hS := h i hi
    rw [if_pos (by omega)] at hS
    unfold kindR at h0 ⊢
    rw [hS]
    split at h0
    · rename_i hh; rw [if_pos hh]
    · repeat' split at h0
      all_goals simp at h0
  · rw [if_neg (by omega)]; exact hz (by omega) (by omega)
  · rw [if_neg (by omega)]; exact hz (by omega) (by omega)
  · rw [if_pos h0]
    have hS := h i hi
    rw [if_pos (by omega)] at hS
    unfold kindR at h0 ⊢
    rw [hS]
    split at h0
    · simp at h0
    · rename_i hh
      rw [if_neg hh]
      split at h0
      · simp at h0
      · rename_i hb
        rw [if_neg hb]
        split at h0
        · simp at h0
        · rename_i ha
          rw [if_neg]
          intro hx
          apply ha
          rw [List.any_eq_true] at hx ⊢
          obtain ⟨j, hj, hw⟩ := hx
          refine ⟨j, hj, ?_⟩
          have hj' : j < i := List.mem_range.1 hj
          have hSj := h j (by omega)
          split at hSj
          · rw [← hSj]; exact hw
          · rw [hSj] at hw; simp only [okR, zeros_zero, Bool.not_true, Bool.false_and, Bool.false_eq_true] at hw

/-- where a fault's bytes lie -/
def fltO (f : Flt) : Nat := if f.what = 4 ∨ f.what = 5 then 200 + 11 * f.which else 5 * (f.which - 1)
def fltN (f : Flt) : Nat := if f.what = 4 ∨ f.what = 5 then 11 else 5
def clearF (l : Bytes) (f : Flt) : Bytes := splice l (fltO f) (List.replicate (fltN f) 0)
def clearAll (l : Bytes) (fs : List Flt) : Bytes := fs.foldl clearF l
def FltIn (n : Nat) (f : Flt) : Prop := fltO f + fltN f ≤ n
theorem splice_at (l x : Bytes) (o p : Nat) (h : o + x.length ≤ l.length) : (splice l o x)[p]? = if o ≤ p ∧ p < o + x.length then x[p - o]? else l[p]? := by
  split
  · rename_i hp
    have := splice_get l x o (p - o) h (by omega)
    rw [show o + (p - o) = p from by omega] at this
    exact this
  · exact (splice_same l x o p h (by omega)).symm
theorem clearF_len (l : Bytes) (f : Flt) (h : FltIn l.length f) : (clearF l f).length = l.length := by
  unfold clearF; exact length_splice _ _ _ (by rw [List.length_replicate]; exact h)
theorem clearAll_len (fs : List Flt) : ∀ l : Bytes, (∀ f ∈ fs, FltIn l.length f) → (clearAll l fs).length = l.length := by
  induction fs with
  | nil => intro l _; rfl
  | cons f fs ih =>
    intro l h
    have h1 := clearF_len l f (h f (by simp))
    show (clearAll (clearF l f) fs).length = _
    rw [ih _ (fun g hg => by rw [h1]; exact h g (by simp [hg])), h1]
def Cleared (fs : List Flt) (p : Nat) : Prop := ∃ f ∈ fs, fltO f ≤ p ∧ p < fltO f + fltN f
theorem clearAll_out (fs : List Flt) (p : Nat) (hp : ¬ Cleared fs p) : ∀ l : Bytes, (∀ f ∈ fs, FltIn l.length f) → (clearAll l fs)[p]? = l[p]? := by
  induction fs with
  | nil => intro l _; rfl
  | cons f fs ih =>
    intro l h
    have h1 := clearF_len l f (h f (by simp))
    show (clearAll (clearF l f) fs)[p]? = _
    rw [ih (fun ⟨g, hg, hh⟩ => hp ⟨g, by simp [hg], hh⟩) _ (fun g hg => by rw [h1]; exact h g (by simp [hg]))]
    unfold clearF
    rw [splice_at _ _ _ _ (by rw [List.length_replicate]; exact h f (by simp)), if_neg]
    rw [List.length_replicate]
    exact fun hh => hp ⟨f, by simp, hh⟩
theorem clearAll_zero (fs : List Flt) (p : Nat) : ∀ l : Bytes, (∀ f ∈ fs, FltIn l.length f) → l[p]? = some 0 → (clearAll l fs)[p]? = some 0 := by
  induction fs with
  | nil => intro l _ h; exact h
  | cons f fs ih =>
    intro l h hz
    have h1 := clearF_len l f (h f (by simp))
    show (clearAll (clearF l f) fs)[p]? = _
    refine ih _ (fun g hg => by rw [h1]; exact h g (by simp [hg])) ?_
    unfold clearF
    rw [splice_at _ _ _ _ (by rw [List.length_replicate]; exact h f (by simp))]
    split
    · rename_i hh; rw [List.length_replicate] at hh; rw [List.getElem?_replicate, if_pos (by omega)]
    · exact hz
theorem clearAll_in (fs : List Flt) (p : Nat) (hp : Cleared fs p) : ∀ l : Bytes, (∀ f ∈ fs, FltIn l.length f) → (clearAll l fs)[p]? = some 0 := by
  induction fs with
  | nil => obtain ⟨f, hf, _⟩ := hp; simp at hf
  | cons f fs ih =>
    intro l h
    have h1 := clearF_len l f (h f (by simp))
    have h2 : ∀ g ∈ fs, FltIn (clearF l f).length g := fun g hg => by rw [h1]; exact h g (by simp [hg])
    show (clearAll (clearF l f) fs)[p]? = _
    by_cases hc : Cleared fs p
    · exact ih hc _ h2
    · refine clearAll_zero fs p _ h2 ?_
      obtain ⟨g, hg, hh⟩ := hp
      rcases List.mem_cons.1 hg with rfl | hg
      · unfold clearF
        rw [splice_at _ _ _ _ (by rw [List.length_replicate]; exact h g (by simp)), if_pos (by rw [List.length_replicate]; exact hh), List.getElem?_replicate, if_pos (by omega)]
      · exact absurd ⟨g, hg, hh⟩ hc
/-- an image without what is wrong -/
def mendL (l : Bytes) : Bytes := clearAll l (checkL l)
theorem flt_in {l : Bytes} (hl : 288 ≤ l.length) {f : Flt} (hf : f ∈ checkL l) : FltIn l.length f := by
  unfold FltIn fltO fltN
  rcases mem_checkL.1 hf with ⟨k, hk, hn, rfl⟩ | ⟨i, hi, hn, rfl⟩
  · have := kindH_cases l.length (rawE l) k
    rw [if_neg (by simp only; omega), if_neg (by simp only; omega)]
    simp only; omega
  · have := kindR_cases (leadsE l.length (rawE l)) (rawR l) i
    rw [if_pos (by simp only; omega), if_pos (by simp only; omega)]
    simp only; omega
theorem mendL_len {l : Bytes} (hl : 288 ≤ l.length) : (mendL l).length = l.length := clearAll_len _ l (fun _ hf => flt_in hl hf)
theorem cleared_h {l : Bytes} {k q : Nat} (hk : k < 40) (hq : q < 5) : Cleared (checkL l) (5 * k + q) ↔ ¬ (kindH l.length (rawE l) k = 0 ∨ kindH l.length (rawE l) k = 6) := by
  constructor
  · rintro ⟨f, hf, h1, h2⟩
    unfold fltO fltN at *
    rcases mem_checkL.1 hf with ⟨k', hk', hn, rfl⟩ | ⟨i, hi, hn, rfl⟩
    · have := kindH_cases l.length (rawE l) k'
      rw [if_neg (by simp only; omega)] at h1 h2
      rw [if_neg (by simp only; omega)] at h2
      simp only at h1 h2
      obtain rfl : k' = k := by omega
      exact hn
    · have := kindR_cases (leadsE l.length (rawE l)) (rawR l) i
      rw [if_pos (by simp only; omega)] at h1 h2
      simp only at h1; omega
  · intro hn
    refine ⟨_, mem_checkL.2 (.inl ⟨k, hk, hn, rfl⟩), ?_⟩
    have := kindH_cases l.length (rawE l) k
    unfold fltO fltN
    rw [if_neg (by simp only; omega), if_neg (by simp only; omega)]
    simp only; omega
theorem cleared_r {l : Bytes} {i q : Nat} (hi : i < 8) (hq : q < 11) : Cleared (checkL l) (200 + 11 * i + q) ↔ ¬ (kindR (leadsE l.length (rawE l)) (rawR l) i = 0 ∨ kindR (leadsE l.length (rawE l)) (rawR l) i = 6) := by
  constructor
  · rintro ⟨f, hf, h1, h2⟩
    unfold fltO fltN at *
    rcases mem_checkL.1 hf with ⟨k', hk', hn, rfl⟩ | ⟨i', hi', hn, rfl⟩
    · have := kindH_cases l.length (rawE l) k'
      rw [if_neg (by simp only; omega)] at h1 h2
      rw [if_neg (by simp only; omega)] at h2
      simp only at h1 h2
      omega
    · have := kindR_cases (leadsE l.length (rawE l)) (rawR l) i'
      rw [if_pos (by simp only; omega)] at h1 h2
      rw [if_pos (by simp only; omega)] at h2
      simp only at h1 h2
      obtain rfl : i' = i := by omega
      exact hn
  · intro hn
    refine ⟨_, mem_checkL.2 (.inr ⟨i, hi, hn, rfl⟩), ?_⟩
    have := kindR_cases (leadsE l.length (rawE l)) (rawR l) i
    unfold fltO fltN
    rw [if_pos (by simp only; omega), if_pos (by simp only; omega)]
    simp only; omega
theorem mend_rawE {l : Bytes} (hl : 288 ≤ l.length) (k : Nat) (hk : k < 40) : rawE (mendL l) k = if kindH l.length (rawE l) k = 0 ∨ kindH l.length (rawE l) k = 6 then rawE l k else List.replicate 5 0 := by
  have hin : ∀ f ∈ checkL l, FltIn l.length f := fun _ hf => flt_in hl hf
  apply List.ext_getElem?
  intro q
  unfold rawE
  rw [List.getElem?_take, List.getElem?_drop]
  by_cases hq : q < 5
  · rw [if_pos hq]
    by_cases hc : kindH l.length (rawE l) k = 0 ∨ kindH l.length (rawE l) k = 6
    · have := clearAll_out (checkL l) (5 * k + q) (fun h => (cleared_h hk hq).1 h hc) l hin
      show (clearAll l (checkL l))[5 * k + q]? = _
      unfold rawE at *
      rw [this, if_pos hc, List.getElem?_take, if_pos hq, List.getElem?_drop]
    · have := clearAll_in (checkL l) (5 * k + q) ((cleared_h hk hq).2 hc) l hin
      show (clearAll l (checkL l))[5 * k + q]? = _
      unfold rawE at *
      rw [this, if_neg hc, List.getElem?_replicate, if_pos hq]
  · rw [if_neg hq]
    split
    · rw [List.getElem?_take, if_neg hq]
    · rw [List.getElem?_replicate, if_neg hq]
theorem mend_rawR {l : Bytes} (hl : 288 ≤ l.length) (i : Nat) (hi : i < 8) : rawR (mendL l) i = if kindR (leadsE l.length (rawE l)) (rawR l) i = 0 ∨ kindR (leadsE l.length (rawE l)) (rawR l) i = 6 then rawR l i else List.replicate 11 0 := by
  have hin : ∀ f ∈ checkL l, FltIn l.length f := fun _ hf => flt_in hl hf
  apply List.ext_getElem?
  intro q
  have hL : (rawR (mendL l) i)[q]? = if q < 11 then (clearAll l (checkL l))[200 + 11 * i + q]? else none := by
    unfold rawR mendL; rw [List.getElem?_take, List.getElem?_drop]
  have hR : (rawR l i)[q]? = if q < 11 then l[200 + 11 * i + q]? else none := by
    unfold rawR; rw [List.getElem?_take, List.getElem?_drop]
  rw [hL]
  by_cases hq : q < 11
  · rw [if_pos hq]
    by_cases hc : kindR (leadsE l.length (rawE l)) (rawR l) i = 0 ∨ kindR (leadsE l.length (rawE l)) (rawR l) i = 6
    · rw [clearAll_out (checkL l) (200 + 11 * i + q) (fun h => (cleared_r hi hq).1 h hc) l hin, if_pos hc, hR, if_pos hq]
    · rw [clearAll_in (checkL l) (200 + 11 * i + q) ((cleared_r hi hq).2 hc) l hin, if_neg hc, List.getElem?_replicate, if_pos hq]
  · rw [if_neg hq]
    split
    · rw [hR, if_neg hq]
    · rw [List.getElem?_replicate, if_neg hq]
theorem mend_kindH {l : Bytes} (hl : 288 ≤ l.length) (k : Nat) (hk : k < 40) : kindH (mendL l).length (rawE (mendL l)) k = if kindH l.length (rawE l) k = 6 then 6 else 0 := by
  rw [mendL_len hl]; exact kindH_after _ _ _ (fun k hk => mend_rawE hl k hk) k hk
theorem mend_leads {l : Bytes} (hl : 288 ≤ l.length) : leadsE (mendL l).length (rawE (mendL l)) = leadsE l.length (rawE l) := by
  rw [mendL_len hl]
  exact leadsE_after _ _ _ (fun k hk => by have := mend_kindH hl k hk; rwa [mendL_len hl] at this)
theorem mend_clean {l : Bytes} (hl : 288 ≤ l.length) : checkL (mendL l) = [] := by
  rw [List.eq_nil_iff_forall_not_mem]
  intro f hf
  rcases mem_checkL.1 hf with ⟨k, hk, hn, rfl⟩ | ⟨i, hi, hn, rfl⟩
  · apply hn
    rw [mend_kindH hl k hk]
    split <;> simp
  · apply hn
    rw [mend_leads hl, kindR_after _ _ _ (fun i hi => mend_rawR hl i hi) i hi]
    split <;> simp
theorem mend_id {l : Bytes} (h : checkL l = []) : mendL l = l := by unfold mendL; rw [h]; rfl
theorem mend_eq {l : Bytes} (hl : 288 ≤ l.length) : checkL l = [] ↔ mendL l = l :=
  ⟨mend_id, fun h => by have := mend_clean hl; rwa [h] at this⟩
theorem mend_rest {l : Bytes} (hl : 288 ≤ l.length) : (mendL l).drop 288 = l.drop 288 := by
  apply List.ext_getElem?
  intro p
  rw [List.getElem?_drop, List.getElem?_drop]
  refine clearAll_out _ _ ?_ l (fun _ hf => flt_in hl hf)
  rintro ⟨f, hf, h1, h2⟩
  unfold fltO at h1 h2
  unfold fltN at h2
  rcases mem_checkL.1 hf with ⟨k, hk, hn, rfl⟩ | ⟨i, hi, hn, rfl⟩
  · have := kindH_cases l.length (rawE l) k
    rw [if_neg (by simp only; omega), if_neg (by simp only; omega)] at h2
    simp only at h2; omega
  · have := kindR_cases (leadsE l.length (rawE l)) (rawR l) i
    rw [if_pos (by simp only; omega), if_pos (by simp only; omega)] at h2
    simp only at h2; omega
end Go.Proofs.YtmhlnbbnanehiaaDoor
/- image.find and image.Get: an entry read back. -/
namespace Go.Proofs.YtmhlnbbnanehiaaDoor
open Go.RowKit

theorem rawE_len (l : Bytes) (k : Nat) (hk : k < 40) (hn : 200 ≤ l.length) : (rawE l k).length = 5 := by
  unfold rawE; simp; omega
theorem rawE_rd {w : World} {A : Option Addr} {l : Bytes} (h : Rd w A l) (k : Nat) (hk : k < 40) (hn : 200 ≤ l.length) : Rd w (A.map (·.add (5 * k))) (rawE l k) := h.cut (5 * k) 5 (by omega)
/-- the handle's number -/
theorem entO_k (k : Nat) : entO ((k : Int) + 1) = 5 * k := by unfold entO; omega
/-- the entry that stands in five bytes -/
def entR (h : Int) (r : Bytes) : Value := entV h (rAt r) (rLen r) (rTag r)

end Go.Proofs.YtmhlnbbnanehiaaDoor
/- The contracts of check.stray, check.over and image.Zero. -/
namespace Go.Proofs.YtmhlnbbnanehiaaDoor
open Go.RowKit

/-- do two stretches of bytes share one? -/
def overB (a al b bl : Int) : Bool := decide (a < b + bl) && decide (b < a + al)
theorem forall_take_succ' {α : Type} {l : List α} {k : Nat} {p : α → Bool} (hk : k < l.length) (h : ∀ x ∈ l.take k, p x = false) (hp : p l[k] = false) : ∀ x ∈ l.take (k + 1), p x = false := by
  intro x hx
  rw [List.take_succ_eq_append_getElem hk, List.mem_append, List.mem_singleton] at hx
  rcases hx with hx | rfl
  · exact h x hx
  · exact hp
/-- the slice at A has the entries L: the handle, the bytes -/
def RdEs (w : World) (A : Option Addr) (L : List (Int × Bytes)) : Prop := ∀ i (h : i < L.length), ∃ g off, A = some ⟨g, off, none⟩ ∧ w.cell? ⟨g, off + i * 4, none⟩ = some (.int .i64 L[i].1) ∧ w.cell? ⟨g, off + i * 4 + 1, none⟩ = some (.int .i64 (rAt L[i].2)) ∧
  w.cell? ⟨g, off + i * 4 + 2, none⟩ = some (.int .i64 (rLen L[i].2)) ∧ w.cell? ⟨g, off + i * 4 + 3, none⟩ = some (.int .i64 (rTag L[i].2))
theorem RdEs.below {w w' : World} {A : Option Addr} {L : List (Int × Bytes)} (h : RdEs w A L) (hb : Below w.heap.size w w') : RdEs w' A L := fun i hi => by
  obtain ⟨g, off, hA, c0, c1, c2, c3⟩ := h i hi
  exact ⟨g, off, hA, (hb.cell (block_lt_of_cell c0)).trans c0, (hb.cell (block_lt_of_cell c1)).trans c1, (hb.cell (block_lt_of_cell c2)).trans c2, (hb.cell (block_lt_of_cell c3)).trans c3⟩
end Go.Proofs.YtmhlnbbnanehiaaDoor
/- The contract of check.handles. -/
namespace Go.Proofs.YtmhlnbbnanehiaaDoor
open Go.RowKit

def entsL (p : Nat → Bool) (R : Nat → Bytes) (m : Nat) : List (Int × Bytes) := ((List.range m).filter p).map fun (k : Nat) => (((k : Int) + 1), R k)
def rightL (n : Nat) (R : Nat → Bytes) (m : Nat) : List (Int × Bytes) := entsL (fun k => kindH n R k == 6) R m
def wholeL (n : Nat) (R : Nat → Bytes) (m : Nat) : List (Int × Bytes) := entsL (fun k => wholeE n (R k)) R m
theorem entsL_succ (p : Nat → Bool) (R : Nat → Bytes) (m : Nat) : entsL p R (m + 1) = entsL p R m ++ (if p m = true then [(((m : Int) + 1), R m)] else []) := by
  unfold entsL
  rw [List.range_succ, List.filter_append, List.map_append]
  congr 1
  cases h : p m <;> simp [h]
theorem entsL_len (p : Nat → Bool) (R : Nat → Bytes) (m : Nat) : (entsL p R m).length ≤ m := by
  unfold entsL
  rw [List.length_map]
  have := List.length_filter_le p (List.range m)
  rwa [List.length_range] at this
theorem wholeL_any (n : Nat) (R : Nat → Bytes) (m : Nat) (r : Bytes) : (wholeL n R m).any (fun x => overE r x.2) = (List.range m).any fun j => wholeE n (R j) && overE r (R j) := by
  unfold wholeL entsL
  rw [List.any_map, List.any_filter]
  rfl
def ecells (x : Int × Bytes) : List Value := [.int .i64 x.1, .int .i64 (rAt x.2), .int .i64 (rLen x.2), .int .i64 (rTag x.2)]
def fcells (f : Flt) : List Value := [.int .i64 f.what, .int .i64 f.which]
theorem ecells_at (L : List (Int × Bytes)) (q : Nat) (hq : q < 4) : ∀ i (h : i < L.length), (L.flatMap ecells)[i * 4 + q]? = (ecells L[i])[q]? := by
  induction L with
  | nil => intro i h; simp at h
  | cons x L ih =>
    intro i h
    rw [List.flatMap_cons]
    have hl : (ecells x).length = 4 := rfl
    cases i with
    | zero => rw [List.getElem?_append_left (by omega)]; simp
    | succ i =>
      rw [List.getElem?_append_right (by omega), hl, show (i + 1) * 4 + q - 4 = i * 4 + q from by omega, ih i (by simpa using h)]
      simp
theorem own_apart {w : World} {base e e' size size' n n' : Nat} {v v' : Value} {xs xs' : List Value} (h : w.ownsRow base e size v n xs) (h' : w.ownsRow base e' size' v' n' xs') (hne : e ≠ e') : v.ownBlock = none ∨ v.ownBlock ≠ v'.ownBlock := by
  rcases h.2 with ⟨rfl, _⟩ | ⟨g, cap, cur, rfl, _, hh, _⟩
  · exact .inl rfl
  · right
    intro he
    rcases h'.2 with ⟨rfl, _⟩ | ⟨g', cap', cur', rfl, _, hh', _⟩
    · simp [Value.ownBlock] at he
    · obtain rfl : g = g' := by simpa [Value.ownBlock] using he
      rw [hh] at hh'
      injection hh' with hh'
      injection hh' with _ ht
      exact hne ht
section
variable {w w' : World} {base : Nat} {vf vr vw vf' : Value} {F : List Flt} {R W : List (Int × Bytes)}
end
theorem rAt_le (r : Bytes) : rAt r ≤ 65535 := by
  have h := ofB_lt ((r.drop 1).take 2)
  have h2 : 2 ^ (8 * ((r.drop 1).take 2).length) ≤ 2 ^ 16 := Nat.pow_le_pow_right (by omega) (by simp; omega)
  unfold rAt; omega
theorem rLen_le (r : Bytes) : rLen r ≤ 65535 := by
  have h := ofB_lt ((r.drop 3).take 2)
  have h2 : 2 ^ (8 * ((r.drop 3).take 2).length) ≤ 2 ^ 16 := Nat.pow_le_pow_right (by omega) (by simp; omega)
  unfold rLen; omega
theorem overE_eq (r s : Bytes) : overB (rAt r) (rLen r) (rAt s) (rLen s) = overE r s := by
  unfold overB overE
  congr 1 <;> (rw [decide_eq_decide]; omega)
end Go.Proofs.YtmhlnbbnanehiaaDoor
/- The contract of check.roots: closures and slices.Contains over names. -/
namespace Go.Proofs.YtmhlnbbnanehiaaDoor
open Go.RowKit

/-- the slice at A has the texts L -/
def RdS (w : World) (A : Option Addr) (L : List Bytes) : Prop := ∀ j (h : j < L.length), ∃ b off, A = some ⟨b, off, none⟩ ∧ w.cell? ⟨b, off + j, none⟩ = some (sv L[j])
theorem own_rdS {w : World} {base e : Nat} {v : Value} {L : List Bytes} (h : w.ownsRow base e 1 v L.length (L.map fun x => sv x)) : ∃ A c, v = .slice A L.length c ∧ L.length ≤ c ∧ RdS w A L := by
  rcases h.2 with ⟨rfl, h0⟩ | ⟨g, cap, cur, rfl, _, hh, hc, hm, hz, ht⟩
  · exact ⟨none, 0, by rw [h0], by omega, fun i hi => by omega⟩
  · refine ⟨_, cap, rfl, hc, fun i hi => ⟨g, 0, rfl, ?_⟩⟩
    have := h.cells (g := g) rfl i (sv L[i]) (by simp [hi])
    rw [Addr.add_lit] at this
    exact this
theorem rawR_len (l : Bytes) (i : Nat) (hi : i < 8) (hn : 288 ≤ l.length) : (rawR l i).length = 11 := by
  unfold rawR; simp; omega
theorem rawR_rd {w : World} {A : Option Addr} {l : Bytes} (h : Rd w A l) (i : Nat) (hi : i < 8) (hn : 288 ≤ l.length) : Rd w (A.map (·.add (200 + 11 * i))) (rawR l i) := h.cut (200 + 11 * i) 11 (by omega)
theorem rootO_k (k : Nat) : rootO (k : Int) = 200 + 11 * k := by unfold rootO; omega
def namesL (leads : UInt8 → Bool) (S : Nat → Bytes) (m : Nat) : List Bytes := ((List.range m).filter fun i => kindR leads S i == 6).map fun i => nmR (S i)
theorem namesL_succ (leads : UInt8 → Bool) (S : Nat → Bytes) (m : Nat) : namesL leads S (m + 1) = namesL leads S m ++ (if kindR leads S m = 6 then [nmR (S m)] else []) := by
  unfold namesL
  rw [List.range_succ, List.filter_append, List.map_append]
  congr 1
  by_cases h : kindR leads S m = 6 <;> simp [h]
theorem namesL_len (leads : UInt8 → Bool) (S : Nat → Bytes) (m : Nat) : (namesL leads S m).length ≤ m := by
  unfold namesL
  rw [List.length_map]
  have := List.length_filter_le (fun i => kindR leads S i == 6) (List.range m)
  rwa [List.length_range] at this
theorem namesL_any (leads : UInt8 → Bool) (S : Nat → Bytes) (s : Bytes) : ∀ m, (namesL leads S m).any (fun x => s == x) = (List.range m).any fun j => okR leads (S j) && (s == nmR (S j))
  | 0 => rfl
  | m + 1 => by
    rw [namesL_succ, List.any_append, List.range_succ, List.any_append, namesL_any leads S s m]
    by_cases h : kindR leads S m = 6
    · have hok : okR leads (S m) = true := by
        unfold kindR at h; unfold okR
        split at h
        · simp at h
        · split at h
          · simp at h
          · rename_i h1 h2; simp [h1, h2]
      simp [h, hok]
    · simp only [if_neg h, List.any_nil, List.any_cons, Bool.or_false]
      cases hok : okR leads (S m) with
      | false => simp
      | true =>
        have hz : zeroE (S m) = false := by unfold okR at hok; simp at hok; exact hok.1
        have hb : badR leads (S m) = false := by unfold okR at hok; simp at hok; exact hok.2
        have h5 : ((List.range m).any fun j => okR leads (S j) && (nmR (S m) == nmR (S j))) = true := by
          unfold kindR at h
          rw [hz, hb] at h
          simp only [Bool.false_eq_true, if_false] at h
          split at h
          · assumption
          · simp at h
        by_cases he : s = nmR (S m)
        · subst he; rw [h5]; simp
        · simp [he]
section
variable {w w' : World} {base : Nat} {vf vn vf' vn' : Value} {F : List Flt} {N : List Bytes}
end
theorem string_info : (Tryd.prog.info? 9).map (fun i => (i.zero, i.size, i.bytes)) = some (some (.string ByteArray.empty), 1, 16) := by kernel_rfl
theorem RdEs.belowB {w w' : World} {A : Option Addr} {L : List (Int × Bytes)} (h : RdEs w A L) (hb : Below w.heap.size w w') : RdEs w' A L := h.below hb
end Go.Proofs.YtmhlnbbnanehiaaDoor
/- The contracts of image.Entries, Roots and Drop, and of image.Get where there is none. -/
namespace Go.Proofs.YtmhlnbbnanehiaaDoor
open Go.RowKit

/-- the entries of an image -/
def entriesL (l : Bytes) : List (Int × Bytes) := entsL (fun k => hasE (rawE l k)) (rawE l) 40
/-- a root: its name, its handle -/
def rootP (r : Bytes) : Bytes × Nat := (if gotName (r.take 8) = true then nmR r else [], (r.getD 10 0).toNat)
def rootsF (S : Nat → Bytes) (m : Nat) : List (Bytes × Nat) := ((List.range m).filter fun i => !zeroE (S i)).map fun i => rootP (S i)
def rootsL (l : Bytes) : List (Bytes × Nat) := rootsF (rawR l) 8
theorem rootsF_succ (S : Nat → Bytes) (m : Nat) : rootsF S (m + 1) = rootsF S m ++ (if zeroE (S m) = true then [] else [rootP (S m)]) := by
  unfold rootsF
  rw [List.range_succ, List.filter_append, List.map_append]
  congr 1
  cases h : zeroE (S m) <;> simp [h]
theorem rootsF_len (S : Nat → Bytes) (m : Nat) : (rootsF S m).length ≤ m := by
  unfold rootsF
  rw [List.length_map]
  have := List.length_filter_le (fun i => !zeroE (S i)) (List.range m)
  rwa [List.length_range] at this
def rcells (x : Bytes × Nat) : List Value := [sv x.1, .int .i64 x.2]
end Go.Proofs.YtmhlnbbnanehiaaDoor
/- The contracts of the reference's Get, Put, Name, NameBytes and ReadName. -/
namespace Go.Proofs.YtmhlnbbnanehiaaDoor
open Go.RowKit

def getF (l : Bytes) (at_ size : Int) : Nat := if getE l.length at_ size = 0 then getN l at_ size else 0
def putF (l : Bytes) (at_ x size : Int) : Bytes := if putE l.length at_ x size = 0 then putB l at_ x size else []

theorem splice_put (l : Bytes) (o x k : Nat) (h : o + k < l.length) : (splice l o (numB x k)).set (o + k) (UInt8.ofNat (x / 2 ^ (8 * k) % 256)) = splice l o (numB x (k + 1)) := by
  have h1 := numB_length x k
  have h2 := numB_length x (k + 1)
  apply List.ext_getElem?
  intro p
  rw [List.getElem?_set, splice_len _ _ _ (by omega), splice_rd _ _ _ _ (by omega), splice_rd _ _ _ _ (by omega), h1, h2]
  by_cases a : o + k = p
  · subst a
    rw [if_pos rfl, if_pos (by omega), if_pos (by omega), Nat.add_sub_cancel_left, numB_get _ _ _ (by omega)]
  · rw [if_neg a]
    by_cases b : o ≤ p ∧ p < o + k
    · rw [if_pos b, if_pos (show o ≤ p ∧ p < o + (k + 1) from by omega), numB_get _ _ _ (by omega), numB_get _ _ _ (by omega)]
    · rw [if_neg b, if_neg (show ¬ (o ≤ p ∧ p < o + (k + 1)) from by omega)]
end Go.Proofs.YtmhlnbbnanehiaaDoor
/- The contract of the reference's Put. -/
namespace Go.Proofs.YtmhlnbbnanehiaaDoor
open Go.RowKit

/-- an answer: bytes, and a number or an error -/
def RowAns (w w' : World) (e : Ending) (l : Bytes) (x : Value) : Prop := ∃ A' c', e = .returned (.tuple #[.slice A' l.length c', x]) ∧ Rd w' A' l ∧ Below w.heap.size w w'
end Go.Proofs.YtmhlnbbnanehiaaDoor
/- The contract of the reference's Make. -/
namespace Go.Proofs.YtmhlnbbnanehiaaDoor
open Go.RowKit

theorem Row.keepB {B : Nat} {w w' : World} (hb : Below B w w') {g p : Nat} (hg : B ≤ g) (v : Value) : Below B w (w'.setCell ⟨g, p, none⟩ v) := hb.setCell (p := ⟨g, p, none⟩) hg v
/-- the sector as it is after k bytes of the stamp -/
def makeK (l1 : Bytes) (st k : Nat) : Bytes := splice (splice l1 0 (numB st k)) 28 (numB st k)
theorem makeK_len (l1 : Bytes) (st k : Nat) (h : l1.length = 32) (hk : k ≤ 4) : (makeK l1 st k).length = 32 := by
  unfold makeK
  have h1 : (splice l1 0 (numB st k)).length = 32 := by rw [splice_len _ _ _ (by rw [numB_length]; omega), h]
  rw [splice_len _ _ _ (by rw [numB_length]; omega), h1]
theorem makeK_get (l1 : Bytes) (st k p : Nat) (h : l1.length = 32) (hk : k ≤ 4) : (makeK l1 st k)[p]? = if p < k then some (UInt8.ofNat (st / 2 ^ (8 * p) % 256)) else if 28 ≤ p ∧ p < 28 + k then some (UInt8.ofNat (st / 2 ^ (8 * (p - 28)) % 256)) else l1[p]? := by
  unfold makeK
  have hn := numB_length st k
  have h1 : (splice l1 0 (numB st k)).length = 32 := by rw [splice_len _ _ _ (by omega), h]
  rw [splice_rd _ _ _ _ (by omega), splice_rd _ _ _ _ (by omega), hn]
  by_cases a : p < k
  · rw [if_neg (by omega), if_pos (by omega), if_pos a, Nat.sub_zero, numB_get k st p a]
  · rw [if_neg a]
    by_cases b : 28 ≤ p ∧ p < 28 + k
    · rw [if_pos b, if_pos b, numB_get k st (p - 28) (by omega)]
    · rw [if_neg b, if_neg b, if_neg (by omega)]
theorem makeK_step (l1 : Bytes) (st k : Nat) (h : l1.length = 32) (hk : k < 4) : ((makeK l1 st k).set k (UInt8.ofNat (st / 2 ^ (8 * k) % 256))).set (28 + k) (UInt8.ofNat (st / 2 ^ (8 * k) % 256)) = makeK l1 st (k + 1) := by
  have hl := makeK_len l1 st k h (by omega)
  apply List.ext_getElem?
  intro p
  rw [makeK_get l1 st (k + 1) p h (by omega), List.getElem?_set, List.getElem?_set, List.length_set, hl, makeK_get l1 st k p h (by omega)]
  by_cases a : 28 + k = p
  · subst a
    rw [if_pos rfl, if_pos (by omega), if_neg (by omega), if_pos (by omega), Nat.add_sub_cancel_left]
  · rw [if_neg a]
    by_cases b : k = p
    · subst b
      rw [if_pos rfl, if_pos (by omega), if_pos (by omega)]
    · rw [if_neg b]
      by_cases c : p < k
      · rw [if_pos c, if_pos (show p < k + 1 from by omega)]
      · rw [if_neg c, if_neg (show ¬ p < k + 1 from by omega)]
        by_cases d : 28 ≤ p ∧ p < 28 + k
        · rw [if_pos d, if_pos (show 28 ≤ p ∧ p < 28 + (k + 1) from by omega)]
        · rw [if_neg d, if_neg (show ¬ (28 ≤ p ∧ p < 28 + (k + 1)) from by omega)]
theorem splice_take_succ (z b : Bytes) (o k : Nat) (hk : k < b.length) (hz : o + b.length ≤ z.length) : (splice z o (b.take k)).set (o + k) b[k] = splice z o (b.take (k + 1)) := by
  have h1 : (b.take k).length = k := by simp; omega
  have h2 : (b.take (k + 1)).length = k + 1 := by simp; omega
  apply List.ext_getElem?
  intro p
  rw [List.getElem?_set, splice_len _ _ _ (by omega), splice_rd _ _ _ _ (by omega), splice_rd _ _ _ _ (by omega), h1, h2]
  by_cases a : o + k = p
  · subst a
    rw [if_pos rfl, if_pos (by omega), if_pos (by omega), Nat.add_sub_cancel_left, List.getElem?_take, if_pos (by omega), List.getElem?_eq_getElem hk]
  · rw [if_neg a]
    by_cases c : o ≤ p ∧ p < o + k
    · rw [if_pos c, if_pos (by omega), List.getElem?_take, List.getElem?_take, if_pos (by omega), if_pos (by omega)]
    · rw [if_neg c, if_neg (by omega)]
theorem makeK_done (st : Nat) (b : Bytes) (h : b.length ≤ 24) : makeK (splice (List.replicate 32 0) 4 b) st 4 = makeB st b := by
  rw [← makeB_steps st b h]
  unfold makeK
  have hn := numB_length st 4
  have hz : (List.replicate 32 (0 : UInt8)).length = 32 := by simp
  congr 1
  apply List.ext_getElem?
  intro p
  have h1 : (splice (List.replicate 32 (0 : UInt8)) 4 b).length = 32 := by rw [splice_len _ _ _ (by omega), hz]
  have h2 : (splice (List.replicate 32 (0 : UInt8)) 0 (numB st 4)).length = 32 := by rw [splice_len _ _ _ (by omega), hz]
  rw [splice_rd _ _ _ _ (by omega), splice_rd _ _ _ _ (by omega), splice_rd _ _ _ _ (by omega), splice_rd _ _ _ _ (by omega), hn]
  by_cases a : 0 ≤ p ∧ p < 0 + 4
  · rw [if_pos a, if_neg (by omega), if_pos a]
  · rw [if_neg a]
    by_cases c : 4 ≤ p ∧ p < 4 + b.length
    · rw [if_pos c, if_pos c]
    · rw [if_neg c, if_neg c, if_neg a]

theorem refMake_e1 (st : Int) (A : Option Addr) (n c : Nat) (w : World) (h : st < 1 ∨ 4294967295 < st) :
    Calls Tryd.prog 76 #[.int .i64 st, .slice A n c] w fun e w' => e = .returned (.tuple #[.slice none 0 0, .int .i64 1]) ∧ w = w' := by
  by_cases h1 : st < 1
  · clear h
    go_enter Tryd.func76, Tryd.ntmps76
    go_wp2
    go_ret2
    exact ⟨rfl, rfl⟩
  · have h2 : 4294967295 < st := by omega
    clear h
    go_enter Tryd.func76, Tryd.ntmps76
    go_wp2
    go_ret2
    exact ⟨rfl, rfl⟩
theorem refMake_e4 (st : Int) (A : Option Addr) (n c : Nat) (w : World) (h1 : 1 ≤ st) (h2 : st ≤ 4294967295) (hn : 24 < n) :
    Calls Tryd.prog 76 #[.int .i64 st, .slice A n c] w fun e w' => e = .returned (.tuple #[.slice none 0 0, .int .i64 4]) ∧ w = w' := by
  go_enter Tryd.func76, Tryd.ntmps76
  go_wp2
  go_ret2
  exact ⟨rfl, rfl⟩
set_option maxRecDepth 100000 in
theorem refMake_ok (st : Nat) (A : Option Addr) (n c : Nat) (b : Bytes) (w : World) (hbn : b.length = n) (h1 : 1 ≤ st) (h2 : st ≤ 4294967295) (hn : n ≤ 24) (hr : Rd w A b) :
    Calls Tryd.prog 76 #[.int .i64 st, .slice A n c] w fun e w' => ∃ g, e = .returned (.tuple #[.slice (some ⟨g, 0, none⟩) 32 32, .int .i64 0]) ∧ w.heap.size ≤ g ∧ Row w' 5 g 32 (makeB st b) ∧ Below w.heap.size w w' := by
  have hmk := mk_bytes 32 32 rfl (by omega) w
  have hz := row_zeros w 32 (by simp [maxLen])
  have hB1 : Below w.heap.size w (w.alloc (.cells (zeroRow 32) 5)) := (Below.refl _ _).alloc (Nat.le_refl _) _
  have hzl : (List.replicate 32 (0 : UInt8)).length = 32 := by simp
  have HZ := Hidden.mk hzl
  obtain ⟨z0, hz0⟩ : ∃ z0, z0 = List.replicate 32 (0 : UInt8) := ⟨_, rfl⟩
  rw [← hz0] at hz hzl HZ
  have HZZ := Hidden.mk hz0
  clear hz0
  subst hbn
  go_enter Tryd.func76, Tryd.ntmps76
  go_wp2_with fail
  generalize w.alloc (.cells (zeroRow 32) 5) = w1 at *
  go_loopw [7] (fun i wr => ∃ k : Nat, k ≤ b.length ∧ i = .int .i64 k ∧ Below w.heap.size w wr ∧ Row wr 5 w.heap.size 32 (splice z0 4 (b.take k))) (fun i _ => b.length - (intOf i).toNat)
  case atStart => exact ⟨0, Nat.zero_le _, rfl, hB1, by simpa [splice] using hz⟩
  case round =>
    obtain ⟨k, hk, rfl, hbel, hrow⟩ := hrel
    by_cases hlt : k < b.length
    · obtain ⟨q, off, rfl, hc⟩ := (hr.below hbel) k hlt
      have hsl : (splice z0 4 (b.take k)).length = 32 := by rw [splice_len _ _ _ (by simp; have := HZ.out; omega), HZ.out]
      have hcell := hrow.cell (4 + k) (by omega)
      have hfr := hrow.frozen (4 + k)
      have hst := hrow.store (4 + k) (by omega) b[k]
      rw [splice_take_succ z0 b 4 k hlt (by have := HZ.out; omega)] at hst
      have hbn := Row.keepB hbel (g := w.heap.size) (p := 4 + k) (Nat.le_refl _) (bv b[k])
      have k0 : (0 : Int) ≤ k := by omega
      have k1 : (k : Int) < b.length := by omega
      have s1 : IntKind.i64.wrap (4 + (k : Int)) = 4 + (k : Int) := IntWalk.i64_in _ (by omega)
      generalize (splice z0 4 (b.take k))[4 + k] = u at hcell
      clear hrow hsl
      go_wp2_with fail
      go_roundw
      case rel => exact ⟨k + 1, by omega, by go_num, hbn, hst⟩
      case measure => simp [intOf]; omega
    · obtain rfl : k = b.length := by omega
      rw [List.take_length] at hrow
      have hl1 : (splice z0 4 b).length = 32 := by rw [splice_len _ _ _ (by have := HZ.out; omega), HZ.out]
      have HD : Hidden (makeK (splice z0 4 b) st 4 = makeB st b) := ⟨by rw [HZZ.out]; exact makeK_done st b hn⟩
      generalize splice z0 4 b = l1 at *
      go_wp2_with fail
      go_loopw [8, 9] (fun nv iv w2 => ∃ k : Nat, k ≤ 4 ∧ iv = .int .i64 k ∧ nv = .int .i64 ((st / 2 ^ (8 * k) : Nat) : Int) ∧ Below w.heap.size w w2 ∧ Row w2 5 w.heap.size 32 (makeK l1 st k)) (fun _ iv _ => 4 - (intOf iv).toNat)
      case atStart => exact ⟨0, Nat.zero_le _, rfl, by simp, hbel, by simpa [makeK, numB, splice] using hrow⟩
      case round =>
        obtain ⟨k, hk, rfl, rfl, hbel2, hrow2⟩ := hrel
        by_cases hlt2 : k < 4
        · have hml := makeK_len l1 st k hl1 hk
          have hd := div_step st k
          have hms := makeK_step l1 st k hl1 hlt2
          have HD2 := Hidden.mk hd
          have hcell1 := hrow2.cell k (by omega)
          have hfr1 := hrow2.frozen k
          have hst1 := hrow2.store k (by omega) (UInt8.ofNat (st / 2 ^ (8 * k) % 256))
          have hbn1 := Row.keepB hbel2 (g := w.heap.size) (p := k) (Nat.le_refl _) (bv (UInt8.ofNat (st / 2 ^ (8 * k) % 256)))
          have hcell2 := hst1.cell (28 + k) (by rw [List.length_set]; omega)
          have hfr2 := hst1.frozen (28 + k)
          have hst2 := hst1.store (28 + k) (by rw [List.length_set]; omega) (UInt8.ofNat (st / 2 ^ (8 * k) % 256))
          have hbn2 := Row.keepB hbn1 (g := w.heap.size) (p := 28 + k) (Nat.le_refl _) (bv (UInt8.ofNat (st / 2 ^ (8 * k) % 256)))
          rw [hms] at hst2
          have hbv : bv (UInt8.ofNat (st / 2 ^ (8 * k) % 256)) = .int .u8 ((st / 2 ^ (8 * k) : Nat) % 256 : Int) := by simp only [bv, ofNat_mod]; rfl
          have hmle : st / 2 ^ (8 * k) ≤ 4294967295 := Nat.le_trans (Nat.div_le_self _ _) h2
          rw [hbv] at hst1 hbn1 hcell2 hfr2 hst2 hbn2
          generalize st / 2 ^ (8 * k) = m at *
          have s1 : IntKind.i64.wrap (28 + (k : Int)) = 28 + (k : Int) := IntWalk.i64_in _ (by omega)
          clear hms hd hbv
          go_wp2_with fail
          go_roundw
          case rel => exact ⟨k + 1, by omega, by go_num, int_i64 (by have := HD2.out; omega), hbn2, hst2⟩
          case measure => simp [intOf]; omega
        · obtain rfl : k = 4 := by omega
          go_wp2_with fail
          go_ret2
          exact ⟨w.heap.size, rfl, Nat.le_refl _, by rw [← HD.out]; exact hrow2, hbel2⟩
theorem refMake_any (st : Int) (A : Option Addr) (n c : Nat) (b : Bytes) (w : World) (hn : b.length = n) (hr : Rd w A b) :
    Calls Tryd.prog 76 #[.int .i64 st, .slice A n c] w fun e w' => ∃ A' c', e = .returned (.tuple #[.slice A' (makeF st b).1.length c', .int .i64 (makeF st b).2]) ∧ Rd w' A' (makeF st b).1 ∧ Below w.heap.size w w' := by
  unfold makeF
  by_cases h1 : st < 1 ∨ 4294967295 < st
  · rw [if_pos h1]
    refine (refMake_e1 st A n c w h1).mono ?_
    rintro e w' ⟨rfl, rfl⟩
    exact ⟨none, 0, rfl, Rd.nil_, Below.refl _ _⟩
  · rw [if_neg h1]
    by_cases h2 : 24 < b.length
    · rw [if_pos h2]
      refine (refMake_e4 st A n c w (by omega) (by omega) (by omega)).mono ?_
      rintro e w' ⟨rfl, rfl⟩
      exact ⟨none, 0, rfl, Rd.nil_, Below.refl _ _⟩
    · rw [if_neg h2]
      obtain ⟨s, rfl⟩ := Int.eq_ofNat_of_zero_le (show 0 ≤ st by omega)
      refine (refMake_ok s A n c b w hn (by omega) (by omega) (by omega) hr).mono ?_
      rintro e w' ⟨g, rfl, hg, hrow, hb⟩
      rw [Int.toNat_natCast]
      exact ⟨some ⟨g, 0, none⟩, 32, by rw [makeB_len _ _ (by omega)]; rfl, hrow.rd, hb⟩
end Go.Proofs.YtmhlnbbnanehiaaDoor
/- The contracts of the reference's Name, NameBytes and ReadName. -/
namespace Go.Proofs.YtmhlnbbnanehiaaDoor
open Go.RowKit

theorem isName_bad (s : Bytes) (k : Nat) (hk : k < s.length) (h : notLower s[k] = true) : isName s = false := by
  unfold isName
  rw [List.any_eq_true.2 ⟨s[k], List.getElem_mem hk, h⟩]
  simp
theorem idxOf_at (l : Bytes) (k : Nat) (hk : k ≤ l.length) (h : ∀ x ∈ l.take k, nonZero x = true) (he : k = l.length ∨ ∃ h' : k < l.length, l[k] = 0) : l.idxOf 0 = k := by
  have hn : (0 : UInt8) ∉ l.take k := fun h0 => by have := h 0 h0; simp [nonZero] at this
  rcases he with rfl | ⟨h', hz⟩
  · rw [List.take_length] at hn
    exact List.idxOf_eq_length hn
  · have := idxB_at l 0 k h' hn hz
    have hm : (0 : UInt8) ∈ l := by rw [← hz]; exact List.getElem_mem h'
    unfold idxB at this
    rw [if_pos hm] at this
    omega
end Go.Proofs.YtmhlnbbnanehiaaDoor
/- The reference on images: Image, Handle, Zero, RootAt, Entry, Wipe. -/
namespace Go.Proofs.YtmhlnbbnanehiaaDoor
open Go.RowKit

theorem zeroE_at (l : Bytes) (j : Nat) (hj : j < l.length) (h : nonZero l[j] = true) : zeroE l = false := by
  unfold zeroE
  rw [Bool.not_eq_false', List.any_eq_true]
  exact ⟨l[j], List.getElem_mem hj, h⟩
theorem zeroE_none (l : Bytes) (h : ∀ x ∈ l, nonZero x = false) : zeroE l = true := by
  unfold zeroE
  rw [Bool.not_eq_true', List.any_eq_false]
  intro x hx; rw [h x hx]; simp
theorem hd_get (r : Bytes) (h : 0 < r.length) : r[0] = rHd r := by
  cases r with
  | nil => simp at h
  | cons x y => rfl
theorem fourAt_new (w : World) (f : Obj) (a b c d : Int) (t : TypeId) : FourAt ((w.alloc f).alloc (.cells #[.int .i64 a, .int .i64 b, .int .i64 c, .int .i64 d] t)) (w.heap.size + 1) a b c d := by
  have h := heap_alloc_new (w.alloc f) (.cells #[.int .i64 a, .int .i64 b, .int .i64 c, .int .i64 d] t)
  rw [show (w.alloc f).heap.size = w.heap.size + 1 by simp] at h
  unfold FourAt
  simp only [World.cell?]
  rw [h]
  exact ⟨rfl, rfl, rfl, rfl⟩
end Go.Proofs.YtmhlnbbnanehiaaDoor
/- The reference on images: copied, Wipe. -/
namespace Go.Proofs.YtmhlnbbnanehiaaDoor
open Go.RowKit

set_option maxRecDepth 100000 in
theorem refCopied_ok (p off n c : Nat) (l : Bytes) (w : World) (hn : l.length = n) (h1 : 1 ≤ n) (hl : n ≤ 140737488351232) (hr : Rd w (some ⟨p, off, none⟩) l) :
    Calls Tryd.prog 71 #[.slice (some ⟨p, off, none⟩) n c] w fun e w' => ∃ g cap, e = .returned (.slice (some ⟨g, 0, none⟩) n cap) ∧ w.heap.size ≤ g ∧ n ≤ cap ∧ Row w' 5 g cap l ∧ Below w.heap.size w w' := by
  obtain ⟨i0, hi0, hz0, hz1, hz2⟩ := info_parts byte_info
  go_enter Tryd.func71, Tryd.ntmps71
  go_wp2_with (at_builtin; refine wpList_append_own _ rfl (.tmp 4) (.tmp 5) _ rfl w.heap.size 5 i0 _ 1 1 Tryd.underlying22 hi0 hz0 hz1 hz2 rfl (by decide) (.slice none 0 0) 0 [] rfl (World.ownsRow_nil _ _ _ _) ⟨p, off, none⟩ n c (l.map bv) rfl (by simp; omega) hr.cells one_bv (by simp only [maxLen]; omega) (by omega) (Nat.le_refl _) ?_; intro v1 w1 hown1 hg1 hnn1)
  have hb1 : Below w.heap.size w w1 := (Below.refl _ _).grown hg1 (Nat.le_refl _) (fun k hk => by simp [Value.ownBlock] at hk)
  have hO : Own w1 w.heap.size 5 v1 l := by unfold Own; simpa [hn] using hown1
  have hne : v1 ≠ .slice none 0 0 := fun h => by
    subst h
    rcases hO.2 with ⟨_, h0⟩ | ⟨g, cap, cur, h, _⟩
    · omega
    · cases h
  obtain ⟨g, cap, hv, hbg, hrow⟩ := Row.of_own hO hne
  rw [hn] at hv
  subst hv
  have hcap := hrow.le.1
  clear hO hne hown1 hg1 hnn1
  go_ret
  exact ⟨g, cap, rfl, hbg, by omega, hrow, hb1⟩
end Go.Proofs.YtmhlnbbnanehiaaDoor
/- The reference's device in memory: what lies where; step, Fail. -/
namespace Go.Proofs.YtmhlnbbnanehiaaDoor
open Go.RowKit Go.Maps Go.ChangeMaps

/-- a slice of one's own in which one cell is set -/
theorem own_set {w : World} {base : Nat} {e : TypeId} {size g n cap : Nat} {xs : List Value} (h : w.ownsRow base e size (.slice (some ⟨g, 0, none⟩) n cap) n xs) (q : Nat) (u : Value) :
    (w.setCell ⟨g, q, none⟩ u).ownsRow base e size (.slice (some ⟨g, 0, none⟩) n cap) n (xs.set q u) := by
  rcases h.2 with ⟨he, _⟩ | ⟨g', cap', cur, he, hb, hh, hc, hm, hz, ht⟩
  · cases he
  · injection he with he1 he2 he3
    injection he1 with he1
    injection he1 with he1
    subst he1 he3
    refine ⟨by rw [List.length_set]; exact h.1, .inr ⟨g, cap, _, rfl, hb, heap_setK hh u, hc, hm, by simpa using hz, ?_⟩⟩
    rw [Array.toList_setIfInBounds, List.take_set, ht]
/-- lines, as cells: of which sector, what -/
def lnC (O : List Nat) (mb mc : Nat → Nat) : List Value := O.flatMap fun i : Nat => [.int .i64 (i : Int), rowV (mb i) (mc i)]
/-- where it lies -/
structure RLay where
  gs : Nat
  cs : Nat
  vl : Value
  sb : Nat → Nat
  sc : Nat → Nat
  mb : Nat → Nat
  mc : Nat → Nat
structure RdIs (w : World) (F : Nat → Prop) (d : Nat) (D : Dv) (Y : RLay) : Prop where
  hd : w.heap[d]? = some (.cells #[.slice (some ⟨Y.gs, 0, none⟩) D.S.length Y.cs, Y.vl, .int .i64 D.left, .bool D.down] 59 (0, 0))
  sec : ∃ cur, w.heap[Y.gs]? = some (.cells cur 22 (0, 0)) ∧ cur.size = Y.cs ∧ ∀ i, i < D.S.length → cur[i]? = some (rowV (Y.sb i) (Y.sc i))
  cap : D.S.length ≤ Y.cs
  row : ∀ i (h : i < D.S.length), Row w 5 (Y.sb i) (Y.sc i) D.S[i] ∧ D.S[i].length = 32
  lin : w.ownsRow 0 61 2 Y.vl D.O.length (lnC D.O Y.mb Y.mc)
  mrow : ∀ i, i ∈ D.O → Row w 5 (Y.mb i) (Y.mc i) (D.M i) ∧ (D.M i).length = 32 ∧ i < D.S.length
  nd : D.O.Nodup
  n0 : 1 ≤ D.S.length
  n1 : D.S.length ≤ 300
  l0 : -1 ≤ D.left
  l1 : D.left ≤ 9223372036854775807
  fd : F d
  fs : F Y.gs
  fo : ∀ q, Y.vl.ownBlock = some q → F q
  fr : ∀ i, i < D.S.length → F (Y.sb i)
  fb : ∀ i, i ∈ D.O → F (Y.mb i)
  flt : ∀ k, F k → k < w.heap.size
section
variable {w w' : World} {F F' : Nat → Prop} {d : Nat} {D : Dv} {Y : RLay}
theorem RdIs.same (h : RdIs w F d D Y) (hb : ∀ k, F k → w'.heap[k]? = w.heap[k]?) (hF : ∀ k, F k → F' k) (hl : ∀ k, F' k → k < w'.heap.size) : RdIs w' F' d D Y where
  hd := (hb _ h.fd).trans h.hd
  sec := by obtain ⟨cur, h0, h1⟩ := h.sec; exact ⟨cur, (hb _ h.fs).trans h0, h1⟩
  cap := h.cap
  row := fun i hi => ⟨(h.row i hi).1.block (hb _ (h.fr i hi)), (h.row i hi).2⟩
  lin := ownsRow_block h.lin fun q hq => hb q (h.fo q hq)
  mrow := fun i hi => ⟨(h.mrow i hi).1.block (hb _ (h.fb i hi)), (h.mrow i hi).2⟩
  nd := h.nd
  n0 := h.n0
  n1 := h.n1
  l0 := h.l0
  l1 := h.l1
  fd := hF _ h.fd
  fs := hF _ h.fs
  fo := fun q hq => hF q (h.fo q hq)
  fr := fun i hi => hF _ (h.fr i hi)
  fb := fun i hi => hF _ (h.fb i hi)
  flt := hl
theorem RdIs.below (h : RdIs w F d D Y) (hb : Below w.heap.size w w') : RdIs w' F d D Y :=
  h.same (fun k hk => hb.block k (h.flt k hk)) (fun _ hk => hk) (fun k hk => Nat.lt_of_lt_of_le (h.flt k hk) hb.size)
theorem RdIs.keep {G : Nat → Prop} (h : RdIs w F d D Y) (hk : Keep G w w') (hG : ∀ k, F k → ¬ G k) : RdIs w' F d D Y :=
  h.same (fun k hf => hk.block k (h.flt k hf) (hG k hf)) (fun _ hk => hk) (fun k hf => Nat.lt_of_lt_of_le (h.flt k hf) hk.size)
/-- its own block turned: other lines, other steps left, up or down -/
theorem RdIs.head (h : RdIs w F d D Y) (l' : Int) (b' : Bool)
    (hh : w'.heap[d]? = some (.cells #[.slice (some ⟨Y.gs, 0, none⟩) D.S.length Y.cs, Y.vl, .int .i64 l', .bool b'] 59 (0, 0)))
    (hb : ∀ k, F k → k ≠ d → w'.heap[k]? = w.heap[k]?) (hs : w.heap.size ≤ w'.heap.size) (h0 : -1 ≤ l') (h1 : l' ≤ 9223372036854775807) : RdIs w' F d { D with left := l', down := b' } Y where
  hd := hh
  sec := by
    obtain ⟨cur, h0, h1⟩ := h.sec
    exact ⟨cur, (hb _ h.fs (DevIs.ne_cells h.hd h0 (by decide)).symm).trans h0, h1⟩
  cap := h.cap
  row := fun i hi => ⟨(h.row i hi).1.block (hb _ (h.fr i hi) (DevIs.ne_row h.hd (h.row i hi).1 (by decide)).symm), (h.row i hi).2⟩
  lin := ownsRow_block h.lin fun q hq => hb q (h.fo q hq) (fun e => DevIs.ne_own h.hd h.lin (by decide) (by rw [hq, e]))
  mrow := fun i hi => ⟨(h.mrow i hi).1.block (hb _ (h.fb i hi) (DevIs.ne_row h.hd (h.mrow i hi).1 (by decide)).symm), (h.mrow i hi).2⟩
  nd := h.nd
  n0 := h.n0
  n1 := h.n1
  l0 := h0
  l1 := h1
  fd := h.fd
  fs := h.fs
  fo := h.fo
  fr := h.fr
  fb := h.fb
  flt := fun k hk => Nat.lt_of_lt_of_le (h.flt k hk) hs
theorem RdIs.ord_le (h : RdIs w F d D Y) : D.O.length ≤ 300 :=
  Nat.le_trans (nodup_le D.S.length D.O h.nd (fun x hx => (h.mrow x hx).2.2)) h.n1
theorem RdIs.set23 (h : RdIs w F d D Y) (l' : Int) (h0 : -1 ≤ l') (h1 : l' ≤ 9223372036854775807) (b : Bool) :
    RdIs ((w.setCell ⟨d, 3, none⟩ (.bool b)).setCell ⟨d, 2, none⟩ (.int .i64 l')) F d { D with left := l', down := b } Y ∧ Keep F w ((w.setCell ⟨d, 3, none⟩ (.bool b)).setCell ⟨d, 2, none⟩ (.int .i64 l')) ∧
      ((w.setCell ⟨d, 3, none⟩ (.bool b)).setCell ⟨d, 2, none⟩ (.int .i64 l')).heap.size = w.heap.size := by
  refine ⟨h.head l' b (heap_set5 (heap_set5 h.hd _) _) (fun k _ hk => ?_) (by simp) h0 h1, ((Keep.refl F w).setCell (.inl h.fd) _).setCell (.inl h.fd) _, by simp⟩
  exact (Below.heap_setCell _ _ _ k hk).trans (Below.heap_setCell _ _ _ k hk)
theorem RdIs.set2 (h : RdIs w F d D Y) (l' : Int) (h0 : -1 ≤ l') (h1 : l' ≤ 9223372036854775807) :
    RdIs (w.setCell ⟨d, 2, none⟩ (.int .i64 l')) F d { D with left := l' } Y ∧ Keep F w (w.setCell ⟨d, 2, none⟩ (.int .i64 l')) ∧ (w.setCell ⟨d, 2, none⟩ (.int .i64 l')).heap.size = w.heap.size :=
  ⟨h.head l' D.down (heap_set5 h.hd _) (fun k _ hk => Below.heap_setCell _ _ _ k hk) (by simp) h0 h1, (Keep.refl F w).setCell (.inl h.fd) _, by simp⟩
theorem fourF {w : World} {p : Nat} {a b c d : Value} {t : TypeId} (h : w.heap[p]? = some (.cells #[a, b, c, d] t (0, 0))) :
    (w.cell? ⟨p, 0, none⟩ = some a ∧ w.cell? ⟨p, 1, none⟩ = some b ∧ w.cell? ⟨p, 2, none⟩ = some c ∧ w.cell? ⟨p, 3, none⟩ = some d) ∧ ∀ k, w.frozen? ⟨p, k, none⟩ = false :=
  ⟨⟨by rw [cell_of_row w p 0 _ _ _ h]; rfl, by rw [cell_of_row w p 1 _ _ _ h]; rfl, by rw [cell_of_row w p 2 _ _ _ h]; rfl, by rw [cell_of_row w p 3 _ _ _ h]; rfl⟩, fun k => frozen_of_row w p k _ _ h⟩
theorem rstep_any (h : RdIs w F d D Y) (hdn : D.down = false) :
    Calls Tryd.prog 72 #[.pointer (some ⟨d, 0, none⟩)] w fun e w' => e = .returned (.bool (!(D.left == 0))) ∧ RdIs w' F d (stepD D) Y ∧ Keep F w w' ∧ w'.heap.size = w.heap.size := by
  obtain ⟨⟨c0, c1, c2, c3⟩, ff⟩ := fourF h.hd
  have f2 := ff 2
  have f3 := ff 3
  have l0 := h.l0
  have l1 := h.l1
  rw [hdn] at c3
  have s1 : IntKind.i64.wrap (D.left - 1) = D.left - 1 := IntWalk.i64_in _ (by omega)
  have HH := Hidden.mk h
  have HDN := Hidden.mk hdn
  clear h ff hdn
  by_cases q0 : D.left = 0
  · have t0 : (D.left == 0) = true := by simp [q0]
    have t1 : decide (0 ≤ D.left) = true := by simp [q0]
    have hm := Hidden.mk (HH.out.set23 (max (-1) (D.left - 1)) (by omega) (by omega) (D.left == 0))
    rw [show max (-1) (D.left - 1) = D.left - 1 from by omega, t0] at hm
    have HS : Hidden (stepD D = { D with left := D.left - 1, down := true }) := ⟨by unfold stepD; rw [show max (-1) (D.left - 1) = D.left - 1 from by omega, t0]⟩
    rw [HS.out]
    clear q0 HH HDN HS
    generalize D.left = L at *
    go_enter Tryd.func72, Tryd.ntmps72
    go_wp2_with fail
    go_ret
    exact ⟨by rw [t0]; rfl, hm.out⟩
  · have t0 : (D.left == 0) = false := by simpa using q0
    by_cases q1 : 0 ≤ D.left
    · have t1 : decide (0 ≤ D.left) = true := by simpa using q1
      have hm := Hidden.mk (HH.out.set2 (D.left - 1) (by omega) (by omega))
      have HS : Hidden (stepD D = { D with left := D.left - 1 }) := ⟨by unfold stepD; rw [show max (-1) (D.left - 1) = D.left - 1 from by omega, t0, ← HDN.out]⟩
      rw [HS.out]
      clear q0 q1 HH HDN HS
      generalize D.left = L at *
      go_enter Tryd.func72, Tryd.ntmps72
      go_wp2_with fail
      go_ret
      exact ⟨by rw [t0]; rfl, hm.out⟩
    · have t1 : decide (0 ≤ D.left) = false := by simpa using q1
      have HS : Hidden (stepD D = D) := ⟨by unfold stepD; rw [show max (-1) (D.left - 1) = D.left from by omega, t0, ← HDN.out]⟩
      rw [HS.out]
      clear q0 q1 HDN HS
      generalize hL : D.left = L at *
      clear hL
      go_enter Tryd.func72, Tryd.ntmps72
      go_wp2_with fail
      go_ret
      exact ⟨by rw [t0]; rfl, HH.out, Keep.refl _ _, rfl⟩
theorem rfail_any (h : RdIs w F d D Y) (n : Int) (hn : n ≤ 9223372036854775807) :
    Calls Tryd.prog 28 #[.pointer (some ⟨d, 0, none⟩), .int .i64 n] w fun e w' => e = .returned (.tuple #[]) ∧ RdIs w' F d { D with left := max (-1) n } Y ∧ Keep F w w' ∧ w'.heap.size = w.heap.size := by
  obtain ⟨⟨c0, c1, c2, c3⟩, ff⟩ := fourF h.hd
  have f2 := ff 2
  have hm := Hidden.mk (h.set2 (max (-1) n) (by omega) (by omega))
  clear h ff
  by_cases q0 : n < 0
  · have t0 : decide (n < 0) = true := by simpa using q0
    rw [show max (-1) n = -1 from by omega] at *
    clear q0
    go_enter Tryd.func28, Tryd.ntmps28
    go_wp2_with fail
    go_end0
    exact ⟨rfl, hm.out⟩
  · have t0 : decide (n < 0) = false := by simpa using q0
    rw [show max (-1) n = n from by omega] at *
    clear q0
    go_enter Tryd.func28, Tryd.ntmps28
    go_wp2_with fail
    go_end0
    exact ⟨rfl, hm.out⟩
end
end Go.Proofs.YtmhlnbbnanehiaaDoor
/- Package view: Write where there are bytes to lay. -/
namespace Go.Proofs.YtmhlnbbnanehiaaDoor
open Go.RowKit Go.Maps Go.ChangeMaps

/-- a set with k more numbers, from lo on -/
def addS (S : Nat → Bool) (lo k q : Nat) : Bool := S q || (decide (lo ≤ q) && decide (q < lo + k))
theorem addS_zero (S : Nat → Bool) (lo : Nat) : addS S lo 0 = S := by
  funext q; unfold addS
  have : (decide (lo ≤ q) && decide (q < lo + 0)) = false := by
    rw [Bool.and_eq_false_iff, decide_eq_false_iff_not, decide_eq_false_iff_not]; omega
  rw [this, Bool.or_false]
theorem addS_succ (S : Nat → Bool) (lo k : Nat) : (fun q => addS S lo k q || (lo + k == q)) = addS S lo (k + 1) := by
  funext q
  unfold addS
  rw [Bool.or_assoc]
  congr 1
  rw [Bool.eq_iff_iff]
  simp only [Bool.or_eq_true, Bool.and_eq_true, decide_eq_true_eq, beq_iff_eq]
  omega
/-- how many numbers below 200 a set has -/
def cntS (S : Nat → Bool) : Nat := ((List.range 200).filter S).length
theorem len_eq_of_mem {a b : List Nat} (ha : a.Nodup) (hb : b.Nodup) (h : ∀ x, x ∈ a ↔ x ∈ b) : a.length = b.length :=
  List.Perm.length_eq ((List.perm_ext_iff_of_nodup ha hb).2 h)
theorem IM.cntS {P : Program} {K : TypeId} {w : World} {b cnt : Nat} {S : Nat → Bool} (h : IM P K natL w b (setF S) cnt) (hK : P.underlying K = some (.int .i64)) (hS : ∀ k, S k = true → k < 200) : cnt = cntS S := by
  obtain ⟨D, hown, hs, hnd, h1, h2⟩ := h.keys hK
  have hl : (intKeys D).length = cnt := by
    obtain ⟨L, hD, _⟩ := hown.entries (Go.Maps.int_keyed hK)
    subst hD
    rw [← hs]; simp [intKeys, Maps.size]
  have hm : ((intKeys D).map Int.toNat).Nodup := by
    refine List.pairwise_map.2 (hnd.imp_of_mem fun {a b} ha hb hne e => hne ?_)
    obtain ⟨x, rfl, _⟩ := h1 a ha
    obtain ⟨y, rfl, _⟩ := h1 b hb
    simp only [Int.toNat_natCast] at e
    rw [e]
  have hsome : ∀ k, (setF S k).isSome = true ↔ S k = true := fun k => by
    unfold setF
    by_cases hk : S k = true
    · rw [if_pos hk]; simp [hk]
    · rw [if_neg hk]; simp [hk]
  have := len_eq_of_mem hm (List.nodup_range.filter S) (fun x => by
    rw [List.mem_map, List.mem_filter, List.mem_range]
    constructor
    · rintro ⟨y, hy, rfl⟩
      obtain ⟨z, rfl, hz⟩ := h1 y hy
      rw [Int.toNat_natCast]
      exact ⟨hS z ((hsome z).1 hz), (hsome z).1 hz⟩
    · rintro ⟨-, hx⟩
      exact ⟨(x : Int), h2 x ((hsome x).2 hx), by simp⟩)
  rw [List.length_map, hl] at this
  exact this
theorem cntS_mono {S T : Nat → Bool} (h : ∀ k, S k = true → T k = true) : cntS S ≤ cntS T := by
  unfold cntS
  rw [← List.countP_eq_length_filter, ← List.countP_eq_length_filter]
  exact List.countP_mono_left fun x _ hx => h x hx
theorem cntS_le (S : Nat → Bool) : cntS S ≤ 200 := by
  unfold cntS
  refine Nat.le_trans (List.length_filter_le _ _) ?_
  simp
/-- the dirty pages, once bytes were written at x, n of them -/
def drtS (S : Nat → Bool) (x n : Nat) : Nat → Bool := addS S (x / 32) ((x + n - 1) / 32 - x / 32 + 1)
theorem drtS_iff {S : Nat → Bool} {x n q : Nat} : drtS S x n q = true ↔ S q = true ∨ (x / 32 ≤ q ∧ q ≤ (x + n - 1) / 32 ∧ (x / 32 ≤ (x + n - 1) / 32)) ∨ (q = x / 32) := by
  unfold drtS addS
  rw [Bool.or_eq_true, Bool.and_eq_true, decide_eq_true_eq, decide_eq_true_eq]
  refine or_congr Iff.rfl ?_
  omega
theorem drtS_lt {S : Nat → Bool} {x n : Nat} (hS : ∀ k, S k = true → k < 200) (h : x + n ≤ 6400) (hn : 0 < n) : ∀ k, drtS S x n k = true → k < 200 := fun k hk => by
  rcases drtS_iff.1 hk with h1 | h1 | h1
  · exact hS k h1
  · omega
  · omega
section
variable {w : World} {G : Nat → Prop} {v p : Nat} {K N : Bytes} {S : Nat → Bool}
/-- what Write leaves -/
def VwW (w : World) (G : Nat → Prop) (v p : Nat) (K N : Bytes) (S : Nat → Bool) (x : Nat) (b : Bytes) (e : Ending) (w' : World) : Prop :=
  (23 < cntS (drtS S x b.length) ∧ e = .returned (.iface 103 (.int .i64 4)) ∧ Below w.heap.size w w') ∨
  (cntS (drtS S x b.length) ≤ 23 ∧ e = .returned .nilIface ∧ ∃ G', VwH w' G' v p K (layB N x b) (setF (drtS S x b.length)) (cntS (drtS S x b.length)) ∧ Keep G w w' ∧ ∀ q, G' q → G q ∨ w.heap.size ≤ q)
set_option maxRecDepth 100000 in
theorem vwrite_big (h : VwH w G v p K N (setF S) (cntS S)) (hS : ∀ k, S k = true → k < 200) (hN : N.length ≤ 6400) (x n c : Nat) (A : Option Addr) (b : Bytes) (hb : b.length = n) (hn : 0 < n) (hx : x + n ≤ N.length) (hr : Rd w A b) (hA : ∀ ad, A = some ad → ¬ G ad.block) :
    Calls Tryd.prog 13 #[.pointer (some ⟨v, 0, none⟩), .int .i64 (x : Int), .slice A n c] w (VwW w G v p K N S x b) := by
  have hv : vhas N x n = true := decide_eq_true ⟨by omega, by omega, by omega⟩
  have HH := Hidden.mk (vhas_any h hN x n)
  rw [hv] at HH
  have HV := Hidden.mk h
  obtain ⟨gk, ck, gn, cn, bm, h0, hrk, hrn, hne, him, hG⟩ := h
  have HC := Hidden.mk (mapClone_call him)
  obtain ⟨c0, c1, c2, c3⟩ := four h0
  have hcn := hrn.le.1
  have d0 : ((n : Int) == 0) = false := by simp; omega
  have d0' : (n == 0) = false := by simp; omega
  have s1 : IntKind.i64.wrap ((x : Int) + n) = (x : Int) + n := IntWalk.i64_in _ (by omega)
  have s2 : IntKind.i64.wrap ((x : Int) + n - 1) = (x : Int) + n - 1 := IntWalk.i64_in _ (by omega)
  have HD : Hidden (drtS S x b.length = addS S (x / 32) ((x + n - 1) / 32 - x / 32 + 1)) := ⟨by rw [hb]; rfl⟩
  have HLT := Hidden.mk (drtS_lt (x := x) (n := n) hS (by omega) hn)
  rw [← hb, HD.out] at HLT
  have HB := Hidden.mk hb
  have HRB := Hidden.mk hr
  have HAG := Hidden.mk hA
  have H0 := Hidden.mk h0
  have HRK := Hidden.mk hrk
  have HRN := Hidden.mk hrn
  have HGG := Hidden.mk hG
  have q1 : (x : Int) / 32 = ((x / 32 : Nat) : Int) := by omega
  have q2 : ((x : Int) + n - 1) / 32 = (((x + n - 1) / 32 : Nat) : Int) := by omega
  have hlo : x / 32 ≤ (x + n - 1) / 32 := by omega
  have hhi : (x + n - 1) / 32 < 200 := by omega
  generalize x / 32 = lo at *
  generalize (x + n - 1) / 32 = hi at *
  clear h0 hrk hrn him hG hv hr hA hb hS
  go_enter Tryd.func13, Tryd.ntmps13
  go_wp2_with fail
  refine HH.out.mono ?_
  rintro e w' ⟨rfl, rfl⟩
  go_wp2_with fail
  refine HC.out.mono ?_
  rintro e w1 ⟨rfl, him1, hb1⟩
  have HS1 : Hidden (DpSt w w1 w.heap.size (addS S lo 0)) := ⟨⟨⟨cntS S, by rw [addS_zero]; exact him1, cntS_le S⟩, hb1, Nat.le_refl _⟩⟩
  clear him1 hb1 HC HH
  go_wp2_with fail
  go_loopg [8] (hi - lo + 1) (fun r i wr => ∃ k : Nat, k ≤ hi - lo + 1 ∧ r = hi - lo + 1 - k ∧ i = .int .i64 ((lo : Int) + (k : Int)) ∧ Hidden (DpSt w wr w.heap.size (addS S lo k)))
  case atStart => exact ⟨0, by omega, rfl, by go_num, HS1⟩
  case round =>
    obtain ⟨k, hk, rfl, rfl, hst⟩ := hrel
    by_cases hlt : k < hi - lo + 1
    · have t0 : decide ((lo : Int) + (k : Int) ≤ (hi : Int)) = true := by simp; omega
      have s4 : IntKind.i64.wrap ((lo : Int) + (k : Int) + 1) = (lo : Int) + (k : Int) + 1 := IntWalk.i64_in _ (by omega)
      obtain ⟨cnt2, him2, hc2⟩ := hst.out.im
      obtain ⟨W4, hrun, him4, hg4, hs4⟩ := him2.store int_keyed natL_inj (T := 112) Tryd.underlying112 (by simp only [maxLen]; omega) (int_key (n := lo + k) (by omega)) (.bool true)
      rw [setF_upd, addS_succ] at him4
      have hle := him4.size_le Tryd.underlying3 200 (fun q hq' => by
        unfold setF at hq'
        by_cases hb : addS S lo (k + 1) q = true
        · refine HLT.out q ?_
          unfold addS at hb ⊢
          rw [Bool.or_eq_true, Bool.and_eq_true, decide_eq_true_eq, decide_eq_true_eq] at hb ⊢
          rcases hb with hb | hb
          · exact .inl hb
          · exact .inr (by omega)
        · rw [if_neg hb] at hq'; cases hq')
      have hB4 : Below w.heap.size w W4 := hst.out.bel.grown hg4 hst.out.bel.size (fun q hq => Nat.le_of_eq (Option.some.inj hq))
      have HN : Hidden (DpSt w W4 w.heap.size (addS S lo (k + 1))) := ⟨⟨⟨_, him4, hle⟩, hB4, Nat.le_refl _⟩⟩
      rw [Int.natCast_add] at hrun
      clear hst him2 him4 hle hB4 hg4 hs4 hc2
      go_wp2_with fail
      go_roundg (hi - lo + 1 - (k + 1))
      case measure => omega
      case rel => exact ⟨k + 1, by omega, rfl, by go_num, HN⟩
    · obtain rfl : k = hi - lo + 1 := by omega
      have t0 : decide ((lo : Int) + ((hi - lo + 1 : Nat) : Int) ≤ (hi : Int)) = false := by simp; omega
      obtain ⟨cnt, him, hc⟩ := hst.out.im
      obtain rfl := him.cntS Tryd.underlying3 HLT.out
      rw [← HD.out] at him hc
      have hlen := fun ty => him.len_ (T := 112) Tryd.underlying112 ty
      have HIM := Hidden.mk him
      have HBEL := Hidden.mk hst.out.bel
      clear hst him HS1
      by_cases hc23 : 23 < cntS (drtS S x b.length)
      · have t1 : decide (23 < ((cntS (drtS S x b.length) : Nat) : Int)) = true := by simp; omega
        have t2 : decide (23 < cntS (drtS S x b.length)) = true := by simpa using hc23
        have HC23 := Hidden.mk hc23
        clear hc23
        go_wp2_with fail
        go_ret
        exact .inl ⟨HC23.out, rfl, HBEL.out⟩
      · have t1 : decide (23 < ((cntS (drtS S x b.length) : Nat) : Int)) = false := by simp; omega
        have t2 : decide (23 < cntS (drtS S x b.length)) = false := by simpa using hc23
        have HC23 := Hidden.mk (Nat.not_lt.1 hc23)
        clear hc23
        have hv0 := (HBEL.out.block _ (Array.getElem?_eq_some_iff.1 H0.out).1).trans H0.out
        obtain ⟨⟨y0, y1, y2, y3⟩, yf⟩ := fourF hv0
        have yf3 := yf 3
        have hgnv : gn ≠ v := (DevIs.ne_row H0.out HRN.out (by decide)).symm
        have hgkv : gk ≠ v := (DevIs.ne_row H0.out HRK.out (by decide)).symm
        have hmv : w.heap.size ≠ v := by have := (Array.getElem?_eq_some_iff.1 H0.out).1; omega
        have hw1 := heap_setK (k := 3) hv0 (.map (some w.heap.size))
        have z2 : (wr.setCell ⟨v, 3, none⟩ (.map (some w.heap.size))).cell? ⟨v, 2, none⟩ = some (.slice (some ⟨gn, 0, none⟩) N.length cn) := by rw [cell_of_row _ v 2 _ _ _ hw1]; rfl
        have hrn1 := (HRN.out.below HBEL.out HRN.out.lt).block (w' := wr.setCell ⟨v, 3, none⟩ (.map (some w.heap.size))) (Below.heap_setCell _ _ _ _ hgnv)
        have hrk1 := (HRK.out.below HBEL.out HRK.out.lt).block (w' := wr.setCell ⟨v, 3, none⟩ (.map (some w.heap.size))) (Below.heap_setCell _ _ _ _ hgkv)
        have him1 := HIM.out.block (w' := wr.setCell ⟨v, 3, none⟩ (.map (some w.heap.size))) (Below.heap_setCell _ _ _ _ hmv)
        have hkp : Keep G w (wr.setCell ⟨v, 3, none⟩ (.map (some w.heap.size))) := Keep.setCell (Keep.of_below HBEL.out) (.inl ((HGG.out v).2 (.inl rfl))) _
        have hrb : Rd (wr.setCell ⟨v, 3, none⟩ (.map (some w.heap.size))) A b := hkp.rd HRB.out HAG.out
        obtain ⟨cur, hcur, -, -, hcs, -⟩ := id hrn1
        have htl := fun W => run_tailA (some ⟨gn, 0, none⟩) N.length cn x (by omega) W
        rw [if_neg (show ¬ cn = x by omega), Option.map_some, Addr.add_lit, Nat.zero_add] at htl
        have hcp := fun ty => run_copy_rd (wr.setCell ⟨v, 3, none⟩ (.map (some w.heap.size))) gn x (N.length - x) (cn - x) n c n A b cur _ hcur HB.out hrb (Nat.min_eq_left (by omega)).symm (by omega) ty
        have hset := hrn1.set_ x b (by rw [HB.out]; omega) cur hcur
        have hlay : splice N x b = layB N x b := by unfold splice layB; rw [List.append_assoc]
        rw [hlay] at hset
        rw [List.take_of_length_le (show b.length ≤ n by rw [HB.out]; exact Nat.le_refl _)] at hcp
        have hgs := grownBy_setRow (wr.setCell ⟨v, 3, none⟩ (.map (some w.heap.size))) gn (setB cur x (b.map bv))
        have hoth : ∀ q, q ≠ gn → ((wr.setCell ⟨v, 3, none⟩ (.map (some w.heap.size))).setRow gn (setB cur x (b.map bv))).heap[q]? = (wr.setCell ⟨v, 3, none⟩ (.map (some w.heap.size))).heap[q]? := fun q hq => by
          simp [World.setRow, Array.getElem?_modify, hq.symm]
        have hmn : w.heap.size ≠ gn := by have := HRN.out.lt; omega
        have hll : (layB N x b).length = N.length := layB_len (by rw [HB.out]; exact hx)
        have HFIN : Hidden (∃ G', VwH ((wr.setCell ⟨v, 3, none⟩ (.map (some w.heap.size))).setRow gn (setB cur x (b.map bv))) G' v p K (layB N x b) (setF (drtS S x b.length)) (cntS (drtS S x b.length)) ∧ Keep G w ((wr.setCell ⟨v, 3, none⟩ (.map (some w.heap.size))).setRow gn (setB cur x (b.map bv))) ∧ ∀ q, G' q → G q ∨ w.heap.size ≤ q) := ⟨by
          refine ⟨fun q => q = v ∨ q = gk ∨ q = gn ∨ q = w.heap.size, ⟨gk, ck, gn, cn, w.heap.size, ?_, hrk1.block (hoth _ hne), hset, hne, him1.block (hoth _ hmn), fun q => Iff.rfl⟩, ?_, fun q hq => ?_⟩
          · rw [hoth v hgnv.symm, hw1, hll]; rfl
          · refine hkp.trans (F' := fun q => q = gn) ⟨hgs.os, hgs.tape, hgs.output, hgs.size, fun q hq hn => hoth q hn⟩ (fun q hq => .inl (hq ▸ (HGG.out gn).2 (.inr (.inr (.inl rfl)))))
          · rcases hq with rfl | rfl | rfl | rfl
            · exact .inl ((HGG.out _).2 (.inl rfl))
            · exact .inl ((HGG.out _).2 (.inr (.inl rfl)))
            · exact .inl ((HGG.out _).2 (.inr (.inr (.inl rfl))))
            · exact .inr (Nat.le_refl _)⟩
        clear hv0 y0 y1 y2 yf hw1 hrn1 hrk1 him1 hkp hrb hcur hset hlay hgs hoth hll hcs hgnv hgkv hmv hmn H0 HRK HRN HIM HGG
        go_wp2_with fail
        go_ret
        exact .inr ⟨HC23.out, rfl, HFIN.out⟩
end
end Go.Proofs.YtmhlnbbnanehiaaDoor
/- Package view: Write of whatever, in one form. -/
namespace Go.Proofs.YtmhlnbbnanehiaaDoor
open Go.RowKit Go.Maps Go.ChangeMaps

/-- what Write says; the bytes behind it; the dirty pages -/
def wrVE (N : Bytes) (S : Nat → Bool) (x : Int) (b : Bytes) : Nat :=
  if vhas N x b.length = false then 1 else if b.length = 0 then 0 else if 23 < cntS (drtS S x.toNat b.length) then 4 else 0
def wrVN (N : Bytes) (S : Nat → Bool) (x : Int) (b : Bytes) : Bytes := if wrVE N S x b = 0 ∧ b.length ≠ 0 then layB N x.toNat b else N
def wrVS (N : Bytes) (S : Nat → Bool) (x : Int) (b : Bytes) : Nat → Bool := if wrVE N S x b = 0 ∧ b.length ≠ 0 then drtS S x.toNat b.length else S
theorem vhas_nat {N : Bytes} {x : Int} {n : Nat} (h : vhas N x n = true) : 0 ≤ x ∧ x.toNat + n ≤ N.length := by
  have := of_decide_eq_true (show decide (0 ≤ x ∧ 0 ≤ (n : Int) ∧ x + n ≤ N.length) = true from h)
  omega
section
variable {w : World} {G : Nat → Prop} {v p : Nat} {K N : Bytes} {S : Nat → Bool}
theorem vwrite_any (h : VwH w G v p K N (setF S) (cntS S)) (hS : ∀ k, S k = true → k < 200) (hN : N.length ≤ 6400) (x : Int) (n c : Nat) (A : Option Addr) (b : Bytes) (hb : b.length = n) (hr : Rd w A b) (hA : 0 < n → ∀ ad, A = some ad → ¬ G ad.block) :
    Calls Tryd.prog 13 #[.pointer (some ⟨v, 0, none⟩), .int .i64 x, .slice A n c] w fun e w' => e = .returned (errV (wrVE N S x b)) ∧
      ∃ G', VwH w' G' v p K (wrVN N S x b) (setF (wrVS N S x b)) (cntS (wrVS N S x b)) ∧ Keep G w w' ∧ (∀ q, G' q → G q ∨ w.heap.size ≤ q) ∧ (∀ k, wrVS N S x b k = true → k < 200) ∧ (wrVN N S x b).length = N.length := by
  subst hb
  cases hv : vhas N x b.length with
  | false =>
    have e : wrVE N S x b = 1 := by unfold wrVE; rw [if_pos hv]
    refine (vwrite_e1 h hN x A b.length c hv).mono ?_
    rintro e' w' ⟨rfl, rfl⟩
    unfold wrVN wrVS
    rw [e, if_neg (fun h => absurd h.1 (by decide)), if_neg (fun h => absurd h.1 (by decide))]
    exact ⟨rfl, G, h, Keep.refl _ _, fun q hq => .inl hq, hS, rfl⟩
  | true =>
    obtain ⟨h0, h1⟩ := vhas_nat hv
    obtain ⟨x, rfl⟩ := Int.eq_ofNat_of_zero_le h0
    rw [Int.toNat_natCast] at h1
    by_cases hb0 : b.length = 0
    · have e : wrVE N S x b = 0 := by unfold wrVE; rw [if_neg (by rw [hv]; decide), if_pos hb0]
      rw [hb0] at hv ⊢
      refine (vwrite_none h hN x A c hv).mono ?_
      rintro e' w' ⟨rfl, rfl⟩
      unfold wrVN wrVS
      rw [e, if_neg (fun h => h.2 hb0), if_neg (fun h => h.2 hb0)]
      exact ⟨rfl, G, h, Keep.refl _ _, fun q hq => .inl hq, hS, rfl⟩
    · refine (vwrite_big h hS hN x b.length c A b rfl (by omega) h1 hr (hA (by omega))).mono ?_
      rintro e' w' (⟨hc, rfl, hb'⟩ | ⟨hc, rfl, G', hv', hk, hG⟩)
      · have e : wrVE N S x b = 4 := by unfold wrVE; rw [if_neg (by rw [hv]; decide), if_neg hb0, Int.toNat_natCast, if_pos hc]
        unfold wrVN wrVS
        rw [e, if_neg (fun h => absurd h.1 (by decide)), if_neg (fun h => absurd h.1 (by decide))]
        exact ⟨rfl, G, h.below hb', Keep.of_below hb', fun q hq => .inl hq, hS, rfl⟩
      · have e : wrVE N S x b = 0 := by unfold wrVE; rw [if_neg (by rw [hv]; decide), if_neg hb0, Int.toNat_natCast, if_neg (by omega)]
        unfold wrVN wrVS
        rw [e, if_pos ⟨rfl, hb0⟩, if_pos ⟨rfl, hb0⟩, Int.toNat_natCast]
        exact ⟨rfl, G', hv', hk, hG, drtS_lt hS (by omega) (by omega), layB_len h1⟩
end
end Go.Proofs.YtmhlnbbnanehiaaDoor
/- Pages: a commit of pages that are right, while the power stays, says nothing. No program in sight. -/
namespace Go.Proofs.YtmhlnbbnanehiaaDoor
open Go.RowKit

theorem chkL_ok {n : Nat} : ∀ (m : List (Int × Bytes)) (seen : List Int), (∀ x ∈ m, 0 ≤ x.1 ∧ x.1 < n ∧ x.2.length = 32) → (m.map (·.1)).Nodup → (∀ x ∈ m, x.1 ∉ seen) → chkL n seen m = 0
  | [], _, _, _, _ => rfl
  | x :: r, seen, h, hn, hs => by
    obtain ⟨h1, h2, h3⟩ := h x List.mem_cons_self
    unfold chkL
    rw [if_neg (by omega), if_neg (by omega), if_neg (hs x List.mem_cons_self)]
    rw [List.map_cons, List.nodup_cons] at hn
    refine chkL_ok r _ (fun y hy => h y (List.mem_cons_of_mem _ hy)) hn.2 (fun y hy hm => ?_)
    rcases List.mem_append.1 hm with hm | hm
    · exact hs y (List.mem_cons_of_mem _ hy) hm
    · have := List.mem_singleton.1 hm
      exact hn.1 (this ▸ List.mem_map_of_mem hy)
theorem chkP_ok {n : Nat} {m : List (Int × Bytes)} (h : ChkOk n m) : chkP n m = 0 := by
  unfold chkP
  rw [if_neg (by have := h.len; omega)]
  exact chkL_ok m [] h.each h.nd (fun x _ hx => by cases hx)
/-- up, and of so many sectors -/
def UpN (k : Nat) (D : Dv) : Prop := Up D ∧ D.S.length = k
theorem wr_zero {k : Nat} {D : Dv} (h : UpN k D) {i : Int} {b : Bytes} (h0 : 0 ≤ i) (h1 : i < k) (hb : b.length = 32) : (wrD D i b).2 = 0 ∧ UpN k (wrD D i b).1 := by
  have hw : wrD D i b = (stepD (putD D i.toNat b), 0) := by
    unfold wrD
    rw [if_neg (by rw [h.2]; omega), if_neg (by omega), if_neg (by rw [h.1.2]; decide), if_neg (by rw [h.1.1]; decide)]
  refine ⟨by rw [hw], (wrD_stays h.1 i b).1, ?_⟩
  rw [hw]; exact h.2
theorem fl_zero {k : Nat} {D : Dv} (h : UpN k D) : (flD D).2 = 0 ∧ UpN k (flD D).1 := by
  obtain ⟨a, b⟩ := flD_stays h.1
  refine ⟨b, a, ?_⟩
  have e : flD D = (flushD (stepD D), 0) := by
    unfold flD
    rw [if_neg (by rw [h.1.2]; decide), if_neg (by rw [h.1.1]; decide)]
  rw [e]
  show ((List.range _).map _).length = k
  rw [List.length_map, List.length_range]
  exact h.2
theorem run_zero {X : Type} {f : Nat → X → Dv → Dv × Nat} {P : Dv → Prop} {Q : Nat → X → Prop} (hf : ∀ k x D, P D → Q k x → (f k x D).2 = 0 ∧ P (f k x D).1) : ∀ (l : List X) (k : Nat) (D : Dv), P D → (∀ j (hj : j < l.length), Q (k + j) l[j]) → (runE f k l D).2 = 0 ∧ P (runE f k l D).1
  | [], _, _, h, _ => ⟨rfl, h⟩
  | x :: r, k, D, h, hq => by
    rw [runE_cons]
    obtain ⟨h1, h2⟩ := hf k x D h (hq 0 (by simp))
    rw [if_pos h1]
    refine run_zero hf r (k + 1) _ h2 (fun j hj => ?_)
    have := hq (j + 1) (by simpa using hj)
    rw [show k + 1 + j = k + (j + 1) by omega]
    exact this
theorem then_zero {P : Dv → Prop} {a : Dv × Nat} {g : Dv → Dv × Nat} (h : a.2 = 0 ∧ P a.1) (hg : ∀ D, P D → (g D).2 = 0 ∧ P (g D).1) : (andThen a g).2 = 0 ∧ P (andThen a g).1 := by
  unfold andThen
  rw [if_pos h.1]
  exact hg _ h.2
theorem commit_zero {D : Dv} (h : Up D) (st n : Nat) (m : List (Int × Bytes)) (hn : n + 48 ≤ D.S.length) (hc : ChkOk n m) (hst : st < 4294967295) : (commitP st n m D).2 = 0 := by
  unfold commitP
  rw [chkP_ok hc, if_neg (by omega), if_neg (by rw [h.2]; decide)]
  by_cases hm : m.length = 0
  · rw [if_pos hm]
  · rw [if_neg hm, if_neg (by omega)]
    have hl := hc.len
    have h0 : UpN D.S.length D := ⟨h, rfl⟩
    refine (then_zero (P := UpN D.S.length) (then_zero (then_zero (then_zero (then_zero (run_zero (P := UpN D.S.length) (Q := fun (k : Nat) (x : Int × Bytes) => k < 23 ∧ x.2.length = 32) (fun k x D' hD hq => ?_) m 0 D h0 (fun j hj => ⟨by omega, (hc.each _ (List.getElem_mem hj)).2.2⟩)) (fun D' hD => fl_zero hD)) (fun D' hD => ?_)) (fun D' hD => fl_zero hD)) (fun D' hD => run_zero (P := UpN D.S.length) (Q := fun (_ : Nat) (x : Int × Bytes) => 0 ≤ x.1 ∧ x.1 < (n : Int) ∧ x.2.length = 32) (fun k x D'' hD' hq => ?_) m 0 D' hD (fun j hj => hc.each _ (List.getElem_mem hj)))) (fun D' hD => fl_zero hD)).1
    · exact wr_zero hD (by unfold areaP; omega) (by unfold areaP; omega) hq.2
    · exact wr_zero hD (by omega) (by omega) (makeB_len _ _ (by simp [numsB]; omega))
    · exact wr_zero hD' (by omega) (by omega) hq.2.2
end Go.Proofs.YtmhlnbbnanehiaaDoor
