/- Contracts and plain laws, put together: StoreSafeP, StoreSafe0, Open5. -/
import Derived.Test.YtijcclpnkfmpnaaGreatStoreSafeFrameM5
import Derived.Test.YtijcclpnkfmpnaaGreatStoreSafeFrameM1
/- StoreSafe: the plain law: what is kept of a store, wherever the power goes. No program in sight. -/
namespace Go.Proofs.YtijcclpnkfmpnaaGreat
open Go.RowKit Go.Maps Go.ChangeMaps

/-- only the pages that are there count -/
theorem Hold.ext {n st : Nat} {D : Dv} {l : Bytes} {pg pg' : Nat → Bytes} (h : Hold n D st l pg) (e : ∀ i, i < n → pg' i = pg i) : Hold n D st l pg' :=
  { n0 := h.n0, ln := h.ln, mrk := h.mrk, pos := h.pos, l23 := h.l23, inl := h.inl, ar := fun k hk => by rw [e _ (h.inl _ (List.getElem_mem hk))]; exact h.ar k hk, rest := fun i hi hn => by rw [e i hi]; exact h.rest i hi hn, oth := h.oth }
theorem Full.ext {n st : Nat} {D : Dv} {l : Bytes} {pg pg' : Nat → Bytes} (h : Full n D st l pg) (e : ∀ i, i < n → pg' i = pg i) : Full n D st l pg' :=
  ⟨h.hold.ext e, fun i hi => by rw [e i hi]; exact h.all i hi⟩
/-- who says that the power is gone is without it -/
def Lost (r : Dv × Nat) : Prop := r.2 = 9 → r.1.down = true
theorem wrD_lost (D : Dv) (i : Int) (b : Bytes) : Lost (wrD D i b) := by
  unfold Lost wrD
  split
  · intro h; cases h
  split
  · intro h; cases h
  split
  · rename_i h; intro _; exact h
  · intro h
    have h0 : D.left = 0 := by
      by_cases hl : D.left = 0
      · exact hl
      · rw [if_neg hl] at h; cases h
    show ((putD D i.toNat b).left == 0) = true
    have : (putD D i.toNat b).left = 0 := h0
    rw [this]; rfl
theorem flD_lost (D : Dv) : Lost (flD D) := by
  unfold Lost flD
  split
  · rename_i h; intro _; exact h
  split
  · rename_i hl
    intro _
    show (D.left == 0) = true
    rw [hl]; rfl
  · intro h; cases h
theorem runE_lost {X : Type} {f : Nat → X → Dv → Dv × Nat} (hf : ∀ k x D, Lost (f k x D)) : ∀ (l : List X) (k : Nat) (D : Dv), Lost (runE f k l D)
  | [], _, _ => fun h => by cases h
  | x :: l, k, D => by
    rw [runE_cons]
    split
    · exact runE_lost hf l (k + 1) _
    · exact hf k x D
theorem andThen_lost {a : Dv × Nat} {g : Dv → Dv × Nat} (ha : Lost a) (hg : ∀ D, Lost (g D)) : Lost (andThen a g) := by
  unfold andThen
  split
  · exact hg _
  · exact ha
theorem commit_lost (st n : Nat) (m : List (Int × Bytes)) (D : Dv) : (commitP st n m D).2 = 9 → (commitP st n m D).1.down = true := by
  have h9 : chkP n m ≠ 9 := by
    unfold chkP
    split
    · decide
    · have : ∀ (l : List (Int × Bytes)) (s : List Int), chkL n s l ≠ 9 := by
        intro l
        induction l with
        | nil => intro s; show (0 : Nat) ≠ 9; decide
        | cons x r ih =>
          intro s
          unfold chkL
          split
          · decide
          split
          · decide
          split
          · decide
          · exact ih _
      exact this _ _
  show Lost _
  unfold commitP
  split
  · exact fun h => absurd h h9
  split
  · rename_i h; exact fun _ => h
  split
  · intro h; cases h
  split
  · intro h; cases h
  · exact andThen_lost (andThen_lost (andThen_lost (andThen_lost (andThen_lost (runE_lost (fun _ _ _ => wrD_lost _ _ _) _ _ _) flD_lost) (fun _ => wrD_lost _ _ _)) flD_lost) (fun _ => runE_lost (fun _ _ _ => wrD_lost _ _ _) _ _ _)) flD_lost
theorem commit_dn {st n : Nat} {m : List (Int × Bytes)} {D : Dv} (hd : D.down = true) : (commitP st n m D).1 = D ∧ (commitP st n m D).2 ≠ 0 := by
  unfold commitP
  split
  · rename_i h; exact ⟨rfl, h⟩
  · first
    | exact ⟨rfl, show (9 : Nat) ≠ 0 by decide⟩
    | (rw [if_pos hd]; exact ⟨rfl, show (9 : Nat) ≠ 0 by decide⟩)
theorem crashS_left (D : Dv) (x : Int) (keep : List Bool) (torn : Int) (c : Nat) : ∀ k, crashS { D with left := x } keep torn c k = crashS D keep torn c k
  | 0 => rfl
  | k + 1 => by
    have ih := crashS_left D x keep torn c k
    unfold crashS
    rw [ih]
    rfl
theorem crashD_left (D : Dv) (x : Int) (keep : List Bool) (torn : Int) (c : Nat) : crashD { D with left := x } keep torn c = crashD D keep torn c := by
  unfold crashD
  rw [crashS_left]
/-- a store, and what may be there behind a crash: what it kept, or what was being committed -/
structure LvS (nn n : Nat) (s : Sto) (nx : Bytes) : Prop where
  wf : WfD s.D
  len : s.D.S.length = nn
  gl : Good s.l
  gk : Good s.K
  gx : Good nx
  ll : s.l.length = 32 * n
  lk : s.K.length = 32 * n
  lx : nx.length = 32 * n
  n1 : 1 ≤ n
  n2 : n ≤ 200
  on : s.D.down = false → nx = s.K ∧ ∃ l, Full n s.D s.st l (pgB s.K)
  off : s.D.down = true → ∀ keep torn c, c ≤ 32 → ∃ st l N, Hold n (crashD s.D keep torn c) st l (pgB N) ∧ st ≤ s.st + 1 ∧ (N = s.K ∨ N = nx)
theorem upd_dL {l K : Bytes} {n : Nat} (i : Nat) (hi : i < n) : updPg (pgB K) (cutL l (dL l K n)) i = pgB l i := by
  rw [updPg_cut]
  by_cases h : i ∈ dL l K n
  · rw [if_pos h]
  · rw [if_neg h]
    rw [dL_mem] at h
    have : difB l K i = false := by
      cases hd : difB l K i with
      | false => rfl
      | true => exact absurd ⟨hi, hd⟩ h
    unfold difB at this
    exact (bne_eq_false_iff_eq.1 this).symm
section
variable {nn n : Nat} {s : Sto} {nx : Bytes}
theorem LvS.hop (h : LvS nn n s nx) (o : OpX) : LvS nn n ⟨s.D, s.st, hopL s.l o, s.K⟩ nx :=
  { h with gl := (hop_step h.gl o).good, ll := (hop_step h.gl o).len.trans h.ll }
theorem LvS.abort (h : LvS nn n s nx) : LvS nn n ⟨s.D, s.st, s.K, s.K⟩ nx := { h with gl := h.gk, ll := h.lk }
/-- other steps till the power goes -/
theorem LvS.left (h : LvS nn n s nx) (x : Int) : LvS nn n ⟨{ s.D with left := x }, s.st, s.l, s.K⟩ nx :=
  { h with
    wf := ⟨h.wf.nd, h.wf.lt, h.wf.sl, h.wf.ml⟩
    on := fun hd => ⟨(h.on hd).1, by
      obtain ⟨l, hl⟩ := (h.on hd).2
      exact ⟨l, hl.left x s.D.down⟩⟩
    off := fun hd keep torn c hc => by
      show ∃ st l N, Hold n (crashD { s.D with left := x } keep torn c) st l (pgB N) ∧ st ≤ s.st + 1 ∧ (N = s.K ∨ N = nx)
      rw [crashD_left]
      exact h.off hd keep torn c hc }
/-- a commit -/
theorem LvS.commit (h : LvS nn n s nx) : 
    ((cmS n s.st s.D s.l s.K).2 = 0 → LvS nn n ⟨(cmS n s.st s.D s.l s.K).1, if (dL s.l s.K n).length ≠ 0 then s.st + 1 else s.st, s.l, s.l⟩ s.l) ∧
    ((cmS n s.st s.D s.l s.K).2 ≠ 0 → LvS nn n ⟨(cmS n s.st s.D s.l s.K).1, s.st, s.l, s.K⟩ (if s.D.down = false ∧ (cmS n s.st s.D s.l s.K).1.down = true then s.l else nx)) := by
  cases hd : s.D.down with
  | true =>
    obtain ⟨a, b⟩ := commit_dn (st := s.st) (n := n) (m := cutL s.l (dL s.l s.K n)) hd
    refine ⟨fun h0 => absurd h0 b, fun _ => ?_⟩
    rw [if_neg (fun x => by cases x.1)]
    unfold cmS
    rw [a]
    exact h
  | false =>
    obtain ⟨hx, l, hl⟩ := h.on hd
    have H := commit_safe (cutL s.l (dL s.l s.K n)) hl h.wf
    have H9 := commit_lost s.st n (cutL s.l (dL s.l s.K n)) s.D
    have hlen := H.len.trans h.len
    unfold cmS
    generalize hm : cutL s.l (dL s.l s.K n) = m at *
    have hml : m.length = (dL s.l s.K n).length := by rw [← hm, cutL_len]
    have hup : ∀ i, i < n → pgB s.l i = updPg (pgB s.K) m i := fun i hi => by rw [← hm]; exact (upd_dL i hi).symm
    generalize commitP s.st n m s.D = r at *
    refine ⟨fun h0 => ?_, fun h0 => ?_⟩
    · by_cases hm0 : m.length = 0
      · have hD := H.none_ h0 hm0
        have hnil : dL s.l s.K n = [] := List.eq_nil_of_length_eq_zero (by omega)
        have hlK : s.l = s.K := dL_none h.ll h.lk hnil
        rw [hnil, if_neg (by simp), hD]
        refine { h with gk := h.gl, gx := h.gl, lk := h.ll, lx := h.ll, on := fun _ => ⟨rfl, l, ?_⟩, off := fun hd' => ?_ }
        · show Full n s.D s.st l (pgB s.l)
          rw [hlK]; exact hl
        · rw [hd] at hd'; cases hd'
      · obtain ⟨a, b, c, d⟩ := H.done h0 hm0
        rw [if_pos (by omega)]
        refine { h with wf := H.wf, len := hlen, gk := h.gl, gx := h.gl, lk := h.ll, lx := h.ll, on := fun _ => ⟨rfl, _, a.ext hup⟩, off := fun hd' => ?_ }
        have hd2 : r.1.down = true := hd'
        rw [c] at hd2; cases hd2
    · by_cases h9 : r.2 = 9
      · have hdn := H9 h9
        rw [if_pos ⟨rfl, hdn⟩]
        refine { h with wf := H.wf, len := hlen, gx := h.gl, lx := h.ll, on := fun hd' => ?_, off := fun _ keep torn c hc => ?_ }
        · have hd2 : r.1.down = false := hd'
          rw [hdn] at hd2; cases hd2
        · rcases H.lost h9 keep torn c hc with h' | h'
          · exact ⟨_, _, _, h', by dsimp only; omega, .inl rfl⟩
          · exact ⟨_, _, _, h'.ext hup, Nat.le_refl _, .inr rfl⟩
      · have hD := H.bad h0 h9
        rw [hD, hd, if_neg (fun x => by cases x.2)]
        exact h
/-- behind a crash -/
theorem LvS.crash (h : LvS nn n s nx) (keep : List Bool) (torn : Int) (c : Nat) (hc : c ≤ 32) : ∃ st l N, Hold n (crashD s.D keep torn c) st l (pgB N) ∧ st ≤ s.st + 1 ∧ (N = s.K ∨ N = nx) := by
  cases hd : s.D.down with
  | true => exact h.off hd keep torn c hc
  | false =>
    obtain ⟨hx, l, hl⟩ := h.on hd
    exact ⟨s.st, l, s.K, hl.hold.crash h.wf keep torn c hc, by omega, .inl rfl⟩
end
/-- what is there behind a crash: the device, its stamp, and what its pages are -/
structure HdS (nn n : Nat) (D : Dv) (st : Nat) (N : Bytes) : Prop where
  hold : ∃ l, Hold n D st l (pgB N)
  wf : WfD D
  len : D.S.length = nn
  gn : Good N
  ln : N.length = 32 * n
section
variable {nn n st : Nat} {D : Dv} {N : Bytes}
theorem HdS.crash (h : HdS nn n D st N) (keep : List Bool) (torn : Int) (c : Nat) (hc : c ≤ 32) : HdS nn n (crashD D keep torn c) st N := by
  obtain ⟨l, hl⟩ := h.hold
  exact ⟨⟨l, hl.crash h.wf keep torn c hc⟩, crash_wf h.wf keep torn c hc, (crash_len _ _ _ _).trans h.len, h.gn, h.ln⟩
theorem HdS.left (h : HdS nn n D st N) (x : Int) : HdS nn n { D with left := x } st N := by
  obtain ⟨l, hl⟩ := h.hold
  exact ⟨⟨l, hl.left x D.down⟩, ⟨h.wf.nd, h.wf.lt, h.wf.sl, h.wf.ml⟩, h.len, h.gn, h.ln⟩
/-- opened, with so many steps left -/
theorem HdS.open_ (h : HdS nn n D st N) : HdS nn n (openP D).1 st N ∧ ((openP D).2 = 0 ∨ (openP D).2 = 9) ∧ ((openP D).2 = 0 → (openMk D).1 = st ∧ (openP D).1.down = false ∧ n = nP D ∧ n ≤ 200 ∧ 1 ≤ n ∧ (∃ l, Full n (openP D).1 st l (pgB N)) ∧ allB (openP D).1 n = N ∧ ∀ i, i < n → (readD (openP D).1 (48 + i)).length = 32) := by
  obtain ⟨l, hl⟩ := h.hold
  obtain ⟨a, b⟩ := open_safe hl h.wf
  have hle := hl.lens
  rcases a with ⟨a1, a2, a3, a4, a5⟩ | ⟨a1, a2, a3⟩
  · refine ⟨⟨⟨l, a2.hold⟩, a5, b.trans h.len, h.gn, h.ln⟩, .inl a1, fun _ => ?_⟩
    have hp : ∀ i, i < n → (readD (openP D).1 (48 + i)).length = 32 := fun i hi => by
      rw [(a2.all i hi).2]
      exact pgB_len h.ln hi
    refine ⟨by rw [hl.opened], a4, hl.n0, hle.1, hle.2.2, ⟨l, a2⟩, ?_, hp⟩
    exact eq_of_pages (allB_len n hp) h.ln fun k hk => by rw [allB_page n k hp hk, (a2.all k hk).2]
  · exact ⟨⟨⟨l, a2⟩, a3, b.trans h.len, h.gn, h.ln⟩, .inr a1, fun h0 => by rw [a1] at h0; cases h0⟩
/-- a store that is opened so -/
theorem HdS.lv (h : HdS nn n D st N) (h0 : (openP D).2 = 0) : LvS nn n ⟨(openP D).1, st, N, N⟩ N := by
  obtain ⟨a, b, c⟩ := h.open_
  obtain ⟨c1, c2, c3, c4, c5, c6, c7, c8⟩ := c h0
  exact ⟨a.wf, a.len, h.gn, h.gn, h.gn, h.ln, h.ln, h.ln, c5, c4, fun _ => ⟨rfl, c6⟩, fun hd => by rw [c2] at hd; cases hd⟩
end
end Go.Proofs.YtijcclpnkfmpnaaGreat
/- StoreSafe: what the law keeps. -/
namespace Go.Proofs.YtijcclpnkfmpnaaGreat
open Go.RowKit Go.Maps Go.ChangeMaps

/-- a row of the law's own, beside the device and a heap -/
structure RowO (w0 w : World) (F GH : Nat → Prop) (g c : Nat) (x : Bytes) : Prop where
  row : Row w 5 g c x
  nf : ¬ F g
  ng : ¬ GH g
  base : w0.heap.size ≤ g
/-- a store, its device, what was kept and what may be there next -/
structure SvSt (w0 w : World) (F GH : Nat → Prop) (s p d h nn n : Nat) (S : Sto) (nx : Bytes) (g1 c1 g2 c2 : Nat) : Prop where
  dev : DevB w0 w F d S.D
  st : ∃ gk ck, StH w0 w F GH s p d h gk ck S.st n S.l S.K
  lv : LvS nn n S nx
  rk : RowO w0 w F GH g1 c1 S.K
  rn : RowO w0 w F GH g2 c2 nx
section
variable {w0 w w' : World} {F F' GH GH' : Nat → Prop} {s p d h nn n g c g1 c1 g2 c2 gw cw : Nat} {S : Sto} {nx x : Bytes}
theorem RowO.below (a : RowO w0 w F GH g c x) (hb : Below w.heap.size w w') : RowO w0 w' F GH g c x := ⟨a.row.below hb a.row.lt, a.nf, a.ng, a.base⟩
theorem RowO.dev (a : RowO w0 w F GH g c x) (hk : Keep F w w') (hF : ∀ q, F' q → F q ∨ w.heap.size ≤ q) : RowO w0 w' F' GH g c x :=
  ⟨hk.row a.row a.nf, fun hf => by
    rcases hF _ hf with h' | h'
    · exact a.nf h'
    · have := a.row.lt; omega, a.ng, a.base⟩
theorem RowO.turn {gk ck st : Nat} {l K : Bytes} (a : RowO w0 w F GH g c x) (hs : StH w0 w F GH s p d h gk ck st n l K) (hk : Keep (fun q => (F q ∨ GH q) ∨ (q = s ∨ q = p)) w w') (hF : ∀ q, F' q → F q ∨ w.heap.size ≤ q) (hG : ∀ q, GH' q → GH q ∨ w.heap.size ≤ q) : RowO w0 w' F' GH' g c x := by
  have hne := hs.types a.row
  have hl := a.row.lt
  refine ⟨hk.row a.row (fun hf => ?_), fun hf => ?_, fun hf => ?_, a.base⟩
  · rcases hf with (hf | hf) | hf | hf
    · exact a.nf hf
    · exact a.ng hf
    · exact hne.1 hf
    · exact hne.2 hf
  · rcases hF _ hf with h' | h'
    · exact a.nf h'
    · omega
  · rcases hG _ hf with h' | h'
    · exact a.ng h'
    · omega
/-- another heap's blocks -/
theorem RowO.other (a : RowO w0 w F GH g c x) (hG : ¬ GH' g) : RowO w0 w F GH' g c x := ⟨a.row, a.nf, hG, a.base⟩
theorem SvSt.below (a : SvSt w0 w F GH s p d h nn n S nx g1 c1 g2 c2) (hb : Below w.heap.size w w') : SvSt w0 w' F GH s p d h nn n S nx g1 c1 g2 c2 := by
  obtain ⟨gk, ck, hs⟩ := a.st
  exact ⟨a.dev.below hb, ⟨gk, ck, hs.below hb⟩, a.lv, a.rk.below hb, a.rn.below hb⟩
/-- a new row -/
theorem SvSt.fresh (a : SvSt w0 w F GH s p d h nn n S nx g1 c1 g2 c2) (hg : w.heap.size ≤ g) (hr : Row w' 5 g c x) : RowO w0 w' F GH g c x := by
  obtain ⟨gk, ck, hs⟩ := a.st
  exact ⟨hr, fun hf => by have := a.dev.flt g hf; omega, fun hf => by have := hs.hp.flt g hf; omega, Nat.le_trans a.dev.bel.size hg⟩
theorem SvSt.do_ (a : SvSt w0 w F GH s p d h nn n S nx g1 c1 g2 c2) (hst : S.st < 4294967295) (o : OpX) (ho : OpOk w0 o) (hw : RowO w0 w F GH gw cw S.l) :
    Calls Tryz.prog 24 #[.pointer (some ⟨s, 0, none⟩), opV o] w fun e w' => e = .returned (errV (doS n S o).2) ∧ (doS n S o).1.st ≤ S.st + 1 ∧ ∃ F' GH', DevB w0 w' F' d (doS n S o).1.D ∧
      (o.what = 6 → (doS n S o).2 = 0 → SvSt w0 w' F' GH' s p d h nn n (doS n S o).1 S.l gw cw gw cw) ∧
      (o.what = 6 → (doS n S o).2 ≠ 0 → S.D.down = false ∧ (doS n S o).1.D.down = true → SvSt w0 w' F' GH' s p d h nn n (doS n S o).1 S.l g1 c1 gw cw) ∧
      (o.what = 6 → (doS n S o).2 ≠ 0 → ¬ (S.D.down = false ∧ (doS n S o).1.D.down = true) → SvSt w0 w' F' GH' s p d h nn n (doS n S o).1 nx g1 c1 g2 c2) ∧
      (o.what ≠ 6 → SvSt w0 w' F' GH' s p d h nn n (doS n S o).1 nx g1 c1 g2 c2) ∧ (∀ q, q < w.heap.size → ¬ F q → ¬ GH q → q ≠ s → q ≠ p → w'.heap[q]? = w.heap[q]?) := by
  obtain ⟨gk, ck, hs⟩ := a.st
  have hlv := a.lv
  refine (sdo_any o hs a.dev a.lv.gl a.lv.gk a.lv.ll a.lv.lk a.lv.n2 (Nat.le_of_lt hst) (ho.below a.dev.bel)).mono ?_
  rintro e w1 ⟨he, F', GH', gk', ck', hm⟩
  have hkq : ∀ q, q < w.heap.size → ¬ F q → ¬ GH q → q ≠ s → q ≠ p → w1.heap[q]? = w.heap[q]? := fun q hq h1 h2 h3 h4 => hm.kp.block q hq (fun hx => hx.elim (fun hx => hx.elim h1 h2) (fun hx => hx.elim h3 h4))
  have r1 := a.rk.turn hs hm.kp hm.sub hm.nw
  have r2 := a.rn.turn hs hm.kp hm.sub hm.nw
  have r3 := hw.turn hs hm.kp hm.sub hm.nw
  obtain ⟨hc1, hc2⟩ := hlv.commit
  by_cases h6 : o.what = 6
  · by_cases h0 : (cmS n S.st S.D S.l S.K).2 = 0
    · have hd : doS n S o = (⟨(cmS n S.st S.D S.l S.K).1, if (dL S.l S.K n).length ≠ 0 then S.st + 1 else S.st, S.l, S.l⟩, 0) := by unfold doS; rw [if_pos h6, if_pos h0]
      rw [hd] at he hm ⊢
      exact ⟨he, by dsimp only; split <;> omega, F', GH', hm.dev, fun _ _ => ⟨hm.dev, ⟨gk', ck', hm.st⟩, hc1 h0, r3, r3⟩, fun _ hn => absurd rfl hn, fun _ hn => absurd rfl hn, fun hn => absurd h6 hn, hkq⟩
    · have hd : doS n S o = (⟨(cmS n S.st S.D S.l S.K).1, S.st, S.l, S.K⟩, (cmS n S.st S.D S.l S.K).2) := by unfold doS; rw [if_pos h6, if_neg h0]
      rw [hd] at he hm ⊢
      have hl := hc2 h0
      refine ⟨he, by dsimp only; omega, F', GH', hm.dev, fun _ hz => absurd hz h0, fun _ _ hc => ?_, fun _ _ hc => ?_, fun hn => absurd h6 hn, hkq⟩
      · rw [if_pos hc] at hl
        exact ⟨hm.dev, ⟨gk', ck', hm.st⟩, hl, r1, r3⟩
      · rw [if_neg hc] at hl
        exact ⟨hm.dev, ⟨gk', ck', hm.st⟩, hl, r1, r2⟩
  · by_cases h7 : o.what = 7
    · have hd : doS n S o = (⟨S.D, S.st, S.K, S.K⟩, 0) := by unfold doS; rw [if_neg h6, if_pos h7]
      rw [hd] at he hm ⊢
      exact ⟨he, by dsimp only; omega, F', GH', hm.dev, fun h => absurd h h6, fun h => absurd h h6, fun h => absurd h h6, fun _ => ⟨hm.dev, ⟨gk', ck', hm.st⟩, hlv.abort, r1, r2⟩, hkq⟩
    · have hd : doS n S o = (⟨S.D, S.st, hopL S.l o, S.K⟩, hopE S.l o) := by unfold doS; rw [if_neg h6, if_neg h7]
      rw [hd] at he hm ⊢
      exact ⟨he, by dsimp only; omega, F', GH', hm.dev, fun h => absurd h h6, fun h => absurd h h6, fun h => absurd h h6, fun _ => ⟨hm.dev, ⟨gk', ck', hm.st⟩, hlv.hop o, r1, r2⟩, hkq⟩
/-- other steps till the power goes -/
theorem SvSt.left {x : Int} (a : SvSt w0 w F GH s p d h nn n S nx g1 c1 g2 c2) (hd : DevB w0 w' F d { S.D with left := x }) (hk : Keep F w w') : SvSt w0 w' F GH s p d h nn n ⟨{ S.D with left := x }, S.st, S.l, S.K⟩ nx g1 c1 g2 c2 := by
  obtain ⟨gk, ck, hs⟩ := a.st
  exact ⟨hd, ⟨gk, ck, hs.dev hk a.dev.new (fun _ hq => .inl hq)⟩, a.lv.left x, a.rk.dev hk (fun _ hq => .inl hq), a.rn.dev hk (fun _ hq => .inl hq)⟩
end
/-- behind a crash: what is there is what was kept, or what was next -/
structure CrsS (w0 w : World) (F : Nat → Prop) (d nn n st b : Nat) (D : Dv) (K nx N : Bytes) (g1 c1 g2 c2 : Nat) : Prop where
  dev : DevB w0 w F d D
  hd : HdS nn n D st N
  or_ : N = K ∨ N = nx
  sb : st ≤ b
  rk : RowO w0 w F (fun _ => False) g1 c1 K
  rn : RowO w0 w F (fun _ => False) g2 c2 nx
section
variable {w0 w w' : World} {F F' GH GH' : Nat → Prop} {s p d h nn n st b g c g1 c1 g2 c2 gw cw : Nat} {S : Sto} {D D' : Dv} {K nx N x : Bytes}
theorem SvSt.crash (a : SvSt w0 w F GH s p d h nn n S nx g1 c1 g2 c2) (keep : List Bool) (torn : Int) (cc : Nat) (hc : cc ≤ 32) (hd : DevB w0 w' F d (crashD S.D keep torn cc)) (hk : Keep F w w') (hb : S.st + 1 ≤ b) : ∃ st N, CrsS w0 w' F d nn n st b (crashD S.D keep torn cc) S.K nx N g1 c1 g2 c2 := by
  obtain ⟨st, l, N, h1, h2, h3⟩ := a.lv.crash keep torn cc hc
  refine ⟨st, N, hd, ⟨⟨l, h1⟩, crash_wf a.lv.wf keep torn cc hc, (crash_len _ _ _ _).trans a.lv.len, ?_, ?_⟩, h3, by omega, (a.rk.dev hk (fun _ hq => .inl hq)).other (fun h => h), (a.rn.dev hk (fun _ hq => .inl hq)).other (fun h => h)⟩
  · rcases h3 with rfl | rfl
    · exact a.lv.gk
    · exact a.lv.gx
  · rcases h3 with rfl | rfl
    · exact a.lv.lk
    · exact a.lv.lx
theorem CrsS.crash (a : CrsS w0 w F d nn n st b D K nx N g1 c1 g2 c2) (keep : List Bool) (torn : Int) (cc : Nat) (hc : cc ≤ 32) (hd : DevB w0 w' F d (crashD D keep torn cc)) (hk : Keep F w w') : CrsS w0 w' F d nn n st b (crashD D keep torn cc) K nx N g1 c1 g2 c2 :=
  ⟨hd, a.hd.crash keep torn cc hc, a.or_, a.sb, a.rk.dev hk (fun _ hq => .inl hq), a.rn.dev hk (fun _ hq => .inl hq)⟩
theorem CrsS.left {x : Int} (a : CrsS w0 w F d nn n st b D K nx N g1 c1 g2 c2) (hd : DevB w0 w' F d { D with left := x }) (hk : Keep F w w') : CrsS w0 w' F d nn n st b { D with left := x } K nx N g1 c1 g2 c2 :=
  ⟨hd, a.hd.left x, a.or_, a.sb, a.rk.dev hk (fun _ hq => .inl hq), a.rn.dev hk (fun _ hq => .inl hq)⟩
theorem CrsS.open_ (a : CrsS w0 w F d nn n st b D K nx N g1 c1 g2 c2) (hd : DevB w0 w' F' d (openP D).1) (hk : Keep F w w') (hF : ∀ q, F' q → F q ∨ w.heap.size ≤ q) : CrsS w0 w' F' d nn n st b (openP D).1 K nx N g1 c1 g2 c2 :=
  ⟨hd, a.hd.open_.1, a.or_, a.sb, a.rk.dev hk hF, a.rn.dev hk hF⟩
theorem CrsS.below (a : CrsS w0 w F d nn n st b D K nx N g1 c1 g2 c2) (hb : Below w.heap.size w w') : CrsS w0 w' F d nn n st b D K nx N g1 c1 g2 c2 :=
  ⟨a.dev.below hb, a.hd, a.or_, a.sb, a.rk.below hb, a.rn.below hb⟩
/-- store.Open, while it goes well or not -/
theorem CrsS.opens (a : CrsS w0 w F d nn n st b D K nx N g1 c1 g2 c2) :
    Calls Tryz.prog 26 #[.pointer (some ⟨d, 0, none⟩)] w fun e w' => ∃ (v : Value) (F' : Nat → Prop), e = .returned (.tuple #[v, errV (openP D).2]) ∧ CrsS w0 w' F' d nn n st b (openP D).1 K nx N g1 c1 g2 c2 ∧ ((openP D).2 = 0 → (openP D).1.down = false ∧ ∃ sa pa ha gka cka GA, v = .pointer (some ⟨sa, 0, none⟩) ∧ SnM w0 w w' F F' GA sa pa d ha gka cka st n (openP D).1 N) := by
  obtain ⟨-, -, o3⟩ := a.hd.open_
  by_cases h0 : (openP D).2 = 0
  · obtain ⟨q1, q2, q3, q4, q5, q6, q7, q8⟩ := o3 h0
    have hn2 : n = nP (openP D).1 := by obtain ⟨l, hl⟩ := q6; exact hl.hold.n0
    refine (sopen_ok a.dev h0 q1 q3 hn2 q2 q8 N q7 a.hd.gn).mono ?_
    rintro e w1 ⟨sa, pa, ha, gka, cka, F', GA, he, hm⟩
    exact ⟨_, F', by rw [he, h0]; rfl, a.open_ hm.dev hm.kp hm.sub, fun _ => ⟨q2, sa, pa, ha, gka, cka, GA, rfl, hm⟩⟩
  · refine (sopen_bad a.dev h0).mono ?_
    rintro e w1 ⟨he, F', hm⟩
    exact ⟨_, F', he, a.open_ hm.dev hm.kp hm.sub, fun h => absurd h h0⟩
/-- the store that is opened at last goes on -/
theorem CrsS.next {sa pa ha gka cka : Nat} {GA : Nat → Prop} (a : CrsS w0 w F d nn n st b D K nx N g1 c1 g2 c2) (h0 : (openP D).2 = 0) (hm : SnM w0 w w' F F' GA sa pa d ha gka cka st n (openP D).1 N) {w1 : World} (hb : Below w'.heap.size w' w1) (hg : w'.heap.size ≤ g) (hr : Row w1 5 g c N) : SvSt w0 w1 F' GA sa pa d ha nn n ⟨(openP D).1, st, N, N⟩ N g c g c := by
  have hst := hm.st.below hb
  have r : RowO w0 w1 F' GA g c N := ⟨hr, fun hf => by have := hm.dev.flt g hf; omega, fun hf => by have := hm.st.hp.flt g hf; omega, Nat.le_trans hm.dev.bel.size hg⟩
  exact ⟨hm.dev.below hb, ⟨gka, cka, hst⟩, a.hd.lv h0, r, r⟩
end
end Go.Proofs.YtijcclpnkfmpnaaGreat
/- What comes in: slices of ints. -/
namespace Go.Proofs.YtijcclpnkfmpnaaGreat
open Go.RowKit Go.ChangeShapes Go.WideShapes Go.ChangeAt

def icell (x : Int) : List Value := [.int .i64 x]
section
variable {H : Type} {enc : TypeId × Value → H} {w : World} {v : Value} {d : DataW H} {ps : List MemPlace} {base : Nat} {r : Reach}
set_option maxRecDepth 20000 in
theorem open_ints (hv : Value.okWide Tryz.prog w r base 24 v) (h : DataW.Trod enc Tryz.prog w 0 (fun _ => true) true 24 v d ps) (hz : (d.weights Tryz.prog 24).all (· ≤ reachBytes) = true) :
    ∃ (A : Option Addr) (c : Nat) (L : List Int), v = .slice A L.length c ∧ L.length ≤ c ∧ c ≤ 140737488351232 ∧ (∀ x ∈ L, -9223372036854775808 ≤ x ∧ x ≤ 9223372036854775807) ∧ RdX icell 1 w A L := by
  have hb : decide (1 ≤ Tryz.prog.bytesOf 3) = true := by kernel_rfl
  have hC : Tryz.prog.cellsOf 3 = 1 := by kernel_rfl
  refine open_seq (P := Tryz.prog) icell 1 (fun _ x => -9223372036854775808 ≤ x ∧ x ≤ 9223372036854775807) Tryz.underlying24 hC (by omega) (of_decide_eq_true hb) (fun n cs x hl ht hz => ?_) hv h hz
  match cs, hl with
  | [c0], _ =>
    obtain ⟨a, ha, -, wa⟩ := DataW.trod_int Tryz.underlying3 ht
    obtain ⟨lo, hi⟩ := wf_i64' wa
    exact ⟨a, by simpa [icell] using ha, lo, hi⟩
end
end Go.Proofs.YtijcclpnkfmpnaaGreat
