/- Contracts and plain laws, put together: StoreSafeP, StoreSafe0, SimP, PlayP, PlayT, Play3, Play4. -/
import Derived.Test.YtoieifphklodoaaGreatPlayStepsFrameM5
import Derived.Test.YtoieifphklodoaaGreatPlayStepsFrameM3
import Derived.Deep.RegionHeld3
import Derived.Deep.DeepCutAuto
import Derived.Deep.CutBlock
/- StoreSafe: the plain law: what is kept of a store, wherever the power goes. No program in sight. -/
namespace Go.Proofs.YtoieifphklodoaaGreat
open Go.RowKit Go.Maps Go.ChangeMaps

/-- only the pages that are there count -/
theorem Hold.ext {n st : Nat} {D : Dv} {l : Bytes} {pg pg' : Nat → Bytes} (h : Hold n D st l pg) (e : ∀ i, i < n → pg' i = pg i) : Hold n D st l pg' :=
  { n0 := h.n0, ln := h.ln, mrk := h.mrk, pos := h.pos, l23 := h.l23, inl := h.inl, ar := fun k hk => by rw [e _ (h.inl _ (List.getElem_mem hk))]; exact h.ar k hk, rest := fun i hi hn => by rw [e i hi]; exact h.rest i hi hn, oth := h.oth }
theorem Full.ext {n st : Nat} {D : Dv} {l : Bytes} {pg pg' : Nat → Bytes} (h : Full n D st l pg) (e : ∀ i, i < n → pg' i = pg i) : Full n D st l pg' :=
  ⟨h.hold.ext e, fun i hi => by rw [e i hi]; exact h.all i hi⟩
/-- who says that the power is gone is without it -/
def Lost (r : Dv × Nat) : Prop := r.2 = 9 → r.1.down = true
theorem wrD_lost (D : Dv) (i : Int) (b : Bytes) : Lost (wrD D i b) := by
  unfold Lost wrD
  split
  · intro h; cases h
  split
  · intro h; cases h
  split
  · rename_i h; intro _; exact h
  · intro h
    have h0 : D.left = 0 := by
      by_cases hl : D.left = 0
      · exact hl
      · rw [if_neg hl] at h; cases h
    show ((putD D i.toNat b).left == 0) = true
    have : (putD D i.toNat b).left = 0 := h0
    rw [this]; rfl
theorem flD_lost (D : Dv) : Lost (flD D) := by
  unfold Lost flD
  split
  · rename_i h; intro _; exact h
  split
  · rename_i hl
    intro _
    show (D.left == 0) = true
    rw [hl]; rfl
  · intro h; cases h
theorem runE_lost {X : Type} {f : Nat → X → Dv → Dv × Nat} (hf : ∀ k x D, Lost (f k x D)) : ∀ (l : List X) (k : Nat) (D : Dv), Lost (runE f k l D)
  | [], _, _ => fun h => by cases h
  | x :: l, k, D => by
    rw [runE_cons]
    split
    · exact runE_lost hf l (k + 1) _
    · exact hf k x D
theorem andThen_lost {a : Dv × Nat} {g : Dv → Dv × Nat} (ha : Lost a) (hg : ∀ D, Lost (g D)) : Lost (andThen a g) := by
  unfold andThen
  split
  · exact hg _
  · exact ha
theorem commit_lost (st n : Nat) (m : List (Int × Bytes)) (D : Dv) : (commitP st n m D).2 = 9 → (commitP st n m D).1.down = true := by
  have h9 : chkP n m ≠ 9 := by
    unfold chkP
    split
    · decide
    · have : ∀ (l : List (Int × Bytes)) (s : List Int), chkL n s l ≠ 9 := by
        intro l
        induction l with
        | nil => intro s; show (0 : Nat) ≠ 9; decide
        | cons x r ih =>
          intro s
          unfold chkL
          split
          · decide
          split
          · decide
          split
          · decide
          · exact ih _
      exact this _ _
  show Lost _
  unfold commitP
  split
  · exact fun h => absurd h h9
  split
  · rename_i h; exact fun _ => h
  split
  · intro h; cases h
  split
  · intro h; cases h
  · exact andThen_lost (andThen_lost (andThen_lost (andThen_lost (andThen_lost (runE_lost (fun _ _ _ => wrD_lost _ _ _) _ _ _) flD_lost) (fun _ => wrD_lost _ _ _)) flD_lost) (fun _ => runE_lost (fun _ _ _ => wrD_lost _ _ _) _ _ _)) flD_lost
theorem commit_dn {st n : Nat} {m : List (Int × Bytes)} {D : Dv} (hd : D.down = true) : (commitP st n m D).1 = D ∧ (commitP st n m D).2 ≠ 0 := by
  unfold commitP
  split
  · rename_i h; exact ⟨rfl, h⟩
  · first
    | exact ⟨rfl, show (9 : Nat) ≠ 0 by decide⟩
    | (rw [if_pos hd]; exact ⟨rfl, show (9 : Nat) ≠ 0 by decide⟩)
theorem crashS_left (D : Dv) (x : Int) (keep : List Bool) (torn : Int) (c : Nat) : ∀ k, crashS { D with left := x } keep torn c k = crashS D keep torn c k
  | 0 => rfl
  | k + 1 => by
    have ih := crashS_left D x keep torn c k
    unfold crashS
    rw [ih]
    rfl
theorem crashD_left (D : Dv) (x : Int) (keep : List Bool) (torn : Int) (c : Nat) : crashD { D with left := x } keep torn c = crashD D keep torn c := by
  unfold crashD
  rw [crashS_left]
/-- a store, and what may be there behind a crash: what it kept, or what was being committed -/
structure LvS (nn n : Nat) (s : Sto) (nx : Bytes) : Prop where
  wf : WfD s.D
  len : s.D.S.length = nn
  gl : Good s.l
  gk : Good s.K
  gx : Good nx
  ll : s.l.length = 32 * n
  lk : s.K.length = 32 * n
  lx : nx.length = 32 * n
  n1 : 1 ≤ n
  n2 : n ≤ 200
  on : s.D.down = false → nx = s.K ∧ ∃ l, Full n s.D s.st l (pgB s.K)
  off : s.D.down = true → ∀ keep torn c, c ≤ 32 → ∃ st l N, Hold n (crashD s.D keep torn c) st l (pgB N) ∧ st ≤ s.st + 1 ∧ (N = s.K ∨ N = nx)
theorem upd_dL {l K : Bytes} {n : Nat} (i : Nat) (hi : i < n) : updPg (pgB K) (cutL l (dL l K n)) i = pgB l i := by
  rw [updPg_cut]
  by_cases h : i ∈ dL l K n
  · rw [if_pos h]
  · rw [if_neg h]
    rw [dL_mem] at h
    have : difB l K i = false := by
      cases hd : difB l K i with
      | false => rfl
      | true => exact absurd ⟨hi, hd⟩ h
    unfold difB at this
    exact (bne_eq_false_iff_eq.1 this).symm
section
variable {nn n : Nat} {s : Sto} {nx : Bytes}
theorem LvS.hop (h : LvS nn n s nx) (o : OpX) : LvS nn n ⟨s.D, s.st, hopL s.l o, s.K⟩ nx :=
  { h with gl := (hop_step h.gl o).good, ll := (hop_step h.gl o).len.trans h.ll }
theorem LvS.abort (h : LvS nn n s nx) : LvS nn n ⟨s.D, s.st, s.K, s.K⟩ nx := { h with gl := h.gk, ll := h.lk }
/-- other steps till the power goes -/
theorem LvS.left (h : LvS nn n s nx) (x : Int) : LvS nn n ⟨{ s.D with left := x }, s.st, s.l, s.K⟩ nx :=
  { h with
    wf := ⟨h.wf.nd, h.wf.lt, h.wf.sl, h.wf.ml⟩
    on := fun hd => ⟨(h.on hd).1, by
      obtain ⟨l, hl⟩ := (h.on hd).2
      exact ⟨l, hl.left x s.D.down⟩⟩
    off := fun hd keep torn c hc => by
      show ∃ st l N, Hold n (crashD { s.D with left := x } keep torn c) st l (pgB N) ∧ st ≤ s.st + 1 ∧ (N = s.K ∨ N = nx)
      rw [crashD_left]
      exact h.off hd keep torn c hc }
/-- a commit -/
theorem LvS.commit (h : LvS nn n s nx) : 
    ((cmS n s.st s.D s.l s.K).2 = 0 → LvS nn n ⟨(cmS n s.st s.D s.l s.K).1, if (dL s.l s.K n).length ≠ 0 then s.st + 1 else s.st, s.l, s.l⟩ s.l) ∧
    ((cmS n s.st s.D s.l s.K).2 ≠ 0 → LvS nn n ⟨(cmS n s.st s.D s.l s.K).1, s.st, s.l, s.K⟩ (if s.D.down = false ∧ (cmS n s.st s.D s.l s.K).1.down = true then s.l else nx)) := by
  cases hd : s.D.down with
  | true =>
    obtain ⟨a, b⟩ := commit_dn (st := s.st) (n := n) (m := cutL s.l (dL s.l s.K n)) hd
    refine ⟨fun h0 => absurd h0 b, fun _ => ?_⟩
    rw [if_neg (fun x => by cases x.1)]
    unfold cmS
    rw [a]
    exact h
  | false =>
    obtain ⟨hx, l, hl⟩ := h.on hd
    have H := commit_safe (cutL s.l (dL s.l s.K n)) hl h.wf
    have H9 := commit_lost s.st n (cutL s.l (dL s.l s.K n)) s.D
    have hlen := H.len.trans h.len
    unfold cmS
    generalize hm : cutL s.l (dL s.l s.K n) = m at *
    have hml : m.length = (dL s.l s.K n).length := by rw [← hm, cutL_len]
    have hup : ∀ i, i < n → pgB s.l i = updPg (pgB s.K) m i := fun i hi => by rw [← hm]; exact (upd_dL i hi).symm
    generalize commitP s.st n m s.D = r at *
    refine ⟨fun h0 => ?_, fun h0 => ?_⟩
    · by_cases hm0 : m.length = 0
      · have hD := H.none_ h0 hm0
        have hnil : dL s.l s.K n = [] := List.eq_nil_of_length_eq_zero (by omega)
        have hlK : s.l = s.K := dL_none h.ll h.lk hnil
        rw [hnil, if_neg (by simp), hD]
        refine { h with gk := h.gl, gx := h.gl, lk := h.ll, lx := h.ll, on := fun _ => ⟨rfl, l, ?_⟩, off := fun hd' => ?_ }
        · show Full n s.D s.st l (pgB s.l)
          rw [hlK]; exact hl
        · rw [hd] at hd'; cases hd'
      · obtain ⟨a, b, c, d⟩ := H.done h0 hm0
        rw [if_pos (by omega)]
        refine { h with wf := H.wf, len := hlen, gk := h.gl, gx := h.gl, lk := h.ll, lx := h.ll, on := fun _ => ⟨rfl, _, a.ext hup⟩, off := fun hd' => ?_ }
        have hd2 : r.1.down = true := hd'
        rw [c] at hd2; cases hd2
    · by_cases h9 : r.2 = 9
      · have hdn := H9 h9
        rw [if_pos ⟨rfl, hdn⟩]
        refine { h with wf := H.wf, len := hlen, gx := h.gl, lx := h.ll, on := fun hd' => ?_, off := fun _ keep torn c hc => ?_ }
        · have hd2 : r.1.down = false := hd'
          rw [hdn] at hd2; cases hd2
        · rcases H.lost h9 keep torn c hc with h' | h'
          · exact ⟨_, _, _, h', by dsimp only; omega, .inl rfl⟩
          · exact ⟨_, _, _, h'.ext hup, Nat.le_refl _, .inr rfl⟩
      · have hD := H.bad h0 h9
        rw [hD, hd, if_neg (fun x => by cases x.2)]
        exact h
/-- behind a crash -/
theorem LvS.crash (h : LvS nn n s nx) (keep : List Bool) (torn : Int) (c : Nat) (hc : c ≤ 32) : ∃ st l N, Hold n (crashD s.D keep torn c) st l (pgB N) ∧ st ≤ s.st + 1 ∧ (N = s.K ∨ N = nx) := by
  cases hd : s.D.down with
  | true => exact h.off hd keep torn c hc
  | false =>
    obtain ⟨hx, l, hl⟩ := h.on hd
    exact ⟨s.st, l, s.K, hl.hold.crash h.wf keep torn c hc, by omega, .inl rfl⟩
end
/-- what is there behind a crash: the device, its stamp, and what its pages are -/
structure HdS (nn n : Nat) (D : Dv) (st : Nat) (N : Bytes) : Prop where
  hold : ∃ l, Hold n D st l (pgB N)
  wf : WfD D
  len : D.S.length = nn
  gn : Good N
  ln : N.length = 32 * n
section
variable {nn n st : Nat} {D : Dv} {N : Bytes}
theorem HdS.crash (h : HdS nn n D st N) (keep : List Bool) (torn : Int) (c : Nat) (hc : c ≤ 32) : HdS nn n (crashD D keep torn c) st N := by
  obtain ⟨l, hl⟩ := h.hold
  exact ⟨⟨l, hl.crash h.wf keep torn c hc⟩, crash_wf h.wf keep torn c hc, (crash_len _ _ _ _).trans h.len, h.gn, h.ln⟩
theorem HdS.left (h : HdS nn n D st N) (x : Int) : HdS nn n { D with left := x } st N := by
  obtain ⟨l, hl⟩ := h.hold
  exact ⟨⟨l, hl.left x D.down⟩, ⟨h.wf.nd, h.wf.lt, h.wf.sl, h.wf.ml⟩, h.len, h.gn, h.ln⟩
/-- opened, with so many steps left -/
theorem HdS.open_ (h : HdS nn n D st N) : HdS nn n (openP D).1 st N ∧ ((openP D).2 = 0 ∨ (openP D).2 = 9) ∧ ((openP D).2 = 0 → (openMk D).1 = st ∧ (openP D).1.down = false ∧ n = nP D ∧ n ≤ 200 ∧ 1 ≤ n ∧ (∃ l, Full n (openP D).1 st l (pgB N)) ∧ allB (openP D).1 n = N ∧ ∀ i, i < n → (readD (openP D).1 (48 + i)).length = 32) := by
  obtain ⟨l, hl⟩ := h.hold
  obtain ⟨a, b⟩ := open_safe hl h.wf
  have hle := hl.lens
  rcases a with ⟨a1, a2, a3, a4, a5⟩ | ⟨a1, a2, a3⟩
  · refine ⟨⟨⟨l, a2.hold⟩, a5, b.trans h.len, h.gn, h.ln⟩, .inl a1, fun _ => ?_⟩
    have hp : ∀ i, i < n → (readD (openP D).1 (48 + i)).length = 32 := fun i hi => by
      rw [(a2.all i hi).2]
      exact pgB_len h.ln hi
    refine ⟨by rw [hl.opened], a4, hl.n0, hle.1, hle.2.2, ⟨l, a2⟩, ?_, hp⟩
    exact eq_of_pages (allB_len n hp) h.ln fun k hk => by rw [allB_page n k hp hk, (a2.all k hk).2]
  · exact ⟨⟨⟨l, a2⟩, a3, b.trans h.len, h.gn, h.ln⟩, .inr a1, fun h0 => by rw [a1] at h0; cases h0⟩
/-- a store that is opened so -/
theorem HdS.lv (h : HdS nn n D st N) (h0 : (openP D).2 = 0) : LvS nn n ⟨(openP D).1, st, N, N⟩ N := by
  obtain ⟨a, b, c⟩ := h.open_
  obtain ⟨c1, c2, c3, c4, c5, c6, c7, c8⟩ := c h0
  exact ⟨a.wf, a.len, h.gn, h.gn, h.gn, h.ln, h.ln, h.ln, c5, c4, fun _ => ⟨rfl, c6⟩, fun hd => by rw [c2] at hd; cases hd⟩
end
end Go.Proofs.YtoieifphklodoaaGreat
/- StoreSafe: what the law keeps. -/
namespace Go.Proofs.YtoieifphklodoaaGreat
open Go.RowKit Go.Maps Go.ChangeMaps

section
variable {w0 w w' : World} {F F' GH GH' : Nat → Prop} {s p d h nn n g c g1 c1 g2 c2 gw cw : Nat} {S : Sto} {nx x : Bytes}
end
section
variable {w0 w w' : World} {F F' GH GH' : Nat → Prop} {s p d h nn n st b g c g1 c1 g2 c2 gw cw : Nat} {S : Sto} {D D' : Dv} {K nx N x : Bytes}
end
end Go.Proofs.YtoieifphklodoaaGreat
/- A device whose power goes in so many steps, beside the same one whose power stays: how many steps a commit takes. No program in sight. -/
namespace Go.Proofs.YtoieifphklodoaaGreat
open Go.RowKit

section
variable {x : Int} {D D' : Dv}
end
end Go.Proofs.YtoieifphklodoaaGreat
/- A script, plainly: what it comes to, how many steps it takes, and that it comes to the same while so many steps are left. No program in sight. -/
namespace Go.Proofs.YtoieifphklodoaaGreat
open Go.RowKit Go.Maps Go.ChangeMaps

/-- the steps of an op -/
def stepsO (n : Nat) (s : Sto) (o : OpX) : Nat := if (doS n s o).2 = 0 ∧ o.what = 6 ∧ 0 < (dL s.l s.K n).length then 2 * (dL s.l s.K n).length + 4 else 0
/-- the first k ops: the store, and the steps -/
def runK (n : Nat) (s : Sto) (L : List OpX) : Nat → Sto × Nat
  | 0 => (s, 0)
  | k + 1 => match L[k]? with
    | some o => ((doS n (runK n s L k).1 o).1, (runK n s L k).2 + stepsO n (runK n s L k).1 o)
    | none => runK n s L k
theorem runK_succ (n : Nat) (s : Sto) (L : List OpX) (k : Nat) (hk : k < L.length) : runK n s L (k + 1) = ((doS n (runK n s L k).1 L[k]).1, (runK n s L k).2 + stepsO n (runK n s L k).1 L[k]) := by
  rw [runK, List.getElem?_eq_getElem hk]
theorem stepsO_even (n : Nat) (s : Sto) (o : OpX) : stepsO n s o % 2 = 0 := by unfold stepsO; split <;> omega
theorem stepsO_none (n : Nat) (s : Sto) {o : OpX} (h : o.what ≠ 6) : stepsO n s o = 0 := by unfold stepsO; rw [if_neg (fun x => h x.2.1)]
theorem stepsO_le {nn n : Nat} {s : Sto} (h : StOk nn n s) (hst : s.st < 4294967295) (o : OpX) : stepsO n s o ≤ 50 := by
  unfold stepsO
  split
  · rename_i hc
    have hs := h.said hst
    have h0 : (cmS n s.st s.D s.l s.K).2 = 0 := by
      have := hc.1
      unfold doS at this
      rw [if_pos hc.2.1] at this
      split at this
      · assumption
      · exact this
    have := hs.1.1 h0
    omega
  · omega
/-- the store, the power there, behind k ops -/
theorem StOk.run {nn n : Nat} {s : Sto} (h : StOk nn n s) (L : List OpX) (b : Nat) (hb : s.st ≤ b) : ∀ k, k ≤ L.length → b + k < 4294967295 → StOk nn n (runK n s L k).1 ∧ (runK n s L k).1.st ≤ b + k
  | 0, _, _ => ⟨h, hb⟩
  | k + 1, hk, hx => by
    obtain ⟨h1, h2⟩ := h.run L b hb k (by omega) (by omega)
    rw [runK_succ n s L k (by omega)]
    obtain ⟨h3, h4⟩ := h1.do (by omega) L[k]
    exact ⟨h3, by dsimp only; omega⟩
end Go.Proofs.YtoieifphklodoaaGreat
/- A played script, plainly: the power there, with as many steps as the script has, with none; what the steps of scripts add up to. No program in sight. -/
namespace Go.Proofs.YtoieifphklodoaaGreat
open Go.RowKit Go.Maps Go.ChangeMaps

/-- a new store, the power there; with so many steps left -/
def beg0 (nn n : Nat) : Sto := ⟨madeD nn, 2, List.replicate (32 * n) 0, List.replicate (32 * n) 0⟩
section
variable {nn n : Nat} {s : Sto} {nx : Bytes}
theorem StOk.full (h : StOk nn n s) : ∃ l, Full n s.D s.st l (pgB s.K) := by
  obtain ⟨pg, hsf⟩ := h.sf
  obtain ⟨l, hl⟩ := hsf.full
  have hle := hl.hold.lens
  have hp : ∀ i, i < n → (readD s.D (48 + i)).length = 32 := fun i hi => hsf.wf.rd (by omega)
  refine ⟨l, hl.ext fun i hi => ?_⟩
  rw [h.kb, allB_page n i hp hi]
  exact (hl.all i hi).2
theorem StOk.lv (h : StOk nn n s) : LvS nn n s s.K := by
  obtain ⟨l, hl⟩ := h.full
  obtain ⟨pg, hsf⟩ := h.sf
  exact ⟨hsf.wf, hsf.len, h.gl, h.gk, h.gk, h.ll, h.lk, h.lk, h.n1, h.n2, fun _ => ⟨rfl, l, hl⟩, fun hd => by rw [hsf.up.2] at hd; cases hd⟩
theorem StOk.hd (h : StOk nn n s) : HdS nn n s.D s.st s.K := by
  obtain ⟨l, hl⟩ := h.full
  obtain ⟨pg, hsf⟩ := h.sf
  exact ⟨⟨l, hl.hold⟩, hsf.wf, hsf.len, h.gk, h.lk⟩
theorem LvS.do_ (h : LvS nn n s nx) (o : OpX) : ∃ nx', LvS nn n (doS n s o).1 nx' := by
  obtain ⟨c1, c2⟩ := h.commit
  unfold doS
  by_cases h6 : o.what = 6
  · rw [if_pos h6]
    by_cases h0 : (cmS n s.st s.D s.l s.K).2 = 0
    · rw [if_pos h0]; exact ⟨_, c1 h0⟩
    · rw [if_neg h0]; exact ⟨_, c2 h0⟩
  · rw [if_neg h6]
    by_cases h7 : o.what = 7
    · rw [if_pos h7]; exact ⟨_, h.abort⟩
    · rw [if_neg h7]; exact ⟨_, h.hop o⟩
theorem LvS.run (h : LvS nn n s nx) (L : List OpX) : ∀ k, ∃ nx', LvS nn n (runK n s L k).1 nx'
  | 0 => ⟨nx, h⟩
  | k + 1 => by
    obtain ⟨nx', h'⟩ := h.run L k
    unfold runK
    split
    · exact h'.do_ _
    · exact ⟨nx', h'⟩
end
section
variable {nn n st st' : Nat} {D D' : Dv} {N N' : Bytes}
/-- the same sectors, nothing pending -/
theorem HdS.as (h : HdS nn n D st N) (hs : D'.S = D.S) (ho : D'.O = []) : HdS nn n D' st N := by
  obtain ⟨l, hl⟩ := h.hold
  refine ⟨⟨l, hl.same (by rw [hs]) fun j v _ _ hv => ?_⟩, ⟨by rw [ho]; simp, fun i hi => by rw [ho] at hi; simp at hi, fun i hi => by rw [hs] at hi ⊢; exact h.wf.sl i hi, fun i hi => by rw [ho] at hi; simp at hi⟩, by rw [hs]; exact h.len, h.gn, h.ln⟩
  refine ⟨by rw [hs]; exact hv.1, ?_⟩
  unfold readD
  rw [ho, if_neg (by simp), hs]
  exact hv.1
end
/-- the new store -/
theorem beg0_ok (nn : Nat) (h1 : 57 ≤ nn) (h3 : nn ≤ 300) (n : Nat) (hn : n = nP (newD nn)) : StOk nn n (beg0 nn n) := (made_ok nn h1 h3 n hn).2.2.2.2
section
variable {S : List Bytes}
end
/-- steps of scripts -/
theorem runK_app (n : Nat) (s : Sto) (L M : List OpX) : ∀ k, k ≤ L.length → runK n s (L ++ M) k = runK n s L k
  | 0, _ => rfl
  | k + 1, hk => by
    have ih := runK_app n s L M k (by omega)
    have e : (L ++ M)[k]? = L[k]? := List.getElem?_append_left (by omega)
    unfold runK
    rw [e, ih]
theorem runK_mono (n : Nat) (s : Sto) (L : List OpX) (a : Nat) : ∀ b, (runK n s L a).2 ≤ (runK n s L (a + b)).2
  | 0 => Nat.le_refl _
  | b + 1 => by
    have ih := runK_mono n s L a b
    refine Nat.le_trans ih ?_
    show _ ≤ (runK n s L (a + b + 1)).2
    rw [runK]
    split
    · dsimp only; omega
    · exact Nat.le_refl _
theorem runK_even (n : Nat) (s : Sto) (L : List OpX) : ∀ k, (runK n s L k).2 % 2 = 0
  | 0 => rfl
  | k + 1 => by
    have ih := runK_even n s L k
    rw [runK]
    split
    · have := stepsO_even n (runK n s L k).1 (by assumption)
      dsimp only
      omega
    · exact ih
/-- how many of the first k are commits -/
def cntC (L : List OpX) : Nat → Nat
  | 0 => 0
  | k + 1 => cntC L k + if (L[k]?.map (·.what)) = some 6 then 1 else 0
theorem cntC_le (L : List OpX) : ∀ k, cntC L k ≤ k
  | 0 => Nat.le_refl _
  | k + 1 => by
    have := cntC_le L k
    unfold cntC
    split <;> omega
theorem runK_le {nn n : Nat} {s : Sto} (h : StOk nn n s) (L : List OpX) (b : Nat) (hb : s.st ≤ b) : ∀ k, k ≤ L.length → b + k < 4294967295 → (runK n s L k).2 ≤ 50 * cntC L k
  | 0, _, _ => Nat.le_refl _
  | k + 1, hk, hx => by
    have ih := runK_le h L b hb k (by omega) (by omega)
    obtain ⟨h1, h2⟩ := h.run L b hb k (by omega) (by omega)
    rw [runK_succ n s L k (by omega)]
    unfold cntC
    rw [List.getElem?_eq_getElem (show k < L.length by omega)]
    dsimp only
    by_cases h6 : L[k].what = 6
    · have := stepsO_le h1 (by omega) L[k]
      rw [if_pos (by simp [h6])]
      omega
    · rw [stepsO_none n _ h6]
      omega
theorem runK_none (n : Nat) (s : Sto) (L : List OpX) (h : ∀ o ∈ L, o.what ≠ 6) : ∀ k, (runK n s L k).2 = 0
  | 0 => rfl
  | k + 1 => by
    have ih := runK_none n s L h k
    rw [runK]
    split
    · rename_i o ho
      rw [ih, stepsO_none n _ (h o (List.mem_of_getElem? ho))]
    · exact ih
/-- in an image of nothing the first object is the first, whatever its tag -/
theorem first_tag {n : Nat} (h1 : 291 ≤ n) (h2 : n ≤ 6400) (t : Int) (ht0 : 0 ≤ t) (ht : t ≤ 15) : allocE (List.replicate n 0) 3 t = 0 ∧ hasE (rawE (allocL (List.replicate n 0) 3 t) 0) = true ∧ ∀ i, 5 ≤ i → (allocL (List.replicate n 0) 3 t)[i]? = (List.replicate n (0 : UInt8))[i]? := by
  have hr : rightB (n : Int) = true := rightB_true.2 (by omega)
  have hg : Good (List.replicate n 0) := good_zero' hr
  have hz : ∀ j, j < 40 → hasE (rawE (List.replicate n 0) j) = false := fun j hj => by
    rw [show rawE (List.replicate n 0) j = List.replicate 5 0 from zeros_cut' n (5 * j) 5 (by omega)]; exact zeros_has
  have hfh : fH (List.replicate n 0) 40 = 1 := by
    rcases fH_spec (List.replicate n 0) 40 (Nat.le_refl _) with ⟨_, hall⟩ | ⟨q, _, k2, k3, k4, k5⟩
    · have := hall 0 (by omega) (by omega)
      rw [hz 0 (by omega)] at this; cases this
    · rw [k3]
      by_cases hq : q = 0
      · rw [hq]
      · have := k5 0 (by omega) (by omega)
        rw [hz 0 (by omega)] at this; cases this
  have hc := good_chk hg
  have hlen : (List.replicate n (0 : UInt8)).length = n := List.length_replicate
  have hat : ∀ j, j < n → (List.replicate n (0 : UInt8))[j]? = some 0 := fun j hj => by rw [List.getElem?_replicate, if_pos hj]
  generalize List.replicate n (0 : UInt8) = l at *
  rw [hlen] at hc
  have hf : fitE ((n : Nat) - 288 : Int) (takenL l) 3 = 0 := fit_exists hc (p := 0) (by omega) (by omega) (by omega) (fun e he => by
    obtain ⟨j, hj, hh, _⟩ := takenL_mem.1 he
    rw [hz j hj] at hh; cases hh)
  have hE : allocE l 3 t = 0 := by
    unfold allocE
    rw [if_neg (by rw [lenB_true.2 ⟨by omega, by omega⟩, tagB_true.2 ⟨ht0, ht⟩]; simp), hlen, if_neg (by rw [hfh, hf]; decide)]
  obtain ⟨k, a, n', t', hn, ht', hH', _, hi⟩ := alloc_is hg hE
  obtain rfl : n' = 3 := by omega
  have hH : allocH l 3 t = 1 := by unfold allocH; rw [if_pos hE, hfh]; rfl
  obtain rfl : k = 0 := by omega
  obtain ⟨d1, d2, d3, d4⟩ := hi.hd hg
  refine ⟨hE, ?_, ?_⟩
  · obtain ⟨q, hq, hq1, hq2, -⟩ := hE_zero d1
    obtain rfl : q = 0 := by omega
    exact hq2
  · intro i hi
    have hin := alloc_in (l := l) (n := 3) (by rw [hlen]; exact hf)
    have hpl := putEnt_len l 1 (allocA l 3) 3 t (by omega) (by omega) (by omega)
    unfold allocL
    rw [if_pos hE, hfh]
    show (splice (putEnt l 1 (allocA l 3) 3 t) (allocA l 3).toNat (List.replicate 3 0))[i]? = _
    rw [splice_rd _ _ _ _ (by rw [hpl, List.length_replicate]; omega), List.length_replicate]
    by_cases hr : (allocA l 3).toNat ≤ i ∧ i < (allocA l 3).toNat + 3
    · rw [if_pos hr, hat i (by omega), List.getElem?_replicate, if_pos (by omega)]
    · rw [if_neg hr]
      unfold putEnt
      rw [splice_rd _ _ _ _ (by rw [entB_len]; unfold entO; omega), if_neg (by rw [entB_len]; unfold entO; omega)]
/-- an object, and a commit: six steps -/
def scrO (t : Int) : List OpX := [⟨1, 0, t, 3, [], none, 0, []⟩, ⟨6, 0, 0, 0, [], none, 0, []⟩]
theorem six_steps {nn n : Nat} (h : StOk nn n (beg0 nn n)) (h10 : 10 ≤ n) : (runK n (beg0 nn n) (scrO 0) 2).2 = 6 := by
  obtain ⟨f1, f2, f3⟩ := first_tag (n := 32 * n) (by omega) (by have := h.n2; omega) 0 (by omega) (by omega)
  have h1 := (h.do (by show (2 : Nat) < _; omega) ⟨1, 0, 0, 3, [], none, 0, []⟩).1
  have e1 : (doS n (beg0 nn n) ⟨1, 0, 0, 3, [], none, 0, []⟩).1 = ⟨madeD nn, 2, allocL (List.replicate (32 * n) 0) 3 0, List.replicate (32 * n) 0⟩ := by
    unfold doS hopL
    rfl
  rw [e1] at h1
  have hz : hasE (rawE (List.replicate (32 * n) 0) 0) = false := by
    rw [show rawE (List.replicate (32 * n) 0) 0 = List.replicate 5 0 from zeros_cut' _ (5 * 0) 5 (by omega)]; exact zeros_has
  have hlz : (List.replicate (32 * n) (0 : UInt8)).length = 32 * n := List.length_replicate
  have hd : (dL (allocL (List.replicate (32 * n) 0) 3 0) (List.replicate (32 * n) 0) n).length = 1 := by
    have hll := h1.ll
    dsimp only at hll
    generalize allocL (List.replicate (32 * n) 0) 3 0 = l1 at *
    generalize List.replicate (32 * n) (0 : UInt8) = z at *
    have hle : (dL l1 z n).length ≤ 1 := nodup_le 1 (dL l1 z n) (List.nodup_range.filter _) (fun x hx => by
      by_cases hx1 : x < 1
      · exact hx1
      · have hd := (dL_mem.1 hx).2
        unfold difB at hd
        rw [pgB_ext (fun j _ => f3 (x * 32 + j) (by omega))] at hd
        simp at hd)
    have h0 : 0 ∈ dL l1 z n := by
      rw [dL_mem]
      refine ⟨by omega, ?_⟩
      cases hq : difB l1 z 0 with
      | true => rfl
      | false =>
        exfalso
        unfold difB at hq
        have hq := bne_eq_false_iff_eq.1 hq
        have : rawE l1 0 = rawE z 0 := by
          have hr : ∀ y : Bytes, rawE y 0 = (pgB y 0).take 5 := fun y => by
            unfold rawE pgB
            rw [List.take_take]
            rfl
          rw [hr, hr, hq]
        rw [this, hz] at f2
        cases f2
    have : 0 < (dL l1 z n).length := List.length_pos_of_mem h0
    omega
  have hs := h1.said (by show (2 : Nat) < _; omega)
  dsimp only at hs
  rw [hd] at hs
  have h6 := hs.1.2 (by omega)
  have r1 : runK n (beg0 nn n) (scrO 0) 1 = (⟨madeD nn, 2, allocL (List.replicate (32 * n) 0) 3 0, List.replicate (32 * n) 0⟩, 0) := by
    rw [runK_succ n _ (scrO 0) 0 (by decide)]
    show ((doS n (beg0 nn n) ⟨1, 0, 0, 3, [], none, 0, []⟩).1, 0 + stepsO n (beg0 nn n) ⟨1, 0, 0, 3, [], none, 0, []⟩) = _
    rw [e1, stepsO_none n _ (show (1 : Int) ≠ 6 by decide)]
  rw [runK_succ n _ (scrO 0) 1 (by decide), r1]
  show 0 + stepsO n ⟨madeD nn, 2, allocL (List.replicate (32 * n) 0) 3 0, List.replicate (32 * n) 0⟩ ⟨6, 0, 0, 0, [], none, 0, []⟩ = 6
  unfold stepsO
  rw [if_pos]
  · dsimp only
    rw [hd]
  · refine ⟨?_, rfl, by dsimp only; omega⟩
    unfold doS
    rw [if_pos rfl]
    dsimp only
    rw [if_pos h6]
end Go.Proofs.YtoieifphklodoaaGreat
/- A store that is played with, whether the power stays or goes. -/
namespace Go.Proofs.YtoieifphklodoaaGreat
open Go.RowKit Go.Maps Go.ChangeMaps

/-- a store and its device, the power there or not -/
structure PlAny (w0 w : World) (F GH : Nat → Prop) (s p d h nn n : Nat) (S : Sto) : Prop where
  dev : DevB w0 w F d S.D
  st : ∃ gk ck, StH w0 w F GH s p d h gk ck S.st n S.l S.K
  lv : ∃ nx, LvS nn n S nx
section
variable {w0 w w' w1 : World} {F F' GH GH' : Nat → Prop} {s p d h nn n : Nat} {S : Sto}
theorem PlSt.any (a : PlSt w0 w F GH s p d h nn n S) : PlAny w0 w F GH s p d h nn n S := ⟨a.dev, a.st, _, a.ok.lv⟩
theorem PlAny.below (a : PlAny w0 w F GH s p d h nn n S) (hb : Below w.heap.size w w') : PlAny w0 w' F GH s p d h nn n S := by
  obtain ⟨gk, ck, hs⟩ := a.st
  exact ⟨a.dev.below hb, ⟨gk, ck, hs.below hb⟩, a.lv⟩
theorem PlAny.do_ (a : PlAny w0 w F GH s p d h nn n S) (hst : S.st < 4294967295) (o : OpX) (ho : OpOk w0 o) :
    Calls Tryz.prog 10 #[.pointer (some ⟨s, 0, none⟩), opV o] w fun e w' => e = .returned (errV (doS n S o).2) ∧ ∃ F' GH', PlAny w0 w' F' GH' s p d h nn n (doS n S o).1 := by
  obtain ⟨gk, ck, hs⟩ := a.st
  obtain ⟨nx, hlv⟩ := a.lv
  have hnx := hlv.do_ o
  obtain ⟨D, st, l, K⟩ := S
  refine (sdo_any o hs a.dev hlv.gl hlv.gk hlv.ll hlv.lk hlv.n2 (Nat.le_of_lt hst) (ho.below a.dev.bel)).mono ?_
  rintro e w1 ⟨he, F', GH', gk', ck', hm⟩
  exact ⟨he, F', GH', hm.dev, ⟨gk', ck', hm.st⟩, hnx⟩
/-- so many steps from now on -/
theorem PlSt.fail (a : PlSt w0 w F GH s p d h nn n S) (x : Int) (hd : DevB w0 w' F d { S.D with left := max (-1) x }) (hk : Keep F w w') : PlAny w0 w' F GH s p d h nn n ⟨{ S.D with left := max (-1) x }, S.st, S.l, S.K⟩ := by
  obtain ⟨gk, ck, hs⟩ := a.st
  exact ⟨hd, ⟨gk, ck, hs.dev hk a.dev.new (fun _ hq => .inl hq)⟩, _, a.ok.lv.left (max (-1) x)⟩
end
end Go.Proofs.YtoieifphklodoaaGreat
/- Package play: begin, Steps. -/
namespace Go.Proofs.YtoieifphklodoaaGreat
open Go.RowKit Go.Maps Go.ChangeMaps

set_option maxRecDepth 100000 in
theorem begin_ok (nn np : Nat) (OA : Option Addr) (m oc : Nat) (w : World) (hm : m ≤ 200) (h57 : 57 ≤ nn) (h3 : nn ≤ 300) (hnp : np = nP (newD nn)) :
    Calls Tryz.prog 37 #[.int .i64 (nn : Int), .slice OA m oc] w fun e w' => ∃ d s p h F GH, e = .returned (.tuple #[.pointer (some ⟨d, 0, none⟩), .pointer (some ⟨s, 0, none⟩), .nilIface]) ∧ PlSt w w' F GH s p d h nn np (beg0 nn np) := by
  have d1 : decide ((200 : Int) < (m : Int)) = false := by simp; omega
  have d2 : decide (200 < m) = false := by simp; omega
  have HN := Hidden.mk (dnewB nn w (by omega) h3)
  have HQ := Hidden.mk (And.intro h57 (And.intro h3 hnp))
  have HOK := Hidden.mk (beg0_ok nn h57 h3 np hnp)
  clear hm h57 h3 hnp
  go_enter Tryz.func37, Tryz.ntmps37
  go_wp2_with fail
  refine HN.out.mono ?_
  rintro e w1 ⟨d, F0, rfl, hd⟩
  have HC := Hidden.mk (screate_ok nn np hd HQ.out.1 HQ.out.2.1 HQ.out.2.2)
  clear hd HN
  go_wp2_with fail
  refine HC.out.mono ?_
  rintro e w2 ⟨s, p, h, gk, ck, F1, GH1, rfl, hmk⟩
  have HP : Hidden (PlSt w w2 F1 GH1 s p d h nn np (beg0 nn np)) := ⟨⟨hmk.dev, ⟨gk, ck, hmk.st⟩, HOK.out⟩⟩
  clear hmk HC HOK
  go_wp2_with fail
  go_ret3
  exact ⟨d, s, p, h, F1, GH1, rfl, HP.out⟩
/-- where a script's k-th op lies -/
theorem ops_at {w : World} {OA : Option Addr} {L : List OpX} (h : RdX ocells 6 w OA L) (k : Nat) (hk : k < L.length) : ∃ pb off, OA = some ⟨pb, off, none⟩ ∧ (w.cell? ⟨pb, off + k * 6, none⟩ = some (.int .i64 L[k].what) ∧ w.cell? ⟨pb, off + k * 6 + 1, none⟩ = some (.int .i64 L[k].handle) ∧ w.cell? ⟨pb, off + k * 6 + 2, none⟩ = some (.int .i64 L[k].at_) ∧ w.cell? ⟨pb, off + k * 6 + 3, none⟩ = some (.int .i64 L[k].len) ∧ w.cell? ⟨pb, off + k * 6 + 4, none⟩ = some (sv L[k].name) ∧ w.cell? ⟨pb, off + k * 6 + 5, none⟩ = some (.slice L[k].A L[k].body.length L[k].cap)) := by
  obtain ⟨pb, off, e, hc⟩ := h k hk
  have x0 := hc 0 _ rfl
  rw [Nat.add_zero] at x0
  exact ⟨pb, off, e, x0, hc 1 _ rfl, hc 2 _ rfl, hc 3 _ rfl, hc 4 _ rfl, hc 5 _ rfl⟩
/-- a new block is none of the store's -/
theorem PlSt.fresh_ {w0 w : World} {F GH : Nat → Prop} {s p d h nn n : Nat} {S : Sto} (a : PlSt w0 w F GH s p d h nn n S) : ¬ ((F w.heap.size ∨ GH w.heap.size) ∨ (w.heap.size = s ∨ w.heap.size = p)) := by
  obtain ⟨gk, ck, hs⟩ := a.st
  obtain ⟨l1, l2, l3⟩ := hs.lt
  rintro ((hf | hf) | hf | hf)
  · have := a.dev.flt _ hf; omega
  · have := hs.hp.flt _ hf; omega
  · omega
  · omega
theorem Six6.below {w w' : World} {b : Nat} {v0 v1 v2 v3 v4 v5 : Value} (h : Six6 w b v0 v1 v2 v3 v4 v5) (hb : Below w.heap.size w w') (hl : b < w.heap.size) : Six6 w' b v0 v1 v2 v3 v4 v5 := by
  unfold Six6 at *
  simp only [World.cell?] at *
  rw [hb.block b hl]
  exact h
set_option maxRecDepth 100000 in
set_option maxHeartbeats 1000000 in
theorem steps_ok (nn np : Nat) (OA : Option Addr) (m oc : Nat) (L : List OpX) (w : World) (hL : L.length = m) (hm : m ≤ 200) (h57 : 57 ≤ nn) (h3 : nn ≤ 300) (hnp : np = nP (newD nn)) (hr : RdX ocells 6 w OA L) (ho : ∀ x ∈ L, OpOk w x) :
    Calls Tryz.prog 11 #[.int .i64 (nn : Int), .slice OA m oc] w fun e w' => e = .returned (.tuple #[.int .i64 ((runK np (beg0 nn np) L m).2 : Int), .nilIface]) ∧ Below w.heap.size w w' := by
  have hok := beg0_ok nn h57 h3 np hnp
  have HBG := Hidden.mk (begin_ok nn np OA m oc w hm h57 h3 hnp)
  have HR := Hidden.mk (And.intro hr (And.intro ho hL))
  have HRUN : Hidden (∀ k, k ≤ m → StOk nn np (runK np (beg0 nn np) L k).1 ∧ (runK np (beg0 nn np) L k).1.st ≤ 2 + k ∧ (runK np (beg0 nn np) L k).2 ≤ 50 * k) := ⟨fun k hk => by
    obtain ⟨a, b⟩ := hok.run L 2 (Nat.le_refl _) k (by omega) (by omega)
    have c := runK_le hok L 2 (Nat.le_refl _) k (by omega) (by omega)
    have := cntC_le L k
    exact ⟨a, b, by omega⟩⟩
  have HSUC : Hidden (∀ k (hk : k < L.length), runK np (beg0 nn np) L (k + 1) = ((doS np (runK np (beg0 nn np) L k).1 L[k]).1, (runK np (beg0 nn np) L k).2 + stepsO np (runK np (beg0 nn np) L k).1 L[k])) := ⟨fun k hk => runK_succ np _ L k hk⟩
  have HB0 : Hidden (runK np (beg0 nn np) L 0 = (beg0 nn np, 0)) := ⟨rfl⟩
  generalize beg0 nn np = B at *
  clear hok hr ho h57 h3 hnp hL
  go_enter Tryz.func11, Tryz.ntmps11
  go_wp2_with fail
  refine HBG.out.mono ?_
  rintro e w1 ⟨d, s, p, h, F1, GH1, rfl, hp⟩
  have HP : Hidden (PlSt w w1 F1 GH1 s p d h nn np (runK np B L 0).1) := ⟨by rw [HB0.out]; exact hp⟩
  clear hp HBG
  go_wp2_with fail
  go_loopg [9, 25] m (fun r mv iv wr => ∃ (k : Nat) (F GH : Nat → Prop), k ≤ m ∧ r = m - k ∧ iv = .int .i64 (k : Int) ∧ mv = .int .i64 ((runK np B L k).2 : Int) ∧ Hidden (PlSt w wr F GH s p d h nn np (runK np B L k).1))
  case atStart => exact ⟨0, F1, GH1, by omega, rfl, rfl, by rw [HB0.out]; rfl, HP⟩
  case round =>
    obtain ⟨k, F, GH, hk, rfl, rfl, rfl, hst⟩ := hrel
    have HS := Hidden.mk hst.out
    clear hst HP
    by_cases hlt : k < m
    rotate_left
    · obtain rfl : k = m := by omega
      have e1 : decide ((k : Int) < k) = false := by simp
      clear hlt
      go_wp2_with fail
      go_ret2
      exact ⟨rfl, HS.out.dev.bel⟩
    have e1 : decide ((k : Int) < m) = true := by simp; omega
    have e1' : decide (k < m) = true := by simpa using hlt
    have i0 : (0 : Int) ≤ k := by omega
    have i1 : (k : Int) < m := by omega
    have s1 : IntKind.i64.wrap ((k : Int) + 1) = (k : Int) + 1 := IntWalk.i64_in _ (by omega)
    have hkl : k < L.length := by rw [HR.out.2.2]; exact hlt
    obtain ⟨pb, off, rfl, x0, x1, x2, x3, x4, x5⟩ := ops_at (HR.out.1.below HS.out.dev.bel) k hkl
    have HKO := Hidden.mk (HR.out.2.1 _ (List.getElem_mem hkl))
    have HRK := Hidden.mk (HRUN.out k hk)
    have HRK1 := Hidden.mk (HRUN.out (k + 1) (by omega))
    have HNX := Hidden.mk (HSUC.out k hkl)
    generalize hq1 : runK np B L (k + 1) = RK1 at *
    generalize hq2 : runK np B L k = RK at *
    obtain ⟨S, mn⟩ := RK
    have HSE : Hidden (stepsO np S L[k] = if (doS np S L[k]).2 = 0 ∧ L[k].what = 6 ∧ 0 < (dL S.l S.K np).length then 2 * (dL S.l S.K np).length + 4 else 0) := ⟨rfl⟩
    have HDO : Hidden (∀ W F GH, PlSt w W F GH s p d h nn np S → Calls Tryz.prog 10 #[.pointer (some ⟨s, 0, none⟩), opV L[k]] W fun e w' => e = .returned (errV (doS np S L[k]).2) ∧ ∃ F' GH', PlM w W w' F F' GH GH' s p d h nn np (doS np S L[k]).1) := ⟨fun W F GH hW => hW.do_ (by have := HRK.out.2.1; dsimp only at this; omega) L[k] HKO.out⟩
    have HMN : Hidden (mn ≤ 50 * k) := ⟨HRK.out.2.2⟩
    have hq3 := dL_le S.l S.K np
    have hq4 := HS.out.ok.n2
    dsimp only at HS HNX
    have HBX := Hidden.mk (HS.out.fresh_)
    generalize hRR : doS np S L[k] = R at *
    generalize stepsO np S L[k] = so at *
    generalize L[k] = o at *
    obtain ⟨what, handle, at_, len, name, bA, bc, body⟩ := o
    dsimp only at *
    obtain ⟨q, hq⟩ : ∃ q, (dL S.l S.K np).length = q := ⟨_, rfl⟩
    rw [hq] at HSE hq3
    have hal := (Below.refl wr.heap.size wr).alloc (Nat.le_refl _) (.cells #[.int .i64 what, .int .i64 handle, .int .i64 at_, .int .i64 len, sv name, .slice bA body.length bc] 40)
    have h6 := six6_cells wr (.int .i64 what) (.int .i64 handle) (.int .i64 at_) (.int .i64 len) (sv name) (.slice bA body.length bc) 40
    have hlt1 : wr.heap.size < (wr.alloc (.cells #[.int .i64 what, .int .i64 handle, .int .i64 at_, .int .i64 len, sv name, .slice bA body.length bc] 40)).heap.size := by simp
    have HS1 := Hidden.mk (HS.out.below hal)
    have HDI := Hidden.mk HS1.out.dirty
    rw [hq] at HDI
    clear HRK hq hRR hal
    have s2 : IntKind.i64.wrap (2 * (q : Int)) = 2 * (q : Int) := IntWalk.i64_in _ (by omega)
    have s3 : IntKind.i64.wrap (2 * (q : Int) + 4) = 2 * (q : Int) + 4 := IntWalk.i64_in _ (by omega)
    have s4 : IntKind.i64.wrap ((mn : Int) + (2 * (q : Int) + 4)) = (mn : Int) + (2 * (q : Int) + 4) := IntWalk.i64_in _ (by have := HMN.out; omega)
    go_upto_region 8 with (fail)
    generalize wr.alloc (.cells #[.int .i64 what, .int .i64 handle, .int .i64 at_, .int .i64 len, sv name, .slice bA body.length bc] 40) = W1 at *
    generalize wr.heap.size = bx at *
    have H6 := Hidden.mk h6
    clear h6 x0 x1 x2 x3 x4 x5 HS
    go_wp2_with fail
    refine HDI.out.mono ?_
    rintro e w5 ⟨A5, c5, rfl, -, hb5⟩
    have HS5 := Hidden.mk (HS1.out.below hb5)
    have HDC := Hidden.mk (HDO.out w5 F GH HS5.out)
    obtain ⟨c0, c1, c2, c3, c4, c5'⟩ := H6.out.below hb5 hlt1
    have hlt5 : bx < w5.heap.size := Nat.lt_of_lt_of_le hlt1 hb5.size
    clear hb5 HDI HS1 H6 HDO
    unfold opV at HDC
    dsimp only at HDC
    go_wp2_with fail
    refine HDC.out.mono ?_
    rintro e w6 ⟨rfl, F6, GH6, hm6⟩
    have y0 : w6.cell? ⟨bx, 0, none⟩ = some (.int .i64 what) := by
      rw [← c0]
      simp only [World.cell?]
      rw [hm6.kp.block bx hlt5 HBX.out]
    have HP6 : Hidden (PlSt w w6 F6 GH6 s p d h nn np RK1.1) := ⟨by rw [HNX.out]; exact hm6.pl⟩
    have HNM : Hidden (RK1.2 = mn + so) := ⟨by rw [HNX.out]⟩
    clear hm6 HDC c0 c1 c2 c3 c4 c5' HS5 HNX HRK1 HBX
    by_cases h0 : R.2 = 0
    · rw [h0, errV0]
      by_cases hw6 : what = 6
      · subst hw6
        by_cases hqp : 0 < q
        · have d1 : decide (0 < (q : Int)) = true := by simp; omega
          have d1' : decide (0 < q) = true := by simpa using hqp
          have HSO : Hidden (so = 2 * q + 4) := ⟨by rw [HSE.out, if_pos ⟨h0, rfl, hqp⟩]⟩
          clear h0 hqp HSE
          go_wp2_with fail
          go_roundg (m - (k + 1))
          case measure => omega
          case rel => exact ⟨k + 1, F6, GH6, by omega, rfl, by go_num, by rw [hq1, HNM.out, HSO.out]; simp, by rw [hq1]; exact HP6⟩
        · have d1 : decide (0 < (q : Int)) = false := by simp; omega
          have d1' : decide (0 < q) = false := by simpa using hqp
          have HSO : Hidden (so = 0) := ⟨by rw [HSE.out, if_neg (fun x => hqp x.2.2)]⟩
          clear h0 hqp HSE
          go_wp2_with fail
          go_roundg (m - (k + 1))
          case measure => omega
          case rel => exact ⟨k + 1, F6, GH6, by omega, rfl, by go_num, by rw [hq1, HNM.out, HSO.out]; simp, by rw [hq1]; exact HP6⟩
      · have z6 : (what == 6) = false := by simpa using hw6
        have HSO : Hidden (so = 0) := ⟨by rw [HSE.out, if_neg (fun x => hw6 x.2.1)]⟩
        clear h0 hw6 HSE
        go_wp2_with fail
        go_roundg (m - (k + 1))
        case measure => omega
        case rel => exact ⟨k + 1, F6, GH6, by omega, rfl, by go_num, by rw [hq1, HNM.out, HSO.out]; simp, by rw [hq1]; exact HP6⟩
    · rw [errV_pos h0]
      have HSO : Hidden (so = 0) := ⟨by rw [HSE.out, if_neg (fun x => h0 x.1)]⟩
      clear h0 HSE
      go_wp2_with fail
      go_roundg (m - (k + 1))
      case measure => omega
      case rel => exact ⟨k + 1, F6, GH6, by omega, rfl, by go_num, by rw [hq1, HNM.out, HSO.out]; simp, by rw [hq1]; exact HP6⟩
end Go.Proofs.YtoieifphklodoaaGreat
