/- The contract of diff.Turn. -/
import Derived.Test.YthaffnhapfakgaaBack1
namespace Go.Proofs.Ythaffnhapfakgaa
open Go.RowKit Go.Shelf
attribute [local go_sem] Oper.semAt_some

/-- a change as it comes out of a slice that diff.Diff gave: its place, how it lies, what it is -/
structure Tc where
  ix : Nat
  el : El
  ch : Chg
def Tc.Good (w : World) (x : Tc) : Prop := x.el.at_ = x.ch.at_ ∧ ∃ go gn, x.el.ao = some ⟨go, 0, none⟩ ∧ x.el.an = some ⟨gn, 0, none⟩ ∧ x.el.no = x.ch.old.length ∧ x.el.nn = x.ch.new.length ∧ x.ch.old.length ≤ 6400 ∧ x.ch.new.length ≤ 6400 ∧
  Row w 5 go x.el.co x.ch.old ∧ Row w 5 gn x.el.cn x.ch.new
theorem turn_els {w : World} {A : Option Addr} : ∀ {L : List Chg}, (∀ c ∈ L, c.old.length ≤ 6400 ∧ c.new.length ≤ 6400) → RdC w A L →
    ∃ xs : List { x : Tc // x.Good w }, xs.map (fun x => x.1.ch) = L ∧ ElsAt (fun x => x.1.el) (fun x => x.1.ix) w.heap.size w A xs := by
  intro L hlen hrd
  have hx : ∀ k, k ≤ L.length → ∃ xs : List { x : Tc // x.Good w }, xs.map (fun x => x.1.ch) = L.take k ∧ ElsAt (fun x => x.1.el) (fun x => x.1.ix) w.heap.size w A xs := by
    intro k
    induction k with
    | zero => exact fun _ => ⟨[], by simp, fun j hj => by simp at hj⟩
    | succ k ih =>
      intro hk
      obtain ⟨xs, hm, he⟩ := ih (by omega)
      obtain ⟨g, off, go, co, gn, cn, hA, hc⟩ := hrd k (by omega)
      have hlk := hlen L[k] (List.getElem_mem _)
      refine ⟨xs ++ [⟨⟨k, ⟨L[k].at_, some ⟨go, 0, none⟩, L[k].old.length, co, some ⟨gn, 0, none⟩, L[k].new.length, cn⟩, L[k]⟩, rfl, go, gn, rfl, rfl, rfl, rfl, hlk.1, hlk.2, hc.rowO, hc.rowN⟩], ?_, ?_⟩
      · rw [List.map_append, hm, List.take_succ_eq_append_getElem (by omega)]
        rfl
      · have hl : xs.length = k := by
          have := congrArg List.length hm
          simp at this
          omega
        intro j hj
        rw [List.length_append, List.length_singleton] at hj
        by_cases hjk : j < xs.length
        · rw [List.getElem_append_left hjk]; exact he j hjk
        · obtain rfl : j = k := by omega
          rw [List.getElem_append_right (by omega)]
          simp only [hl, Nat.sub_self, List.getElem_cons_zero]
          exact ⟨trivial, g, off, hA, block_lt_of_cell hc.at_, hc.at_, hc.old, hc.new⟩
  have := hx L.length (Nat.le_refl _)
  rwa [List.take_length] at this

theorem ChAt.kept {X Y : World} {row : Option Nat} {base i : Nat} {xs : List Value} {c : Chg} (h : ChAt X base xs i c) (hg : X.grownBy Y row) (hr : ∀ r, row = some r → ∃ o : Obj, X.heap[r]? = some o ∧ o.isCells = false) : ChAt Y base xs i c := by
  obtain ⟨go, co, gn, cn, h1, h2, e0, e1, e2, r1, r2⟩ := h
  have hne : ∀ {g cap : Nat} {l : Bytes}, Row X 5 g cap l → row ≠ some g := fun h e => by
    obtain ⟨o, ho, hc⟩ := hr _ e
    obtain ⟨cur, h0, _⟩ := h
    rw [h0] at ho
    cases ho
    cases hc
  exact ⟨go, co, gn, cn, h1, h2, e0, e1, e2, r1.grown hg (hne r1), r2.grown hg (hne r2)⟩
theorem ownC_own {β : Type} (n₀ B : Nat) (t : TypeId) (f : β → List Chg) : Go.Own (fun s W => ∃ v, Boxed W B t v ∧ OwnC W n₀ v (f s)) := by
  rintro s X Y row ⟨v, hv, xs, hr, hat⟩ hg hrow
  refine ⟨v, hv.kept hg (fun e' => ?_), xs, hr.kept hg ?_, fun i hi => (hat i hi).kept hg hrow⟩
  · obtain ⟨o, ho, hc⟩ := hrow B e'.symm
    rw [show X.heap[B]? = _ from hv] at ho; cases ho; cases hc
  · rcases hr.2 with ⟨rfl, _⟩ | ⟨g, cap, cur, rfl, _, hgb, _⟩
    · exact .inl rfl
    · refine .inr fun e' => ?_
      obtain ⟨o, ho, hc⟩ := hrow g (by simpa [Value.ownBlock] using e'.symm)
      rw [hgb] at ho; cases ho; cases hc

set_option maxRecDepth 100000 in
set_option maxHeartbeats 2000000 in
theorem turn_any (A : Option Addr) (m d : Nat) (L : List Chg) (w : World) (hm : L.length = m) (hm2 : m ≤ 100000) (hlen : ∀ c ∈ L, c.old.length ≤ 6400 ∧ c.new.length ≤ 6400) (hrd : RdC w A L) :
    Calls Try.prog 8 #[.slice A m d] w fun e w' => ∃ v, e = .returned v ∧ OwnC w' w.heap.size v (turnL L) ∧ Below w.heap.size w w' := by
  obtain ⟨xs, hxs, hels⟩ := turn_els hlen hrd
  have hxl : xs.length = m := by rw [← hm, ← hxs]; simp
  subst hxl
  refine (callsIn_wide (n := 10)).1 ?_
  refine callsIn_of_wp_marks Try.func8 rfl trivial ?_ rfl
  simp only [Try.ntmps8, List.size_toArray, List.length_cons, List.length_nil, Nat.reduceAdd, Nat.reduceSub, Array.replicate_succ, Array.replicate_zero, List.push_toArray, List.append_toArray, List.nil_append, List.cons_append]
  gi_wp2_with (refine ⟨trivial, ?_⟩; gi_at_call 19; refine (back_in _ _ trivial rfl _ _ _ _).mono ?_; rintro e w' ⟨rfl, rfl⟩)
  have bV0 := (Boxed.new w 23 (.slice none 0 0)).alloc (.cells #[.slice A xs.length d] 23)
  have bS0 := Boxed.new (w.alloc (.cells #[.slice none 0 0] 23)) 23 (.slice A xs.length d)
  rw [World.size_alloc] at bS0
  have hB0 : Below w.heap.size w ((w.alloc (.cells #[.slice none 0 0] 23)).alloc (.cells #[.slice A xs.length d] 23)) := ((Below.refl _ w).alloc (Nat.le_refl _) _).alloc (by simp) _
  have hsz : ((w.alloc (.cells #[.slice none 0 0] 23)).alloc (.cells #[.slice A xs.length d] 23)).heap.size = w.heap.size + 2 := by simp
  obtain ⟨W0, hW0⟩ : ∃ W0, (w.alloc (.cells #[.slice none 0 0] 23)).alloc (.cells #[.slice A xs.length d] 23) = W0 := ⟨_, rfl⟩
  try simp only [World.size_alloc]
  rw [hW0] at bV0 bS0 hB0 hsz ⊢
  clear hW0
  have hQL : ∀ (pre : List { x : Tc // x.Good w }) (W : World), True := fun _ _ => trivial
  refine wpIn_rangeFunc_ownH rfl (by omega) (gf := 30) (lb := #[.pointer (some ⟨w.heap.size + 1, 0, none⟩)]) rfl trivial (enters_of Try.func30 (by kernel_rfl) rfl)
    (back_stops (fun x : { x : Tc // x.Good w } => x.1.el) (fun x => x.1.ix) Fence.wide _ trivial rfl (by omega) (w.heap.size + 1) w.heap.size d A xs hm2 W0 (by omega) (by omega) bS0.cell (hels.below hB0))
    (fun h k => h.trans k) (fun W l o o' hl ho hc hw => ⟨belowK_b (w := W0) (by omega) W l o o' hl ho hc hw, World.putObj_heap_other (by omega)⟩) (Below.refl _ _) (fun _ => rfl)
    (fun pre W => ((∃ v, Boxed W w.heap.size 23 v ∧ OwnC W w.heap.size v (pre.map fun x => turnC x.1.ch)) ∧ Boxed W (w.heap.size + 1) 23 (.slice A xs.length d)) ∧ Below w.heap.size w W)
    (fun _ _ _ => False)
    (OwnFrom.and (OwnFrom.and (Own.from (ownC_own _ _ _ _) _) (Own.from (boxed_own _ _ _) _)) (ownFrom_below (Nat.le_refl _) (by omega)))
    (fun _ _ _ _ _ hs _ _ => hs)
    ⟨⟨⟨_, bV0, [], World.ownsRow_nil _ _ _ _, by simp⟩, bS0⟩, hB0⟩
    (fun x a' W => ∃ Bx, w.heap.size + 1 < Bx ∧ W.heap[Bx]? = some (.cells #[.int .i64 x.1.el.at_, .slice x.1.el.ao x.1.el.no x.1.el.co, .slice x.1.el.an x.1.el.nn x.1.el.cn] 29 (0, 0)) ∧ (∃ v, Boxed W w.heap.size 23 v ∧ v.ownBlock ≠ some Bx) ∧
      a' = { tmps := #[.slice A xs.length d, undef, .slice none 0 0, .pointer (some ⟨w.heap.size, 0, none⟩), undef, .pointer (some ⟨Bx, 0, none⟩), .slice A xs.length d, .func (.func 30) #[] #[.pointer (some ⟨w.heap.size + 1, 0, none⟩)], .int .i64 (x.1.ix : Int), x.1.el.enc, undef, undef, undef, undef, undef, undef, undef, undef, undef, undef, undef, undef, undef], defers := [] })
    (fun x a' _ X Y row hs hg hr => by
      obtain ⟨Bx, h1, h2, ⟨v, hv, hne⟩, h3⟩ := hs
      refine ⟨Bx, h1, (hg.block Bx (Array.getElem?_eq_some_iff.1 h2).1 (fun e => ?_)).trans h2, ⟨v, boxed_own w.heap.size 23 (fun (_ : Unit) => v) () X Y row hv hg (fun r e => (hr r e).2), hne⟩, h3⟩
      obtain ⟨_, o, ho, hc⟩ := hr _ e.symm
      rw [h2] at ho; cases ho; cases hc)
    ?assign ?body ?done ?stop
  case assign =>
    rintro l pre x W K ⟨⟨⟨v, bV, hv⟩, bS⟩, hB⟩ hK
    have hlW := bS.lt
    simp only [El.enc]
    gi_wp2
    refine hK _ _ ((KeepsOthers.alloc _ _).from _) ⟨(Below.refl _ W).alloc hB.size _, Below.heap_alloc W _ _ hlW⟩ ⟨⟨⟨v, bV.alloc _, ?_⟩, bS.alloc _⟩, hB.alloc hB.size _⟩ ⟨W.heap.size, by omega, World.alloc_heap_new W _, ⟨v, bV.alloc _, ?_⟩, rfl⟩
    rotate_left
    · obtain ⟨ys, hy, _⟩ := hv
      exact fun e => by have := (hy.lt _ e).2; omega
    obtain ⟨ys, hy, hat⟩ := hv
    exact ⟨ys, hy.alloc _, fun i hi => (hat i hi).kept (World.grownBy_alloc W _ none) (fun _ h => by cases h)⟩
  case done =>
    rintro D ys W hD rfl ⟨⟨⟨v, bV, hv⟩, bS⟩, hB⟩ hK
    have cV := bV.cell
    gi_wp2
    refine ⟨by simp, .inl ⟨_, _, rfl, run_takeDeferred hK, ?_⟩⟩
    refine ⟨_, results_tmp rfl _ _ _, _, rfl, ?_, hB.trans (belowK_b (w := w) (Nat.le_refl _) W D _ _ (by omega) hK rfl rfl)⟩
    have hmap : xs.reverse.map (fun x => turnC x.1.ch) = turnL L := by
      rw [← hxs]; simp [turnL]
    rw [hmap] at hv
    obtain ⟨zs, hz, hat⟩ := hv
    exact ⟨zs, ownsRow_putObj hz _ hK rfl, fun i hi => (hat i hi).kept (grownBy_putObj' W D _) (fun r e => by cases e; exact ⟨_, hK, rfl⟩)⟩
  case stop =>
    rintro D c pre W _ _ h _
    exact h.elim
  case body =>
    rintro l pre ⟨⟨ix, ⟨at0, ao, no, co, an, nn, cn⟩, ⟨at1, old, new⟩⟩, hgood⟩ a' W hl ⟨r, hr⟩ ⟨⟨⟨v, bV, hv⟩, bS⟩, hB⟩ ⟨Bx, hBx, bX, ⟨vq, bVq, hne⟩, rfl⟩ hlt
    obtain ⟨e1, go, gn, e2, e3, e4, e5, ho6, hn6, rowO, rowN⟩ := id hgood
    dsimp only at bX rowO rowN ho6 hn6 e1 e2 e3 e4 e5
    subst e1 e2 e3 e4 e5
    simp only [El.enc]
    have hrO := rowO.rd.below hB
    have hrN := rowN.rd.below hB
    have hx0 : W.cell? ⟨Bx, 0, none⟩ = some (.int .i64 at0) := by simp [World.cell?, bX]
    have hx1 : W.cell? ⟨Bx, 1, none⟩ = some (.slice (some ⟨go, 0, none⟩) old.length co) := by simp [World.cell?, bX]
    have hx2 : W.cell? ⟨Bx, 2, none⟩ = some (.slice (some ⟨gn, 0, none⟩) new.length cn) := by simp [World.cell?, bX]
    have hxB : Bx < W.heap.size := (Array.getElem?_eq_some_iff.1 bX).1
    have cV := bV.cell
    have hBV := bV.lt
    have hBS := bS.lt
    obtain rfl : v = vq := by have := bVq.cell; rw [cV] at this; exact Option.some.inj this
    obtain ⟨zs, hzs, hat⟩ := hv
    obtain ⟨i0, hi0, hz0, hz1, hz2⟩ := info_parts change_info
    have hml : (pre.map fun x => turnC x.1.ch).length < 100000 := by rw [List.length_map]; omega
    have hS : ∀ W' : World, W'.heap[Bx]? = W.heap[Bx]? → W'.cell? ⟨Bx, 0, none⟩ = some (.int .i64 at0) ∧ W'.cell? ⟨Bx, 1, none⟩ = some (.slice (some ⟨go, 0, none⟩) old.length co) ∧ W'.cell? ⟨Bx, 2, none⟩ = some (.slice (some ⟨gn, 0, none⟩) new.length cn) := fun W' h => by
      refine ⟨?_, ?_, ?_⟩ <;> simp [World.cell?, h, bX]
    have HS := Hidden.mk hS
    have cO : ∀ W1, Below W.heap.size W W1 → Calls Try.prog 17 #[.slice (some ⟨go, 0, none⟩) old.length co] W1 fun e w' => ∃ g cap, e = .returned (.slice (some ⟨g, 0, none⟩) old.length cap) ∧ W1.heap.size ≤ g ∧ Row w' 5 g cap old ∧ Below W1.heap.size W1 w' := fun W1 h1 =>
      clone_some _ _ _ old W1 rfl (by omega) (hrO.below h1)
    have cN : ∀ W1, Below W.heap.size W W1 → Calls Try.prog 17 #[.slice (some ⟨gn, 0, none⟩) new.length cn] W1 fun e w' => ∃ g cap, e = .returned (.slice (some ⟨g, 0, none⟩) new.length cap) ∧ W1.heap.size ≤ g ∧ Row w' 5 g cap new ∧ Below W1.heap.size W1 w' := fun W1 h1 =>
      clone_some _ _ _ new W1 rfl (by omega) (hrN.below h1)
    have HO := Hidden.mk cO
    have HN := Hidden.mk cN
    clear cO cN hS
    have FIN : ∀ (W2 w3 : World) (v' : Value) (g1 cap1 g2 cap2 : Nat), Below W.heap.size W W2 → W.heap.size ≤ g1 → W.heap.size ≤ g2 → Row W2 5 g1 cap1 new → Row W2 5 g2 cap2 old →
        (W2.alloc (.cells #[.int .i64 at0, .slice (some ⟨g1, 0, none⟩) new.length cap1, .slice (some ⟨g2, 0, none⟩) old.length cap2] 29)).grownBy w3 v.ownBlock →
        w3.ownsRow w.heap.size 29 3 v' ((pre.map fun x => turnC x.1.ch).length + 1) (zs ++ [.int .i64 at0, .slice (some ⟨g1, 0, none⟩) new.length cap1, .slice (some ⟨g2, 0, none⟩) old.length cap2]) →
        Boxed w3 w.heap.size 23 v ∧ (w3.setCell ⟨w.heap.size, 0, none⟩ v').heap[Bx]? = W.heap[Bx]? ∧ w3.heap[Bx]? = W.heap[Bx]? ∧
        (KeepsFrom W0.heap.size W (w3.setCell ⟨w.heap.size, 0, none⟩ v') ∧ KeepB w.heap.size (w.heap.size + 1) W (w3.setCell ⟨w.heap.size, 0, none⟩ v') ∧
        (((∃ v, Boxed (w3.setCell ⟨w.heap.size, 0, none⟩ v') w.heap.size 23 v ∧ OwnC (w3.setCell ⟨w.heap.size, 0, none⟩ v') w.heap.size v ((pre ++ [(⟨⟨ix, ⟨at0, some ⟨go, 0, none⟩, old.length, co, some ⟨gn, 0, none⟩, new.length, cn⟩, ⟨at0, old, new⟩⟩, hgood⟩ : { x : Tc // x.Good w })]).map fun x => turnC x.1.ch)) ∧ Boxed (w3.setCell ⟨w.heap.size, 0, none⟩ v') (w.heap.size + 1) 23 (.slice A xs.length d)) ∧ Below w.heap.size w (w3.setCell ⟨w.heap.size, 0, none⟩ v'))) := by
      intro W2 w3 v' g1 cap1 g2 cap2 hb2 hg1 hg2 hr1 hr2 hgrow hown'
      have hgW : W.grownBy w3 v.ownBlock := grown_trans' (hb2.alloc hb2.size _) hgrow
      have hnB : some w.heap.size ≠ v.ownBlock := bV.not_row (by decide) hzs
      have hnS : some (w.heap.size + 1) ≠ v.ownBlock := bS.not_row (by decide) hzs
      have bV3 : Boxed w3 w.heap.size 23 v := bV.kept hgW hnB
      have bS3 : Boxed w3 (w.heap.size + 1) 23 (.slice A xs.length d) := bS.kept hgW hnS
      have hal : Below W2.heap.size W2 (W2.alloc (.cells #[.int .i64 at0, .slice (some ⟨g1, 0, none⟩) new.length cap1, .slice (some ⟨g2, 0, none⟩) old.length cap2] 29)) := (Below.refl _ _).alloc (Nat.le_refl _) _
      have hne1 : v.ownBlock ≠ some g1 := fun e => by have := (hzs.lt _ e).2; omega
      have hne2 : v.ownBlock ≠ some g2 := fun e => by have := (hzs.lt _ e).2; omega
      have hr1' := (hr1.below hal hr1.lt).grown hgrow hne1
      have hr2' := (hr2.below hal hr2.lt).grown hgrow hne2
      have hoc : OwnC w3 w.heap.size v' ((pre.map fun x => turnC x.1.ch) ++ [⟨at0, new, old⟩]) := OwnC.snoc hzs hat hown' hgW hr1' hr2' rfl rfl (by have := hB.size; omega) (by have := hB.size; omega)
      have hfix : ∀ k, k < W.heap.size → k ≠ w.heap.size → some k ≠ v.ownBlock → (w3.setCell ⟨w.heap.size, 0, none⟩ v').heap[k]? = W.heap[k]? := fun k hk h1 h2 => (Below.heap_setCell _ _ _ _ h1).trans (hgW.block k hk h2)
      have hbk : ∀ k, v.ownBlock = some k → w.heap.size ≤ k := fun k e => (hzs.lt _ e).1
      have hsize : W.heap.size ≤ (w3.setCell ⟨w.heap.size, 0, none⟩ v').heap.size := by simpa using hgW.size
      have hbel : Below w.heap.size W (w3.setCell ⟨w.heap.size, 0, none⟩ v') := ⟨hgW.os, hgW.tape, hgW.output, hsize, fun k hk => hfix k (by have := hB.size; omega) (by omega) (fun e => by have := hbk k e.symm; omega)⟩
      have hcells : ∀ k o, W.heap[k]? = some o → o.isCells = false → k ≠ w.heap.size ∧ some k ≠ v.ownBlock := fun k o ho hc => by
        refine ⟨fun e => ?_, fun e => ?_⟩
        · rw [e, show W.heap[w.heap.size]? = _ from bV] at ho; cases ho; cases hc
        · rcases hzs.2 with ⟨rfl, _⟩ | ⟨g, cap, cur, rfl, _, hgb, _⟩
          · simp [Value.ownBlock] at e
          · obtain rfl : k = g := by simpa [Value.ownBlock] using e
            rw [hgb] at ho; cases ho; cases hc
      refine ⟨bV3, hfix Bx hxB (by omega) (fun e => hne e.symm), hgW.block Bx hxB (fun e => hne e.symm), ⟨hsize, fun k o _ ho hc => ?_⟩, ⟨hbel, hfix _ hBS (by omega) hnS⟩, ⟨⟨v', bV3.set v', ?_⟩, bS3.other (by omega) _⟩, hB.trans hbel⟩
      · obtain ⟨h1, h2⟩ := hcells k o ho hc
        exact (hfix k (Array.getElem?_eq_some_iff.1 ho).1 h1 h2).trans ho
      · rw [List.map_append, List.map_singleton]
        obtain ⟨ys, hy, hyat⟩ := hoc
        refine ⟨ys, hy.kept (grownBy_setCell' w3 w.heap.size v') (.inr (bV3.not_row (by decide) hy).symm), fun i hi => ?_⟩
        obtain ⟨q1, c1, q2, c2, l1, l2, x0, x1, x2, r1, r2⟩ := hyat i hi
        have hrn : ∀ {g cap : Nat} {l : Bytes}, Row w3 5 g cap l → (some w.heap.size : Option Nat) ≠ some g := fun h e => by
          obtain rfl := Option.some.inj e
          obtain ⟨cur, h0, _⟩ := h
          rw [show w3.heap[w.heap.size]? = _ from bV3] at h0
          have := congrArg (fun o => match o with | some (Obj.cells _ t _) => t | _ => 0) h0
          simp at this
        exact ⟨q1, c1, q2, c2, l1, l2, x0, x1, x2, r1.grown (grownBy_setCell' w3 w.heap.size v') (hrn r1), r2.grown (grownBy_setCell' w3 w.heap.size v') (hrn r2)⟩
    have HF := Hidden.mk FIN
    clear FIN
    gi_wp2
    refine wpIn_region_heldR (S := (fun W' : World => W'.cell? ⟨Bx, 0, none⟩ = some (.int .i64 at0) ∧ W'.cell? ⟨Bx, 1, none⟩ = some (.slice (some ⟨go, 0, none⟩) old.length co) ∧ W'.cell? ⟨Bx, 2, none⟩ = some (.slice (some ⟨gn, 0, none⟩) new.length cn))) (by kernel_rfl) (by kernel_rfl) (by rintro ⟨_, _, h⟩; exact h) (HS.out _ rfl) (fun hHeld => ?_)
    refine wpAnyH_take (i := 1) (oi := { dst := some 11, op := Op.fieldAddr 29 (Operand.tmp 5) 0, type := 0, pos := "diff.go:59", after := #[], guard := none }) (v := ?_) rfl (by kernel_rfl) (by kernel_rfl) (by kernel_rfl) (fun _ _ _ h => h) (Or.inl ⟨by rfl, ?_⟩) hHeld ?_
    rotate_left
    · intro w' hSw
      obtain ⟨hs0, hs1, hs2⟩ := hSw
      go_simp
      try with_reducible rfl
    try simp only [Act.put, List.setIfInBounds_toArray, List.set_cons_zero, List.set_cons_succ]
    refine wpAnyH_take (i := 2) (oi := { dst := some 12, op := Op.load 3 (Operand.tmp 11), type := 3, pos := "diff.go:59", after := #[{ on := 1, ground := Ground.data }], guard := none }) (v := ?_) rfl (by kernel_rfl) (by kernel_rfl) (by kernel_rfl) (fun _ _ _ h => h) (Or.inl ⟨by rfl, ?_⟩) hHeld ?_
    rotate_left
    · intro w' hSw
      obtain ⟨hs0, hs1, hs2⟩ := hSw
      go_simp
      try with_reducible rfl
    try simp only [Act.put, List.setIfInBounds_toArray, List.set_cons_zero, List.set_cons_succ]
    refine wpAnyH_take (i := 3) (oi := { dst := some 13, op := Op.fieldAddr 29 (Operand.tmp 5) 2, type := 0, pos := "diff.go:59", after := #[], guard := none }) (v := ?_) rfl (by kernel_rfl) (by kernel_rfl) (by kernel_rfl) (fun _ _ _ h => h) (Or.inl ⟨by rfl, ?_⟩) hHeld ?_
    rotate_left
    · intro w' hSw
      obtain ⟨hs0, hs1, hs2⟩ := hSw
      go_simp
      try with_reducible rfl
    try simp only [Act.put, List.setIfInBounds_toArray, List.set_cons_zero, List.set_cons_succ]
    refine wpAnyH_take (i := 4) (oi := { dst := some 14, op := Op.load 22 (Operand.tmp 13), type := 22, pos := "diff.go:59", after := #[{ on := 3, ground := Ground.data }], guard := none }) (v := ?_) rfl (by kernel_rfl) (by kernel_rfl) (by kernel_rfl) (fun _ _ _ h => h) (Or.inl ⟨by rfl, ?_⟩) hHeld ?_
    rotate_left
    · intro w' hSw
      obtain ⟨hs0, hs1, hs2⟩ := hSw
      go_simp
      try with_reducible rfl
    try simp only [Act.put, List.setIfInBounds_toArray, List.set_cons_zero, List.set_cons_succ]
    refine wpAnyH_take (i := 6) (oi := { dst := some 16, op := Op.fieldAddr 29 (Operand.tmp 5) 1, type := 0, pos := "diff.go:59", after := #[], guard := none }) (v := ?_) rfl (by kernel_rfl) (by kernel_rfl) (by kernel_rfl) (fun _ _ _ h => h) (Or.inl ⟨by rfl, ?_⟩) hHeld ?_
    rotate_left
    · intro w' hSw
      obtain ⟨hs0, hs1, hs2⟩ := hSw
      go_simp
      try with_reducible rfl
    try simp only [Act.put, List.setIfInBounds_toArray, List.set_cons_zero, List.set_cons_succ]
    refine wpAnyH_take (i := 7) (oi := { dst := some 17, op := Op.load 22 (Operand.tmp 16), type := 22, pos := "diff.go:59", after := #[{ on := 6, ground := Ground.data }], guard := none }) (v := ?_) rfl (by kernel_rfl) (by kernel_rfl) (by kernel_rfl) (fun _ _ _ h => h) (Or.inl ⟨by rfl, ?_⟩) hHeld ?_
    rotate_left
    · intro w' hSw
      obtain ⟨hs0, hs1, hs2⟩ := hSw
      go_simp
      try with_reducible rfl
    try simp only [Act.put, List.setIfInBounds_toArray, List.set_cons_zero, List.set_cons_succ]
    have hb0 : Below W.heap.size W W.drew := (Below.refl _ _).drew
    refine wpAnyH_ready (rs := [0, 5]) (by kernel_rfl) (by simp) ?_
    refine AllReadyH.cons (o := { dst := some 10, op := Op.load 23 (Operand.tmp 3), type := 23, pos := "diff.go:59", after := #[], guard := none }) rfl (fun K hK => ?_) ?_
    ·
      have cVx := (hb0.cell (p := ⟨w.heap.size, 0, none⟩) hBV).trans cV
      rw [if_pos (by rfl)]
      go_simp
      refine hK.out _ _ (HS.out _ (hb0.block Bx hxB)) (fun hHeld => ?_)
      clear hK K
      try simp only [Act.put, List.setIfInBounds_toArray, List.set_cons_zero, List.set_cons_succ]
      clear cVx
      refine wpAnyH_ready (rs := [5]) (by kernel_rfl) (by simp) ?_
      refine AllReadyH.cons (o := { dst := some 15, op := Op.call { callee := Callee.value (Operand.func 17), args := #[Operand.tmp 14], argTypes := #[22] }, type := 22, pos := "diff.go:59", after := #[{ on := 4, ground := Ground.data }], guard := none }) rfl (fun K hK => ?_) ?_
      ·
        rw [if_pos (by rfl)]
        go_simp
        go_at_call 17
        refine (HN.out _ hb0).mono ?_
        rintro e w1 ⟨g1, cap1, rfl, hg1, hrow1, hb1⟩
        dsimp only
        have hb5 := hb0.trans (hb1.mono hb0.size)
        have hG1 : W.heap.size ≤ g1 := Nat.le_trans hb0.size hg1
        refine hK.out _ _ (HS.out _ (hb5.block Bx hxB)) (fun hHeld => ?_)
        clear hK K
        try simp only [Act.put, List.setIfInBounds_toArray, List.set_cons_zero, List.set_cons_succ]
        refine wpAnyH_ready (rs := [8]) (by kernel_rfl) (by simp) ?_
        refine AllReadyH.cons (o := { dst := some 18, op := Op.call { callee := Callee.value (Operand.func 17), args := #[Operand.tmp 17], argTypes := #[22] }, type := 22, pos := "diff.go:59", after := #[{ on := 7, ground := Ground.data }, { on := 5, ground := Ground.chain }], guard := none }) rfl (fun K hK => ?_) ?_
        ·
          rw [if_pos (by rfl)]
          go_simp
          go_at_call 17
          refine (HO.out _ hb5).mono ?_
          rintro e w2 ⟨g2, cap2, rfl, hg2, hrow2, hb2⟩
          dsimp only
          have hb8 := hb5.trans (hb2.mono hb5.size)
          have hG2 : W.heap.size ≤ g2 := Nat.le_trans hb5.size hg2
          have hrow1' := hrow1.below hb2 hrow1.lt
          refine hK.out _ _ (HS.out _ (hb8.block Bx hxB)) (fun hHeld => ?_)
          clear hK K
          try simp only [Act.put, List.setIfInBounds_toArray, List.set_cons_zero, List.set_cons_succ]
          refine wpAnyH_take (i := 9) (oi := { dst := some 19, op := Op.build 29 #[(0, Operand.tmp 12), (1, Operand.tmp 15), (2, Operand.tmp 18)], type := 29, pos := "diff.go:59", after := #[{ on := 2, ground := Ground.data }, { on := 5, ground := Ground.data }, { on := 8, ground := Ground.data }], guard := none }) (v := ?_) rfl (by kernel_rfl) (by kernel_rfl) (by kernel_rfl) (fun _ _ _ h => h) (Or.inl ⟨by rfl, ?_⟩) hHeld ?_
          rotate_left
          · intro w' hSw
            obtain ⟨hs0, hs1, hs2⟩ := hSw
            go_simp
            try with_reducible rfl
          try simp only [Act.put, List.setIfInBounds_toArray, List.set_cons_zero, List.set_cons_succ]
          refine wpAnyH_ready (rs := [10]) (by kernel_rfl) (by simp) ?_
          refine AllReadyH.cons (o := { dst := some 20, op := Op.buildSlice 23 1 #[(0, Operand.tmp 19)], type := 23, pos := "diff.go:59", after := #[{ on := 9, ground := Ground.data }], guard := none }) rfl (fun K hK => ?_) ?_
          ·
            rw [if_pos (by rfl)]
            go_simp
            refine hK.out _ _ (HS.out _ ((hb8.alloc hb8.size _).block Bx hxB)) (fun hHeld => ?_)
            clear hK K
            try simp only [Act.put, List.setIfInBounds_toArray, List.set_cons_zero, List.set_cons_succ]
            refine wpAnyH_ready (rs := [11]) (by kernel_rfl) (by simp) ?_
            refine AllReadyH.cons (o := { dst := some 21, op := Op.call { callee := Callee.builtin Builtin.append, args := #[Operand.tmp 10, Operand.tmp 20], argTypes := #[23, 23] }, type := 23, pos := "diff.go:59", after := #[{ on := 0, ground := Ground.data }, { on := 10, ground := Ground.data }, { on := 8, ground := Ground.chain }], guard := none }) rfl (fun K hK => ?_) ?_
            ·
              refine step_append_lies _ (by rfl) _ _ _ (by rfl) w.heap.size 29 i0 _ 3 56 Try.underlying23 hi0 hz0 hz1 hz2 rfl (by omega) v (pre.map fun x => turnC x.1.ch).length zs (by rfl) (own_below hzs (hb8.alloc hb8.size _))
                ⟨w2.heap.size, 0, none⟩ 1 1 [.int .i64 at0, .slice (some ⟨g1, 0, none⟩) new.length cap1, .slice (some ⟨g2, 0, none⟩) old.length cap2] (by rfl) (by rfl) (World.news_of_block (cs := #[.int .i64 at0, .slice (some ⟨g1, 0, none⟩) new.length cap1, .slice (some ⟨g2, 0, none⟩) old.length cap2]) (t := 29) (fr := (0, 0)) (heap_alloc_new w2 _)) (by simp [Value.oneCell'])
                (by omega) (by simp only [maxLen]; omega) (by omega) (by have h1 := hb8.size; have h2 := hB.size; simp; omega) (w2.heap.size + 1) (by simp) ?_
              intro gg cap w3 hown3 hgrow hat3 hlt3
              obtain ⟨bV3, hX4, hX3, hfin⟩ := HF.out w2 w3 _ g1 cap1 g2 cap2 hb8 hG1 hG2 hrow1' hrow2 hgrow hown3
              simp only [List.length_map] at hX4 hfin
              have cV3 := bV3.cell
              have fV3 := bV3.frozen
              refine hK.out _ _ (HS.out _ hX3) (fun hHeld => ?_)
              clear hK K
              try simp only [Act.put, List.setIfInBounds_toArray, List.set_cons_zero, List.set_cons_succ]
              refine wpAnyH_ready (rs := [12]) (by kernel_rfl) (by simp) ?_
              refine AllReadyH.cons (o := { dst := none, op := Op.store 23 (Operand.tmp 3) (Operand.tmp 21), type := 0, pos := "diff.go:59", after := #[{ on := 11, ground := Ground.data }, { on := 11, ground := Ground.chain }, { on := 0, ground := Ground.phase }, { on := 1, ground := Ground.phase }, { on := 2, ground := Ground.phase }, { on := 3, ground := Ground.phase }, { on := 4, ground := Ground.phase }, { on := 5, ground := Ground.phase }, { on := 6, ground := Ground.phase }, { on := 7, ground := Ground.phase }, { on := 8, ground := Ground.phase }, { on := 9, ground := Ground.phase }, { on := 10, ground := Ground.phase }, { on := 11, ground := Ground.phase }], guard := none }) rfl (fun K hK => ?_) ?_
              ·
                rw [if_pos (by rfl)]
                go_simp
                refine hK.out _ _ (HS.out _ hX4) (fun hHeld => ?_)
                clear hK K
                try simp only [Act.put, List.setIfInBounds_toArray, List.set_cons_zero, List.set_cons_succ]
                refine wpAnyH_done (by kernel_rfl) ?_ _
                exact hfin
              exact AllReadyH.nil
            exact AllReadyH.nil
          exact AllReadyH.nil
        exact AllReadyH.nil
      exact AllReadyH.nil
    refine AllReadyH.cons (o := { dst := some 15, op := Op.call { callee := Callee.value (Operand.func 17), args := #[Operand.tmp 14], argTypes := #[22] }, type := 22, pos := "diff.go:59", after := #[{ on := 4, ground := Ground.data }], guard := none }) rfl (fun K hK => ?_) ?_
    ·
      rw [if_pos (by rfl)]
      go_simp
      go_at_call 17
      refine (HN.out _ hb0).mono ?_
      rintro e w1 ⟨g1, cap1, rfl, hg1, hrow1, hb1⟩
      dsimp only
      have hb5 := hb0.trans (hb1.mono hb0.size)
      have hG1 : W.heap.size ≤ g1 := Nat.le_trans hb0.size hg1
      refine hK.out _ _ (HS.out _ (hb5.block Bx hxB)) (fun hHeld => ?_)
      clear hK K
      try simp only [Act.put, List.setIfInBounds_toArray, List.set_cons_zero, List.set_cons_succ]
      refine wpAnyH_ready (rs := [0, 8]) (by kernel_rfl) (by simp) ?_
      refine AllReadyH.cons (o := { dst := some 10, op := Op.load 23 (Operand.tmp 3), type := 23, pos := "diff.go:59", after := #[], guard := none }) rfl (fun K hK => ?_) ?_
      ·
        have cVx := (hb5.cell (p := ⟨w.heap.size, 0, none⟩) hBV).trans cV
        rw [if_pos (by rfl)]
        go_simp
        refine hK.out _ _ (HS.out _ (hb5.block Bx hxB)) (fun hHeld => ?_)
        clear hK K
        try simp only [Act.put, List.setIfInBounds_toArray, List.set_cons_zero, List.set_cons_succ]
        clear cVx
        refine wpAnyH_ready (rs := [8]) (by kernel_rfl) (by simp) ?_
        refine AllReadyH.cons (o := { dst := some 18, op := Op.call { callee := Callee.value (Operand.func 17), args := #[Operand.tmp 17], argTypes := #[22] }, type := 22, pos := "diff.go:59", after := #[{ on := 7, ground := Ground.data }, { on := 5, ground := Ground.chain }], guard := none }) rfl (fun K hK => ?_) ?_
        ·
          rw [if_pos (by rfl)]
          go_simp
          go_at_call 17
          refine (HO.out _ hb5).mono ?_
          rintro e w2 ⟨g2, cap2, rfl, hg2, hrow2, hb2⟩
          dsimp only
          have hb8 := hb5.trans (hb2.mono hb5.size)
          have hG2 : W.heap.size ≤ g2 := Nat.le_trans hb5.size hg2
          have hrow1' := hrow1.below hb2 hrow1.lt
          refine hK.out _ _ (HS.out _ (hb8.block Bx hxB)) (fun hHeld => ?_)
          clear hK K
          try simp only [Act.put, List.setIfInBounds_toArray, List.set_cons_zero, List.set_cons_succ]
          refine wpAnyH_take (i := 9) (oi := { dst := some 19, op := Op.build 29 #[(0, Operand.tmp 12), (1, Operand.tmp 15), (2, Operand.tmp 18)], type := 29, pos := "diff.go:59", after := #[{ on := 2, ground := Ground.data }, { on := 5, ground := Ground.data }, { on := 8, ground := Ground.data }], guard := none }) (v := ?_) rfl (by kernel_rfl) (by kernel_rfl) (by kernel_rfl) (fun _ _ _ h => h) (Or.inl ⟨by rfl, ?_⟩) hHeld ?_
          rotate_left
          · intro w' hSw
            obtain ⟨hs0, hs1, hs2⟩ := hSw
            go_simp
            try with_reducible rfl
          try simp only [Act.put, List.setIfInBounds_toArray, List.set_cons_zero, List.set_cons_succ]
          refine wpAnyH_ready (rs := [10]) (by kernel_rfl) (by simp) ?_
          refine AllReadyH.cons (o := { dst := some 20, op := Op.buildSlice 23 1 #[(0, Operand.tmp 19)], type := 23, pos := "diff.go:59", after := #[{ on := 9, ground := Ground.data }], guard := none }) rfl (fun K hK => ?_) ?_
          ·
            rw [if_pos (by rfl)]
            go_simp
            refine hK.out _ _ (HS.out _ ((hb8.alloc hb8.size _).block Bx hxB)) (fun hHeld => ?_)
            clear hK K
            try simp only [Act.put, List.setIfInBounds_toArray, List.set_cons_zero, List.set_cons_succ]
            refine wpAnyH_ready (rs := [11]) (by kernel_rfl) (by simp) ?_
            refine AllReadyH.cons (o := { dst := some 21, op := Op.call { callee := Callee.builtin Builtin.append, args := #[Operand.tmp 10, Operand.tmp 20], argTypes := #[23, 23] }, type := 23, pos := "diff.go:59", after := #[{ on := 0, ground := Ground.data }, { on := 10, ground := Ground.data }, { on := 8, ground := Ground.chain }], guard := none }) rfl (fun K hK => ?_) ?_
            ·
              refine step_append_lies _ (by rfl) _ _ _ (by rfl) w.heap.size 29 i0 _ 3 56 Try.underlying23 hi0 hz0 hz1 hz2 rfl (by omega) v (pre.map fun x => turnC x.1.ch).length zs (by rfl) (own_below hzs (hb8.alloc hb8.size _))
                ⟨w2.heap.size, 0, none⟩ 1 1 [.int .i64 at0, .slice (some ⟨g1, 0, none⟩) new.length cap1, .slice (some ⟨g2, 0, none⟩) old.length cap2] (by rfl) (by rfl) (World.news_of_block (cs := #[.int .i64 at0, .slice (some ⟨g1, 0, none⟩) new.length cap1, .slice (some ⟨g2, 0, none⟩) old.length cap2]) (t := 29) (fr := (0, 0)) (heap_alloc_new w2 _)) (by simp [Value.oneCell'])
                (by omega) (by simp only [maxLen]; omega) (by omega) (by have h1 := hb8.size; have h2 := hB.size; simp; omega) (w2.heap.size + 1) (by simp) ?_
              intro gg cap w3 hown3 hgrow hat3 hlt3
              obtain ⟨bV3, hX4, hX3, hfin⟩ := HF.out w2 w3 _ g1 cap1 g2 cap2 hb8 hG1 hG2 hrow1' hrow2 hgrow hown3
              simp only [List.length_map] at hX4 hfin
              have cV3 := bV3.cell
              have fV3 := bV3.frozen
              refine hK.out _ _ (HS.out _ hX3) (fun hHeld => ?_)
              clear hK K
              try simp only [Act.put, List.setIfInBounds_toArray, List.set_cons_zero, List.set_cons_succ]
              refine wpAnyH_ready (rs := [12]) (by kernel_rfl) (by simp) ?_
              refine AllReadyH.cons (o := { dst := none, op := Op.store 23 (Operand.tmp 3) (Operand.tmp 21), type := 0, pos := "diff.go:59", after := #[{ on := 11, ground := Ground.data }, { on := 11, ground := Ground.chain }, { on := 0, ground := Ground.phase }, { on := 1, ground := Ground.phase }, { on := 2, ground := Ground.phase }, { on := 3, ground := Ground.phase }, { on := 4, ground := Ground.phase }, { on := 5, ground := Ground.phase }, { on := 6, ground := Ground.phase }, { on := 7, ground := Ground.phase }, { on := 8, ground := Ground.phase }, { on := 9, ground := Ground.phase }, { on := 10, ground := Ground.phase }, { on := 11, ground := Ground.phase }], guard := none }) rfl (fun K hK => ?_) ?_
              ·
                rw [if_pos (by rfl)]
                go_simp
                refine hK.out _ _ (HS.out _ hX4) (fun hHeld => ?_)
                clear hK K
                try simp only [Act.put, List.setIfInBounds_toArray, List.set_cons_zero, List.set_cons_succ]
                refine wpAnyH_done (by kernel_rfl) ?_ _
                exact hfin
              exact AllReadyH.nil
            exact AllReadyH.nil
          exact AllReadyH.nil
        exact AllReadyH.nil
      refine AllReadyH.cons (o := { dst := some 18, op := Op.call { callee := Callee.value (Operand.func 17), args := #[Operand.tmp 17], argTypes := #[22] }, type := 22, pos := "diff.go:59", after := #[{ on := 7, ground := Ground.data }, { on := 5, ground := Ground.chain }], guard := none }) rfl (fun K hK => ?_) ?_
      ·
        rw [if_pos (by rfl)]
        go_simp
        go_at_call 17
        refine (HO.out _ hb5).mono ?_
        rintro e w2 ⟨g2, cap2, rfl, hg2, hrow2, hb2⟩
        dsimp only
        have hb8 := hb5.trans (hb2.mono hb5.size)
        have hG2 : W.heap.size ≤ g2 := Nat.le_trans hb5.size hg2
        have hrow1' := hrow1.below hb2 hrow1.lt
        refine hK.out _ _ (HS.out _ (hb8.block Bx hxB)) (fun hHeld => ?_)
        clear hK K
        try simp only [Act.put, List.setIfInBounds_toArray, List.set_cons_zero, List.set_cons_succ]
        refine wpAnyH_take (i := 9) (oi := { dst := some 19, op := Op.build 29 #[(0, Operand.tmp 12), (1, Operand.tmp 15), (2, Operand.tmp 18)], type := 29, pos := "diff.go:59", after := #[{ on := 2, ground := Ground.data }, { on := 5, ground := Ground.data }, { on := 8, ground := Ground.data }], guard := none }) (v := ?_) rfl (by kernel_rfl) (by kernel_rfl) (by kernel_rfl) (fun _ _ _ h => h) (Or.inl ⟨by rfl, ?_⟩) hHeld ?_
        rotate_left
        · intro w' hSw
          obtain ⟨hs0, hs1, hs2⟩ := hSw
          go_simp
          try with_reducible rfl
        try simp only [Act.put, List.setIfInBounds_toArray, List.set_cons_zero, List.set_cons_succ]
        refine wpAnyH_ready (rs := [0, 10]) (by kernel_rfl) (by simp) ?_
        refine AllReadyH.cons (o := { dst := some 10, op := Op.load 23 (Operand.tmp 3), type := 23, pos := "diff.go:59", after := #[], guard := none }) rfl (fun K hK => ?_) ?_
        ·
          have cVx := (hb8.cell (p := ⟨w.heap.size, 0, none⟩) hBV).trans cV
          rw [if_pos (by rfl)]
          go_simp
          refine hK.out _ _ (HS.out _ (hb8.block Bx hxB)) (fun hHeld => ?_)
          clear hK K
          try simp only [Act.put, List.setIfInBounds_toArray, List.set_cons_zero, List.set_cons_succ]
          clear cVx
          refine wpAnyH_ready (rs := [10]) (by kernel_rfl) (by simp) ?_
          refine AllReadyH.cons (o := { dst := some 20, op := Op.buildSlice 23 1 #[(0, Operand.tmp 19)], type := 23, pos := "diff.go:59", after := #[{ on := 9, ground := Ground.data }], guard := none }) rfl (fun K hK => ?_) ?_
          ·
            rw [if_pos (by rfl)]
            go_simp
            refine hK.out _ _ (HS.out _ ((hb8.alloc hb8.size _).block Bx hxB)) (fun hHeld => ?_)
            clear hK K
            try simp only [Act.put, List.setIfInBounds_toArray, List.set_cons_zero, List.set_cons_succ]
            refine wpAnyH_ready (rs := [11]) (by kernel_rfl) (by simp) ?_
            refine AllReadyH.cons (o := { dst := some 21, op := Op.call { callee := Callee.builtin Builtin.append, args := #[Operand.tmp 10, Operand.tmp 20], argTypes := #[23, 23] }, type := 23, pos := "diff.go:59", after := #[{ on := 0, ground := Ground.data }, { on := 10, ground := Ground.data }, { on := 8, ground := Ground.chain }], guard := none }) rfl (fun K hK => ?_) ?_
            ·
              refine step_append_lies _ (by rfl) _ _ _ (by rfl) w.heap.size 29 i0 _ 3 56 Try.underlying23 hi0 hz0 hz1 hz2 rfl (by omega) v (pre.map fun x => turnC x.1.ch).length zs (by rfl) (own_below hzs (hb8.alloc hb8.size _))
                ⟨w2.heap.size, 0, none⟩ 1 1 [.int .i64 at0, .slice (some ⟨g1, 0, none⟩) new.length cap1, .slice (some ⟨g2, 0, none⟩) old.length cap2] (by rfl) (by rfl) (World.news_of_block (cs := #[.int .i64 at0, .slice (some ⟨g1, 0, none⟩) new.length cap1, .slice (some ⟨g2, 0, none⟩) old.length cap2]) (t := 29) (fr := (0, 0)) (heap_alloc_new w2 _)) (by simp [Value.oneCell'])
                (by omega) (by simp only [maxLen]; omega) (by omega) (by have h1 := hb8.size; have h2 := hB.size; simp; omega) (w2.heap.size + 1) (by simp) ?_
              intro gg cap w3 hown3 hgrow hat3 hlt3
              obtain ⟨bV3, hX4, hX3, hfin⟩ := HF.out w2 w3 _ g1 cap1 g2 cap2 hb8 hG1 hG2 hrow1' hrow2 hgrow hown3
              simp only [List.length_map] at hX4 hfin
              have cV3 := bV3.cell
              have fV3 := bV3.frozen
              refine hK.out _ _ (HS.out _ hX3) (fun hHeld => ?_)
              clear hK K
              try simp only [Act.put, List.setIfInBounds_toArray, List.set_cons_zero, List.set_cons_succ]
              refine wpAnyH_ready (rs := [12]) (by kernel_rfl) (by simp) ?_
              refine AllReadyH.cons (o := { dst := none, op := Op.store 23 (Operand.tmp 3) (Operand.tmp 21), type := 0, pos := "diff.go:59", after := #[{ on := 11, ground := Ground.data }, { on := 11, ground := Ground.chain }, { on := 0, ground := Ground.phase }, { on := 1, ground := Ground.phase }, { on := 2, ground := Ground.phase }, { on := 3, ground := Ground.phase }, { on := 4, ground := Ground.phase }, { on := 5, ground := Ground.phase }, { on := 6, ground := Ground.phase }, { on := 7, ground := Ground.phase }, { on := 8, ground := Ground.phase }, { on := 9, ground := Ground.phase }, { on := 10, ground := Ground.phase }, { on := 11, ground := Ground.phase }], guard := none }) rfl (fun K hK => ?_) ?_
              ·
                rw [if_pos (by rfl)]
                go_simp
                refine hK.out _ _ (HS.out _ hX4) (fun hHeld => ?_)
                clear hK K
                try simp only [Act.put, List.setIfInBounds_toArray, List.set_cons_zero, List.set_cons_succ]
                refine wpAnyH_done (by kernel_rfl) ?_ _
                exact hfin
              exact AllReadyH.nil
            exact AllReadyH.nil
          exact AllReadyH.nil
        refine AllReadyH.cons (o := { dst := some 20, op := Op.buildSlice 23 1 #[(0, Operand.tmp 19)], type := 23, pos := "diff.go:59", after := #[{ on := 9, ground := Ground.data }], guard := none }) rfl (fun K hK => ?_) ?_
        ·
          rw [if_pos (by rfl)]
          go_simp
          refine hK.out _ _ (HS.out _ ((hb8.alloc hb8.size _).block Bx hxB)) (fun hHeld => ?_)
          clear hK K
          try simp only [Act.put, List.setIfInBounds_toArray, List.set_cons_zero, List.set_cons_succ]
          have hba := hb8.alloc hb8.size (.cells #[.int .i64 at0, .slice (some ⟨g1, 0, none⟩) new.length cap1, .slice (some ⟨g2, 0, none⟩) old.length cap2] 29)
          refine wpAnyH_ready (rs := [0]) (by kernel_rfl) (by simp) ?_
          refine AllReadyH.cons (o := { dst := some 10, op := Op.load 23 (Operand.tmp 3), type := 23, pos := "diff.go:59", after := #[], guard := none }) rfl (fun K hK => ?_) ?_
          ·
            have cVx := (hba.cell (p := ⟨w.heap.size, 0, none⟩) hBV).trans cV
            rw [if_pos (by rfl)]
            go_simp
            refine hK.out _ _ (HS.out _ (hba.block Bx hxB)) (fun hHeld => ?_)
            clear hK K
            try simp only [Act.put, List.setIfInBounds_toArray, List.set_cons_zero, List.set_cons_succ]
            clear cVx
            refine wpAnyH_ready (rs := [11]) (by kernel_rfl) (by simp) ?_
            refine AllReadyH.cons (o := { dst := some 21, op := Op.call { callee := Callee.builtin Builtin.append, args := #[Operand.tmp 10, Operand.tmp 20], argTypes := #[23, 23] }, type := 23, pos := "diff.go:59", after := #[{ on := 0, ground := Ground.data }, { on := 10, ground := Ground.data }, { on := 8, ground := Ground.chain }], guard := none }) rfl (fun K hK => ?_) ?_
            ·
              refine step_append_lies _ (by rfl) _ _ _ (by rfl) w.heap.size 29 i0 _ 3 56 Try.underlying23 hi0 hz0 hz1 hz2 rfl (by omega) v (pre.map fun x => turnC x.1.ch).length zs (by rfl) (own_below hzs (hb8.alloc hb8.size _))
                ⟨w2.heap.size, 0, none⟩ 1 1 [.int .i64 at0, .slice (some ⟨g1, 0, none⟩) new.length cap1, .slice (some ⟨g2, 0, none⟩) old.length cap2] (by rfl) (by rfl) (World.news_of_block (cs := #[.int .i64 at0, .slice (some ⟨g1, 0, none⟩) new.length cap1, .slice (some ⟨g2, 0, none⟩) old.length cap2]) (t := 29) (fr := (0, 0)) (heap_alloc_new w2 _)) (by simp [Value.oneCell'])
                (by omega) (by simp only [maxLen]; omega) (by omega) (by have h1 := hb8.size; have h2 := hB.size; simp; omega) (w2.heap.size + 1) (by simp) ?_
              intro gg cap w3 hown3 hgrow hat3 hlt3
              obtain ⟨bV3, hX4, hX3, hfin⟩ := HF.out w2 w3 _ g1 cap1 g2 cap2 hb8 hG1 hG2 hrow1' hrow2 hgrow hown3
              simp only [List.length_map] at hX4 hfin
              have cV3 := bV3.cell
              have fV3 := bV3.frozen
              refine hK.out _ _ (HS.out _ hX3) (fun hHeld => ?_)
              clear hK K
              try simp only [Act.put, List.setIfInBounds_toArray, List.set_cons_zero, List.set_cons_succ]
              refine wpAnyH_ready (rs := [12]) (by kernel_rfl) (by simp) ?_
              refine AllReadyH.cons (o := { dst := none, op := Op.store 23 (Operand.tmp 3) (Operand.tmp 21), type := 0, pos := "diff.go:59", after := #[{ on := 11, ground := Ground.data }, { on := 11, ground := Ground.chain }, { on := 0, ground := Ground.phase }, { on := 1, ground := Ground.phase }, { on := 2, ground := Ground.phase }, { on := 3, ground := Ground.phase }, { on := 4, ground := Ground.phase }, { on := 5, ground := Ground.phase }, { on := 6, ground := Ground.phase }, { on := 7, ground := Ground.phase }, { on := 8, ground := Ground.phase }, { on := 9, ground := Ground.phase }, { on := 10, ground := Ground.phase }, { on := 11, ground := Ground.phase }], guard := none }) rfl (fun K hK => ?_) ?_
              ·
                rw [if_pos (by rfl)]
                go_simp
                refine hK.out _ _ (HS.out _ hX4) (fun hHeld => ?_)
                clear hK K
                try simp only [Act.put, List.setIfInBounds_toArray, List.set_cons_zero, List.set_cons_succ]
                refine wpAnyH_done (by kernel_rfl) ?_ _
                exact hfin
              exact AllReadyH.nil
            exact AllReadyH.nil
          exact AllReadyH.nil
        exact AllReadyH.nil
      exact AllReadyH.nil
    exact AllReadyH.nil
end Go.Proofs.Ythaffnhapfakgaa
