/- Contracts and plain laws, put together: Reach2, Reach3, Store2, Store3, ReachQ, RefWP, LayN, Keys3, Reach4, Play1, Store4, Store5, Play2, PagesLost, StoreSafeP, StoreSafe0, SimP, PlayP, PlayT, Play3, Play4, StepP, RefPO, RefS2, RefXP, RefX1, RefX2, RefX3, RefA1, RefA2, RefH0, RefRe1. -/
import Derived.Test.YtbnobjlphmkgeaaGreatDoorHeapPlaysFrameM4
import Derived.Test.YtbnobjlphmkgeaaGreatDoorHeapPlaysFrameM1
import Derived.Deep.LoopGhost
import Derived.Deep.RegionHeld3
import Derived.Test.YtbnobjlphmkgeaaGreatDoorHeapPlaysFrameM2
import Derived.Test.YtbnobjlphmkgeaaGreatDoorHeapPlaysFrameM3
import Derived.Deep.DeepCutAuto
import Derived.Deep.CutBlock
import Derived.BigQuiet
import Derived.Deep.AppendLies
/- Package reach: from: who is led to, by the least way: what its walk holds. -/
namespace Go.Proofs.YtbnobjlphmkgeaaGreatDoor
open Go.RowKit Go.Maps Go.ChangeMaps

def pv (W : Ways) : Nat → Option Value := fun k => (W k).map fun p => .int .i64 (par p : Int)
theorem pv_upd (W : Ways) (y : Nat) (p : List Nat) : upd (pv W) y (.int .i64 (par p : Int)) = pv (wset W y p) := by
  funext q; unfold upd pv wset
  by_cases e : q = y
  · rw [if_pos e, if_pos e]; rfl
  · rw [if_neg e, if_neg e]
theorem zero_int (w : World) : (zeroValue 3).run Tryz.prog w = .ok (.int .i64 0) w := by kernel_rfl
/-- a row of one's own beside a map -/
theorem own_map {w w' : World} {base n mb : Nat} {v : Value} {xs : List Value} (h : w.ownsRow base 3 1 v n xs) (hm : ∃ es clock, w.heap[mb]? = some (.map es clock)) (hk : Keep (fun q => q = mb) w w') : w'.ownsRow base 3 1 v n xs :=
  ownsRow_block h fun q hq => by
    refine hk.block q (h.lt q hq).2 fun e => ?_
    obtain ⟨es, clock, hm⟩ := hm
    rcases h.2 with ⟨he, -⟩ | ⟨g, cap, cur, he, -, hh, -⟩
    · rw [he] at hq; cases hq
    · rw [he] at hq
      have : g = q := by simpa [Value.ownBlock] using hq
      rw [this, e, hm] at hh; cases hh
theorem own_ne {w : World} {base n mb : Nat} {v : Value} {xs : List Value} (h : w.ownsRow base 3 1 v n xs) (hm : ∃ es clock, w.heap[mb]? = some (.map es clock)) : ∀ q, v.ownBlock = some q → q ≠ mb := fun q hq e => by
  obtain ⟨es, clock, hm⟩ := hm
  rcases h.2 with ⟨he, -⟩ | ⟨g, cap, cur, he, -, hh, -⟩
  · rw [he] at hq; cases hq
  · rw [he] at hq
    have : g = q := by simpa [Value.ownBlock] using hq
    rw [this, e, hm] at hh; cases hh
theorem own_other {w w' : World} {base n : Nat} {v : Value} {xs : List Value} {b : Option Nat} (h : w.ownsRow base 3 1 v n xs) (hg : w.grownBy w' b) (hn : ∀ q, v.ownBlock = some q → b ≠ some q) : w'.ownsRow base 3 1 v n xs :=
  ownsRow_block h fun q hq => hg.block q (h.lt q hq).2 fun e => hn q hq e.symm
section
variable {w0 w wr w' : World} {F : Nat → Prop} {h mb : Nat} {l : Bytes} {W : Ways}
/-- the map of the ways so far, beside the heap -/
structure FrSt (w0 w wr : World) (F : Nat → Prop) (h mb : Nat) (l : Bytes) (W : Ways) : Prop where
  hp : Hp w0 wr F h l
  bel : Below w.heap.size w wr
  new : w.heap.size ≤ mb
  nf : ¬ F mb
  w0w : w0.heap.size ≤ w.heap.size
  im : ∃ cnt, IM Tryz.prog 3 natL wr mb (pv W) cnt ∧ cnt ≤ 41
theorem FrSt.isMap (hs : FrSt w0 w wr F h mb l W) : ∃ es clock, wr.heap[mb]? = some (.map es clock) := by
  obtain ⟨cnt, him, -⟩ := hs.im
  exact him.isMap
theorem FrSt.below (hs : FrSt w0 w wr F h mb l W) (hb : Below wr.heap.size wr w') : FrSt w0 w w' F h mb l W := by
  obtain ⟨cnt, him, hc⟩ := hs.im
  exact ⟨hs.hp.below hb, hs.bel.trans (hb.mono hs.bel.size), hs.new, hs.nf, hs.w0w, cnt, him.block (hb.block _ him.lt), hc⟩
theorem Hp.grown (hp : Hp w0 wr F h l) {b : Option Nat} (hg : wr.grownBy w' b) (hb : ∀ q, b = some q → w0.heap.size ≤ q ∧ ¬ F q) : Hp w0 w' F h l := by
  have hk : Keep (fun q => b = some q) wr w' := ⟨hg.os, hg.tape, hg.output, hg.size, fun k hk hn => hg.block k hk (fun e => hn e.symm)⟩
  exact hp.keep hk (fun k hf e => (hb k e).2 hf) (fun k e => (hb k e).1)
theorem FrSt.grown (hs : FrSt w0 w wr F h mb l W) {b : Option Nat} (hg : wr.grownBy w' b) (hb : ∀ q, b = some q → w.heap.size ≤ q ∧ ¬ F q ∧ q ≠ mb) : FrSt w0 w w' F h mb l W := by
  obtain ⟨cnt, him, hc⟩ := hs.im
  exact ⟨hs.hp.grown hg fun q hq => ⟨Nat.le_trans hs.w0w (hb q hq).1, (hb q hq).2.1⟩, hs.bel.grown hg hs.bel.size (fun q hq => (hb q hq).1), hs.new, hs.nf, hs.w0w, cnt, him.block (hg.block _ him.lt (fun e => (hb _ e.symm).2.2 rfl)), hc⟩
theorem FrSt.store (hs : FrSt w0 w wr F h mb l W) {y x : Nat} {p : List Nat} (hy : y < 41) (hx : par p = x) (hW : ∀ k, (wset W y p k).isSome = true → k < 41) :
    ∃ w', (Instr.mapUpdate 215 (.map (some mb)) (.int .i64 (y : Int)) (.int .i64 (x : Int))).run Tryz.prog wr = .ok () w' ∧ FrSt w0 w w' F h mb l (wset W y p) ∧ Keep (fun q => q = mb) wr w' ∧ w'.heap.size = wr.heap.size := by
  obtain ⟨cnt, him, hc⟩ := hs.im
  obtain ⟨w', hrun, him', hg, hsz⟩ := him.store int_keyed natL_inj (T := 215) Tryz.underlying215 (by simp only [maxLen]; omega) (int_key (n := y) (by omega)) (.int .i64 (par p : Int))
  rw [pv_upd] at him'
  rw [hx] at hrun
  have hk : Keep (fun q => q = mb) wr w' := ⟨hg.os, hg.tape, hg.output, hg.size, fun k hk hn => hg.block k hk (fun e => hn (Option.some.inj e))⟩
  refine ⟨w', hrun, ⟨hs.hp.keep hk (fun k hf e => hs.nf (e ▸ hf)) (fun k e => e ▸ Nat.le_trans hs.w0w hs.new), hs.bel.grown hg hs.bel.size (fun q hq => by rw [← Option.some.inj hq]; exact hs.new), hs.new, hs.nf, hs.w0w, _, him', ?_⟩, hk, hsz⟩
  exact him'.size_le Tryz.underlying3 41 fun k hk' => by
    refine hW k ?_
    unfold pv at hk'
    cases e : wset W y p k with
    | none => rw [e] at hk'; cases hk'
    | some q => rfl
theorem FrSt.look (hs : FrSt w0 w wr F h mb l W) {y : Nat} (hy : y < 41) :
    (W y = none → (Instr.lookup 215 (.map (some mb)) (.int .i64 (y : Int)) true).run Tryz.prog wr = .ok (.tuple #[.int .i64 0, .bool false]) wr) ∧
    (∀ p, W y = some p → (Instr.lookup 215 (.map (some mb)) (.int .i64 (y : Int)) true).run Tryz.prog wr = .ok (.tuple #[.int .i64 (par p : Int), .bool true]) wr ∧ (Instr.lookup 215 (.map (some mb)) (.int .i64 (y : Int)) false).run Tryz.prog wr = .ok (.int .i64 (par p : Int)) wr) := by
  obtain ⟨cnt, him, -⟩ := hs.im
  constructor
  · intro hn
    exact (him.look_none int_keyed (T := 215) Tryz.underlying215 (zero_int wr) (int_key (n := y) (by omega)) (by unfold pv; rw [hn]; rfl)).1
  · intro p hp
    exact him.look_some int_keyed (T := 215) Tryz.underlying215 (zero_int wr) (int_key (n := y) (by omega)) (by unfold pv; rw [hp]; rfl)
/-- the roots laid so far -/
def partW (S : List Nat) : Ways := fun q => if q ∈ S then some [q] else none
theorem partW_succ (S : List Nat) (k : Nat) (hk : k < S.length) : wset (partW (S.take k)) S[k] [S[k]] = partW (S.take (k + 1)) := by
  funext q
  unfold wset partW
  rw [List.take_succ_eq_append_getElem hk]
  simp only [List.mem_append, List.mem_singleton]
  by_cases e : q = S[k]
  · subst e; rw [if_pos rfl, if_pos (.inr rfl)]
  · rw [if_neg e]
    by_cases hm : q ∈ S.take k
    · rw [if_pos hm, if_pos (.inl hm)]
    · rw [if_neg hm, if_neg (fun h => h.elim hm e)]
theorem partW_all (l : Bytes) : partW (sortNat (rootsH l)) = startW l := by
  funext q; unfold partW startW; simp only [sortNat_mem]
/-- within a level: the refs of one -/
theorem mid_ok {l : Bytes} {s : Ways × List Nat} {D : List Nat} (h : LvOk l s D) (i : Nat) (_hi : i ≤ s.2.length) : ∃ D', LOk l ((s.2.take i).foldl (stepX l) (s.1, [])) D' s.1 D := by
  obtain ⟨D', h1, -⟩ := LOk.foldX (l := l) (D0 := D) (W0 := s.1) (s.2.take i) (s.1, []) D ⟨h.ok, by simp, fun _ _ => rfl⟩ (fun x hx => h.row x (List.mem_of_mem_take hx))
  exact ⟨D', h1⟩
theorem mid_succ (l : Bytes) (s : Ways × List Nat) (i : Nat) (hi : i < s.2.length) : (s.2.take (i + 1)).foldl (stepX l) (s.1, []) = stepX l ((s.2.take i).foldl (stepX l) (s.1, [])) s.2[i] := by
  rw [List.take_succ_eq_append_getElem hi, List.foldl_append]; rfl
theorem in_ok {l : Bytes} {s : Ways × List Nat} {D D0 : List Nat} {W0 : Ways} (h : LOk l s D W0 D0) {x : Nat} (hx : x ∈ D0) (j : Nat) : ∃ D', LOk l (((sortNat (refsL l (x : Int))).take j).foldl (stepY x) s) D' W0 D0 := by
  obtain ⟨D', h1, -⟩ := LOk.foldY hx ((sortNat (refsL l (x : Int))).take j) s D h (fun y hy => sortNat_mem.1 (List.mem_of_mem_take hy))
  exact ⟨D', h1⟩
theorem in_succ (x : Nat) (L : List Nat) (s : Ways × List Nat) (j : Nat) (hj : j < L.length) : (L.take (j + 1)).foldl (stepY x) s = stepY x ((L.take j).foldl (stepY x) s) L[j] := by
  rw [List.take_succ_eq_append_getElem hj, List.foldl_append]; rfl
theorem LOk.next_le {l : Bytes} {s : Ways × List Nat} {D D0 : List Nat} {W0 : Ways} (h : LOk l s D W0 D0) : s.2.length ≤ 40 := by
  have := h.ok.le; rw [h.spl, List.length_append] at this; omega
theorem lvl_len {l : Bytes} (hg : Good l) : ∀ k, (lvlN l k).2.length ≤ 40
  | 0 => (startW_ok hg).le
  | k + 1 => by
    obtain ⟨D, h, -⟩ := LvOk.at_ hg k
    obtain ⟨D', h'⟩ := mid_ok h (lvlN l k).2.length (Nat.le_refl _)
    rw [List.take_length] at h'
    exact h'.next_le
/-- what a new one is led to by -/
theorem LOk.par_new {l : Bytes} {s : Ways × List Nat} {D D0 : List Nat} {W0 : Ways} (h : LOk l s D W0 D0) {x : Nat} (hx : x ∈ D0) (y : Nat) : par (wayOf s.1 x ++ [y]) = x := by
  have hxD : x ∈ D := by rw [h.spl]; exact List.mem_append_left _ hx
  obtain ⟨p, hp⟩ := Option.isSome_iff_exists.1 ((h.ok.dk x).2 hxD)
  obtain ⟨q, e, -⟩ := h.ok.ways x p hp
  unfold wayOf; rw [hp, e]
  show par (q ++ [x] ++ [y]) = x
  rw [List.append_assoc]; exact par_two q x y
theorem WOk.lt41 {l : Bytes} {W : Ways} {D : List Nat} (h : WOk l W D) {k : Nat} (hk : (W k).isSome = true) : k < 41 := by
  have := hE_nat (h.dh k ((h.dk k).1 hk)); omega
end
end Go.Proofs.YtbnobjlphmkgeaaGreatDoor
/- Package reach: from, the walk. -/
namespace Go.Proofs.YtbnobjlphmkgeaaGreatDoor
open Go.RowKit Go.Maps Go.ChangeMaps

section
variable {w0 w : World} {F : Nat → Prop} {h : Nat} {l : Bytes}
/-- within a level -/
structure LvSt (w0 w wX wr : World) (F : Nat → Prop) (h mb : Nat) (l : Bytes) (s : Ways × List Nat) (v : Value) : Prop where
  fr : FrSt w0 w wr F h mb l s.1
  nx : wr.ownsRow wX.heap.size 3 1 v s.2.length (s.2.flatMap ncell)
  kp : Keep (fun q => q = mb) wX wr
set_option maxRecDepth 100000 in
set_option maxHeartbeats 1000000 in
theorem from_any (hp : Hp w0 w F h l) (hg : Good l) :
    Calls Tryz.prog 160 #[.pointer (some ⟨h, 0, none⟩)] w fun e w' => ∃ mb, e = .returned (.map (some mb)) ∧ FrSt w0 w w' F h mb l (fromW l) := by
  obtain ⟨i0', hi0, hz0, hz1, hz2⟩ := info_parts int_infoC
  have HI := Hidden.mk (And.intro hi0 (And.intro hz0 (And.intro hz1 hz2)))
  have hmm := @run_makeMap Tryz.prog
  have HG := Hidden.mk hg
  have hal := (Below.refl w.heap.size w).alloc (Nat.le_refl _) (.map #[] 0)
  have HFL : Hidden (∀ q, F q → q < w.heap.size) := ⟨hp.flt⟩
  have HST : Hidden (FrSt w0 w (w.alloc (.map #[] 0)) F h w.heap.size l (fun _ => none)) := ⟨⟨hp.below hal, hal, Nat.le_refl _, fun hk => by have := hp.flt _ hk; omega, hp.bel.size, 0, IM.made w, by omega⟩⟩
  have HRT := Hidden.mk (hroots_any (hp.below hal))
  have hR8 : (rootsL l).length ≤ 8 := rootsF_len _ _
  have HRH : Hidden (rootsH l = (rootsL l).map (·.2)) := ⟨rfl⟩
  generalize rootsL l = R at *
  clear hp hal hi0 hz0 hz1 hz2 hg
  go_enter Tryz.func160, Tryz.ntmps160
  go_wp2_with fail
  clear hmm
  generalize w.alloc (.map #[] 0) = wA at *
  generalize hmb : w.heap.size = mb at HST ⊢
  clear hmb
  refine HRT.out.mono ?_
  rintro e w1 ⟨v1, rfl, hown1, hb1⟩
  have HST1 := Hidden.mk (HST.out.below hb1)
  obtain ⟨A1, c1, rfl, -, -⟩ := own_split hown1
  have HR := Hidden.mk (own_rdX3 (f := rcells) (fun _ => rfl) rfl hown1)
  generalize hm : R.length = m at *
  have HM := Hidden.mk hm
  clear hown1 hb1 HRT HST hm
  go_wp2_with fail
  go_loopg [4, 21] m (fun q v i wr => ∃ k : Nat, k ≤ m ∧ q = m - k ∧ i = .int .i64 (k : Int) ∧ Hidden (FrSt w0 w wr F h mb l (fun _ => none) ∧ Below w1.heap.size w1 wr ∧ wr.ownsRow w1.heap.size 3 1 v k (((R.map (·.2)).take k).flatMap ncell)))
  case atStart => exact ⟨0, by omega, rfl, rfl, ⟨HST1.out, Below.refl _ _, World.ownsRow_nil _ _ _ _⟩⟩
  case round =>
    obtain ⟨k, hk, rfl, rfl, hst⟩ := hrel
    by_cases hlt : k < m
    · have hkR : k < R.length := by rw [HM.out]; exact hlt
      obtain ⟨pb, ob, rfl, hcx⟩ := (HR.out.below hst.out.2.1) k hkR
      have x0 := hcx 0 _ rfl
      have x1 := hcx 1 _ rfl
      rw [Nat.add_zero] at x0
      have HS : Hidden ((R.map (·.2)).take (k + 1) = (R.map (·.2)).take k ++ [R[k].2]) := ⟨by rw [List.take_succ_eq_append_getElem (by simpa using hkR)]; simp⟩
      generalize R[k].2 = q0 at *
      generalize R[k].1 = s0 at *
      have i0 : (0 : Int) ≤ k := by omega
      have i1 : (k : Int) < m := by omega
      have s3 : IntKind.i64.wrap ((k : Int) + 1) = (k : Int) + 1 := IntWalk.i64_in _ (by omega)
      have hal : Below wr.heap.size wr (wr.alloc (.cells #[.string ⟨s0.toArray⟩, .int .i64 (q0 : Int)] 128)) := (Below.refl _ _).alloc (Nat.le_refl _) _
      have HN := Hidden.mk (And.intro (hst.out.1.below hal) (And.intro (hst.out.2.1.trans (hal.mono hst.out.2.1.size)) (own_below hst.out.2.2 hal)))
      obtain ⟨hi0, hz0, hz1, hz2⟩ := HI.out
      clear hcx hal hst
      go_wp2_with (at_builtin; refine wpList_append_lies _ rfl (.tmp 25) (.tmp 28) _ rfl w1.heap.size 3 i0' _ 1 8 Tryz.underlying54 hi0 hz0 hz1 hz2 rfl (by decide) u4 k (((R.map (·.2)).take k).flatMap ncell) rfl (own_below HN.out.2.2 ((Below.refl _ _).alloc (Nat.le_refl _) _)) ⟨wr.heap.size + 1, 0, none⟩ 1 1 [.int .i64 (q0 : Int)] rfl rfl (World.news_of_block (cs := #[.int .i64 (q0 : Int)]) (t := 3) (fr := (0, 0)) (by have hq_ := heap_alloc_new ((wr.alloc (.cells #[.string ⟨s0.toArray⟩, .int .i64 (q0 : Int)] 128))) (.cells #[.int .i64 (q0 : Int)] 3); rwa [World.size_alloc] at hq_)) (by simp [Value.oneCell']) (by omega) (by simp only [maxLen]; omega) (by omega) (by have hz_ := HN.out.2.1.size; rw [World.size_alloc]; omega) (wr.heap.size + 1 + 1) (by simp) ?_; intro g8 cap8 w8 hown8 hg8 hat8 hlt8)
      have hgW := grown_trans' ((Below.refl (wr.alloc (.cells #[.string ⟨s0.toArray⟩, .int .i64 (q0 : Int)] 128)).heap.size (wr.alloc (.cells #[.string ⟨s0.toArray⟩, .int .i64 (q0 : Int)] 128))).alloc (Nat.le_refl _) _) hg8
      have hlo : ∀ q, u4.ownBlock = some q → w1.heap.size ≤ q := fun q hq => (HN.out.2.2.lt q hq).1
      have hF8 : FrSt w0 w w8 F h mb l (fun _ => none) := HN.out.1.grown hgW fun q hq => by
        have h1 := hlo q hq
        refine ⟨Nat.le_trans HST1.out.bel.size h1, fun hf => ?_, own_ne HN.out.2.2 HN.out.1.isMap q hq⟩
        have := HST1.out.hp.flt q hf; omega
      have HF : Hidden (FrSt w0 w w8 F h mb l (fun _ => none) ∧ Below w1.heap.size w1 w8 ∧ w8.ownsRow w1.heap.size 3 1 (.slice (some ⟨g8, 0, none⟩) (k + 1) cap8) (k + 1) (((R.map (·.2)).take (k + 1)).flatMap ncell)) := ⟨hF8, HN.out.2.1.grown hgW HN.out.2.1.size hlo, by rw [HS.out]; simpa [ncell] using hown8⟩
      clear hgW hlo hF8 hown8 hg8 hat8 hlt8 hi0 hz0 hz1 hz2
      go_roundg (m - (k + 1))
      case measure => omega
      case rel => exact ⟨k + 1, by omega, rfl, by go_num, HF⟩
    · obtain rfl : m = k := by omega
      have hT := hst.out.2.2
      rw [List.take_of_length_le (by rw [List.length_map, HM.out]; exact Nat.le_refl _), ← HRH.out] at hT
      have hlen : (rootsH l).length = m := by rw [HRH.out, List.length_map]; exact HM.out
      have HSO := Hidden.mk (sortNat_any w1.heap.size m u4 (rootsH l) wr hlen (by omega) hT)
      have HO := Hidden.mk hT
      have HFR := Hidden.mk hst.out.1
      have HLN := Hidden.mk hlen
      clear hT hst hlen HRH HR
      go_wp2_with fail
      refine HSO.out.mono ?_
      rintro e w3 ⟨rfl, hown3, hg3⟩
      have hF3 : FrSt w0 w w3 F h mb l (partW ((sortNat (rootsH l)).take 0)) := by
        have := HFR.out.grown hg3 fun q hq => by
          have h1 := (HO.out.lt q hq).1
          refine ⟨Nat.le_trans HST1.out.bel.size h1, fun hf => ?_, own_ne HO.out HFR.out.isMap q hq⟩
          have := HST1.out.hp.flt q hf; omega
        have e : partW ((sortNat (rootsH l)).take 0) = fun _ => none := by funext q; simp [partW]
        rw [e]; exact this
      have HF3 := Hidden.mk hF3
      have HB1 := Hidden.mk HST1.out.bel
      obtain ⟨A3, c3, hu4, hc3, -⟩ := own_split hown3
      rw [hu4] at hown3 ⊢
      have HO3 := Hidden.mk hown3
      have HSL : Hidden ((sortNat (rootsH l)).length = m) := ⟨by rw [sortNat_len]; exact HLN.out⟩
      have HSE : Hidden (∀ x ∈ sortNat (rootsH l), x < 41) := ⟨fun x hx => by have := hE_nat (rootsH_mem HG.out (sortNat_mem.1 hx)); omega⟩
      generalize hS : sortNat (rootsH l) = S at *
      have HS := Hidden.mk hS
      clear hF3 hown3 hg3 HSO HO HFR HST1 HLN hS hu4
      go_wp2_with fail
      go_loopg [35] m (fun q i wr => ∃ k : Nat, k ≤ m ∧ q = m - k ∧ i = .int .i64 (k : Int) ∧ Hidden (FrSt w0 w wr F h mb l (partW (S.take k)) ∧ Keep (fun q => q = mb) w3 wr))
      case atStart => exact ⟨0, by omega, rfl, rfl, ⟨HF3.out, Keep.refl _ _⟩⟩
      case round =>
        obtain ⟨k, hk, rfl, rfl, hst⟩ := hrel
        by_cases hlt : k < m
        · have hkS : k < S.length := by rw [HSL.out]; exact hlt
          have hown := own_map HO3.out HF3.out.isMap hst.out.2
          obtain ⟨pb, ob, hA3, hcx⟩ := (own_rdX3 (f := ncell) (fun _ => rfl) HSL.out hown) k hkS
          have x0 : wr.cell? ⟨pb, ob + k, none⟩ = some (.int .i64 (S[k] : Int)) := by simpa using hcx 0 _ rfl
          have h41 := HSE.out S[k] (List.getElem_mem hkS)
          obtain ⟨w5, hrun, hF5, hk5, -⟩ := hst.out.1.store (y := S[k]) (x := S[k]) (p := [S[k]]) h41 rfl (fun z hz => by
            rw [partW_succ S k hkS] at hz
            unfold partW at hz
            split at hz
            · rename_i hm; exact HSE.out z (List.mem_of_mem_take hm)
            · cases hz)
          rw [partW_succ S k hkS] at hF5
          have HF5 := Hidden.mk (And.intro hF5 (hst.out.2.trans hk5 (fun _ hx => .inl hx)))
          generalize S[k] = q0 at *
          have i0 : (0 : Int) ≤ k := by omega
          have i1 : (k : Int) < m := by omega
          have s3 : IntKind.i64.wrap ((k : Int) + 1) = (k : Int) + 1 := IntWalk.i64_in _ (by omega)
          subst hA3
          clear hcx hst hown hF5 hk5
          go_wp2_with fail
          go_roundg (m - (k + 1))
          case measure => omega
          case rel => exact ⟨k + 1, by omega, rfl, by go_num, HF5⟩
        · obtain rfl : m = k := by omega
          have hown := own_map HO3.out HF3.out.isMap hst.out.2
          have hF6 := hst.out.1
          rw [List.take_of_length_le (by rw [HSL.out]; exact Nat.le_refl _), ← HS.out, partW_all] at hF6
          rw [← HS.out] at hown
          have HLN : Hidden ((rootsH l).length = m) := ⟨by rw [← sortNat_len, HS.out]; exact HSL.out⟩
          have HCP := Hidden.mk (compactNat_any w1.heap.size m (.slice A3 m c3) (rootsH l) wr HLN.out (by omega) hown)
          have HO6 := Hidden.mk hown
          have HF6 := Hidden.mk hF6
          clear hown hF6 hst HO3 HF3 HSL HSE HS
          go_wp2_with fail
          refine HCP.out.mono ?_
          rintro e w7 ⟨v7, rfl, hown7, hg7, -⟩
          have hF7 : FrSt w0 w w7 F h mb l (startW l) := HF6.out.grown hg7 fun q hq => by
            have h1 := (HO6.out.lt q hq).1
            refine ⟨Nat.le_trans HB1.out.size h1, fun hf => ?_, own_ne HO6.out HF6.out.isMap q hq⟩
            have := HFL.out q hf; have := HB1.out.size; omega
          have HL0 : Hidden (FrSt w0 w w7 F h mb l (lvlN l 0).1 ∧ w7.ownsRow w.heap.size 3 1 v7 (lvlN l 0).2.length ((lvlN l 0).2.flatMap ncell)) := ⟨hF7, own_base hown7 HB1.out.size⟩
          clear hF7 hown7 hg7 HCP HO6 HF6 HLN
          go_wp2_with fail
          go_loopg [4] 41 (fun q v wr => ∃ k : Nat, k ≤ 41 ∧ q = 41 - k ∧ Hidden (FrSt w0 w wr F h mb l (lvlN l k).1 ∧ wr.ownsRow w.heap.size 3 1 v (lvlN l k).2.length ((lvlN l k).2.flatMap ncell)))
          case atStart => exact ⟨0, by omega, rfl, HL0⟩
          case round =>
            obtain ⟨k, hk, rfl, hst⟩ := hrel
            generalize wr = wx at *
            obtain ⟨D, hLv, -⟩ := LvOk.at_ HG.out k
            obtain ⟨A4, c4, rfl, hc4, -⟩ := own_split hst.out.2
            by_cases hnil : (lvlN l k).2 = []
            · have hF := hst.out.1
              rw [fromW_of hk hnil] at hF
              have HF := Hidden.mk hF
              have e0 : (lvlN l k).2.length = 0 := by rw [hnil]; rfl
              have d0 : decide (0 < (lvlN l k).2.length) = false := decide_eq_false (by omega)
              generalize (lvlN l k).2.length = n0 at *
              clear hst hF hnil hLv e0
              go_wp2_with fail
              go_ret
              exact ⟨_, rfl, HF.out⟩
            · have hk41 : k < 41 := by
                rcases Nat.lt_or_eq_of_le hk with h | h
                · exact h
                · subst h; exact absurd (lvlN_end HG.out) hnil
              have hpos : 0 < (lvlN l k).2.length := List.length_pos_iff.2 hnil
              have d0 : decide (0 < (lvlN l k).2.length) = true := decide_eq_true hpos
              have hle := lvl_len HG.out k
              have HLS : Hidden (lvlN l (k + 1) = (lvlN l k).2.foldl (stepX l) ((lvlN l k).1, [])) := ⟨rfl⟩
              have HLV := Hidden.mk hLv
              have HST := Hidden.mk hst.out
              generalize hs : lvlN l k = s at *
              obtain ⟨W, L⟩ := s
              dsimp only at *
              clear hst hnil hLv hs hpos
              go_wp2_with fail
              go_loopg [9, 50] L.length (fun q v i ws => ∃ i0 : Nat, i0 ≤ L.length ∧ q = L.length - i0 ∧ i = .int .i64 (i0 : Int) ∧ Hidden (LvSt w0 w wx ws F h mb l ((L.take i0).foldl (stepX l) (W, [])) v))
              case atStart => exact ⟨0, by omega, rfl, rfl, ⟨HST.out.1, World.ownsRow_nil _ _ _ _, Keep.refl _ _⟩⟩
              case round =>
                obtain ⟨i, hi, rfl, rfl, hst⟩ := hrel
                generalize wr = ws at *
                by_cases hlt : i < L.length
                · have hown4 := own_map HST.out.2 HST.out.1.isMap hst.out.kp
                  obtain ⟨pb, ob, hA4, hcx⟩ := (own_rdX3 (f := ncell) (fun _ => rfl) rfl hown4) i hlt
                  have x0 : ws.cell? ⟨pb, ob + i, none⟩ = some (.int .i64 (L[i] : Int)) := by simpa using hcx 0 _ rfl
                  obtain ⟨D1, hL1⟩ := mid_ok HLV.out i hi
                  have HL1 := Hidden.mk hL1
                  have HMS := Hidden.mk (mid_succ l (W, L) i hlt)
                  have HXD := Hidden.mk (HLV.out.row L[i] (List.getElem_mem hlt))
                  have HLS1 := Hidden.mk hst.out
                  dsimp only at HL1 HMS
                  generalize L[i] = x at *
                  generalize (L.take i).foldl (stepX l) (W, []) = s1 at *
                  have i0 : (0 : Int) ≤ i := by omega
                  have i1 : (i : Int) < L.length := by omega
                  have s3 : IntKind.i64.wrap ((i : Int) + 1) = (i : Int) + 1 := IntWalk.i64_in _ (by omega)
                  have HRF := Hidden.mk (refs_any (x : Int) hst.out.fr.hp HG.out)
                  have HRL : Hidden ((refsL l (x : Int)).length ≤ 100000) := ⟨by
                    unfold refsL
                    have h1 := refsB_len l (readL l (x : Int) 0 (min (gL l (x : Int)) (gT l (x : Int)))) _ (Nat.le_refl _)
                    rw [List.take_length] at h1
                    refine Nat.le_trans h1 ?_
                    unfold readL
                    split
                    · rename_i hz
                      have := some_in HG.out hz
                      simp; omega
                    · simp⟩
                  subst hA4
                  clear hcx hst hown4 hL1
                  go_wp2_with fail
                  refine HRF.out.mono ?_
                  rintro e w5 ⟨v12, rfl, hown5, hb5⟩
                  have HSO := Hidden.mk (sortNat_any ws.heap.size _ v12 (refsL l (x : Int)) w5 rfl HRL.out hown5)
                  have HF5 := Hidden.mk (HLS1.out.fr.below hb5)
                  have HN5 := Hidden.mk (own_below HLS1.out.nx hb5)
                  have HK5 := Hidden.mk (HLS1.out.kp.trans (Keep.of_below (F := fun q => q = mb) hb5) (fun _ hx => .inl hx))
                  have HO5 := Hidden.mk hown5
                  have HSZ : Hidden (w.heap.size ≤ ws.heap.size) := ⟨HLS1.out.fr.bel.size⟩
                  have HNL : Hidden (∀ q, u9.ownBlock = some q → q < ws.heap.size) := ⟨fun q hq => (HLS1.out.nx.lt q hq).2⟩
                  have HWX : Hidden (wx.heap.size ≤ ws.heap.size) := ⟨HLS1.out.kp.size⟩
                  clear hown5 hb5 HRF HLS1
                  go_wp2_with fail
                  refine HSO.out.mono ?_
                  rintro e w6 ⟨rfl, hown6, hg6⟩
                  have hF6 : FrSt w0 w w6 F h mb l s1.1 := HF5.out.grown hg6 fun q hq => by
                    have h1 := (HO5.out.lt q hq).1
                    refine ⟨Nat.le_trans HSZ.out h1, fun hf => ?_, own_ne HO5.out HF5.out.isMap q hq⟩
                    have := HFL.out q hf; have := HSZ.out; omega
                  have hN6 := own_other HN5.out hg6 fun q hq e => by
                    have := HNL.out q hq; have := (HO5.out.lt q e).1; omega
                  have hK6 : Keep (fun q => q = mb) wx w6 := HK5.out.trans ⟨hg6.os, hg6.tape, hg6.output, hg6.size, fun k hk hn => hg6.block k hk (fun e => hn e)⟩ (fun q hq => .inr (by
                    have := (HO5.out.lt q hq.symm).1; have := HWX.out; omega))
                  obtain ⟨A12, c12, hv12, hc12, -⟩ := own_split hown6
                  have HL6 : Hidden (LvSt w0 w wx w6 F h mb l s1 u9) := ⟨hF6, hN6, hK6⟩
                  have HV12 : Hidden (∀ q, u9.ownBlock = some q → v12.ownBlock ≠ some q) := ⟨fun q hq e => by have := HNL.out q hq; have := (HO5.out.lt q e).1; omega⟩
                  have HSE : Hidden (∀ y ∈ sortNat (refsL l (x : Int)), y < 41) := ⟨fun y hy => by have := hE_nat (refsL_mem (_y := 0) (sortNat_mem.1 hy)); omega⟩
                  have HSS : Hidden (stepX l s1 x = (sortNat (refsL l (x : Int))).foldl (stepY x) s1) := ⟨rfl⟩
                  have HIN : Hidden (∀ j, ∃ D', LOk l (((sortNat (refsL l (x : Int))).take j).foldl (stepY x) s1) D' W D) := ⟨fun j => in_ok HL1.out HXD.out j⟩
                  have hll : (sortNat (refsL l (x : Int))).length = (refsL l (x : Int)).length := sortNat_len _
                  rw [← hll] at hown6 hv12 HRL
                  rw [hv12] at hown6 HV12 ⊢
                  have HO6 := Hidden.mk hown6
                  generalize refsL l (x : Int) = RL at *
                  generalize hLL : sortNat RL = LL at *
                  clear hown6 hg6 hF6 hN6 hK6 HSO HF5 HN5 HK5 HO5 HSZ HNL hv12 hll hLL
                  go_wp2_with fail
                  go_loopg [9, 61] LL.length (fun q v i wq => ∃ j : Nat, j ≤ LL.length ∧ q = LL.length - j ∧ i = .int .i64 (j : Int) ∧ Hidden (LvSt w0 w wx wq F h mb l ((LL.take j).foldl (stepY x) s1) v ∧ wq.ownsRow ws.heap.size 3 1 (.slice A12 LL.length c12) LL.length (LL.flatMap ncell) ∧ ∀ q, v.ownBlock = some q → (Value.slice A12 LL.length c12).ownBlock ≠ some q))
                  case atStart => exact ⟨0, by omega, rfl, rfl, ⟨HL6.out, HO6.out, HV12.out⟩⟩
                  case round =>
                    obtain ⟨j, hj, rfl, rfl, hsq⟩ := hrel
                    generalize wr = wq at *
                    by_cases hjt : j < LL.length
                    · obtain ⟨pb2, ob2, hA12, hcx2⟩ := (own_rdX3 (f := ncell) (fun _ => rfl) rfl hsq.out.2.1) j hjt
                      have y0 : wq.cell? ⟨pb2, ob2 + j, none⟩ = some (.int .i64 (LL[j] : Int)) := by simpa using hcx2 0 _ rfl
                      obtain ⟨D2, hL2⟩ := HIN.out j
                      have HIS := Hidden.mk (in_succ x LL s1 j hjt)
                      obtain ⟨D3, hL3⟩ := HIN.out (j + 1)
                      rw [HIS.out] at hL3
                      have h41 := HSE.out LL[j] (List.getElem_mem hjt)
                      generalize LL[j] = y at *
                      generalize (LL.take j).foldl (stepY x) s1 = t at *
                      have j0 : (0 : Int) ≤ j := by omega
                      have j1 : (j : Int) < LL.length := by omega
                      have s4 : IntKind.i64.wrap ((j : Int) + 1) = (j : Int) + 1 := IntWalk.i64_in _ (by have := HRL.out; omega)
                      obtain ⟨lk0, lk1⟩ := hsq.out.1.fr.look (y := y) h41
                      have HQ := Hidden.mk hsq.out
                      subst hA12
                      clear hcx2 hsq
                      cases hty : t.1 y with
                      | some p =>
                        have lk := (lk1 p hty).1
                        have HTT : Hidden (stepY x t y = t) := ⟨by unfold stepY; rw [if_pos (by rw [hty]; rfl)]⟩
                        generalize (par p : Int) = pp at *
                        clear lk0 lk1 hty hL2 hL3
                        go_wp2_with fail
                        go_roundg (LL.length - (j + 1))
                        case measure => omega
                        case rel => exact ⟨j + 1, by omega, rfl, by go_num, ⟨by rw [HIS.out, HTT.out]; exact HQ.out⟩⟩
                      | none =>
                        have lk := lk0 hty
                        have hTT : stepY x t y = (wset t.1 y (wayOf t.1 x ++ [y]), t.2 ++ [y]) := by unfold stepY; rw [if_neg (by rw [hty]; simp)]
                        rw [hTT] at hL3
                        have hpar := hL2.par_new HXD.out y
                        have hnl := hL2.next_le
                        obtain ⟨w7, hrun, hF7, hk7, hs7⟩ := HQ.out.1.fr.store h41 hpar (fun z hz => hL3.ok.lt41 hz)
                        have HTT := Hidden.mk hTT
                        have HM := HQ.out.1.fr.isMap
                        have hN7 := own_map HQ.out.1.nx HM hk7
                        have hO7 := own_map HQ.out.2.1 HM hk7
                        have HK7 := Hidden.mk (HQ.out.1.kp.trans hk7 (fun _ hx => .inl hx))
                        have HF7 := Hidden.mk hF7
                        have HN7 := Hidden.mk hN7
                        have HO7 := Hidden.mk hO7
                        have HLQ : Hidden (∀ q, u9.ownBlock = some q → q < w7.heap.size) := ⟨fun q hq => (hN7.lt q hq).2⟩
                        have HXS : Hidden (wx.heap.size ≤ w7.heap.size) := ⟨HK7.out.size⟩
                        have HWS : Hidden (w.heap.size ≤ wx.heap.size) := ⟨HST.out.1.bel.size⟩
                        obtain ⟨hi0, hz0, hz1, hz2⟩ := HI.out
                        generalize wset t.1 y (wayOf t.1 x ++ [y]) = W2 at *
                        generalize t.2 = N at *
                        clear lk0 lk1 hty hL2 hL3 hpar hF7 hk7 hN7 hO7 hTT HM hs7
                        go_wp2_with (at_builtin; refine wpList_append_lies _ rfl (.tmp 76) (.tmp 78) _ rfl wx.heap.size 3 i0' _ 1 8 Tryz.underlying54 hi0 hz0 hz1 hz2 rfl (by decide) u9 N.length (N.flatMap ncell) rfl (own_below HN7.out ((Below.refl _ _).alloc (Nat.le_refl _) _)) ⟨(w7).heap.size, 0, none⟩ 1 1 [.int .i64 (y : Int)] rfl rfl (World.news_of_block (cs := #[.int .i64 (y : Int)]) (t := 3) (fr := (0, 0)) (heap_alloc_new (w7) _)) (by simp [Value.oneCell']) (by omega) (by simp only [maxLen]; omega) (by omega) (by have hz_ := HK7.out.size; rw [World.size_alloc]; omega) ((w7).heap.size + 1) (by simp) ?_; intro g8 cap8 w8 hown8 hg8 hat8 hlt8)
                        have hgW := grown_trans' ((Below.refl w7.heap.size w7).alloc (Nat.le_refl _) _) hg8
                        have hlo : ∀ q, u9.ownBlock = some q → wx.heap.size ≤ q := fun q hq => (HN7.out.lt q hq).1
                        have hF8 : FrSt w0 w w8 F h mb l W2 := HF7.out.grown hgW fun q hq => by
                          have h1 := hlo q hq
                          refine ⟨Nat.le_trans HWS.out h1, fun hf => ?_, own_ne HN7.out HF7.out.isMap q hq⟩
                          have := HFL.out q hf; have := HWS.out; omega
                        have hK8 : Keep (fun q => q = mb) wx w8 := HK7.out.trans (F' := fun q => u9.ownBlock = some q) ⟨hgW.os, hgW.tape, hgW.output, hgW.size, fun k hk hn => hgW.block k hk (fun e => hn e.symm)⟩ (fun q hq => .inr (hlo q hq))
                        have hO8 := own_other HO7.out hgW fun q hq e => HQ.out.2.2 q e hq
                        have HF : Hidden (LvSt w0 w wx w8 F h mb l (stepY x t y) (.slice (some ⟨g8, 0, none⟩) (N.length + 1) cap8) ∧ w8.ownsRow ws.heap.size 3 1 (.slice (some ⟨pb2, ob2, none⟩) LL.length c12) LL.length (LL.flatMap ncell) ∧ ∀ q, (Value.slice (some ⟨g8, 0, none⟩) (N.length + 1) cap8).ownBlock = some q → (Value.slice (some ⟨pb2, ob2, none⟩) LL.length c12).ownBlock ≠ some q) := ⟨by
                          rw [HTT.out]
                          exact ⟨hF8, by rw [List.length_append, List.flatMap_append]; simpa [ncell] using hown8, hK8⟩, hO8, fun q hq e => by
                          have hq' : g8 = q := by simpa [Value.ownBlock] using hq
                          subst hq'
                          rcases hat8 with h8 | h8
                          · exact HQ.out.2.2 _ h8 e
                          · have := (HO7.out.lt _ e).2; omega⟩
                        clear hgW hlo hF8 hK8 hO8 hown8 hg8 hat8 hlt8 hi0 hz0 hz1 hz2
                        go_roundg (LL.length - (j + 1))
                        case measure => omega
                        case rel => exact ⟨j + 1, by omega, rfl, by go_num, ⟨by rw [HIS.out]; exact HF.out⟩⟩
                    · obtain rfl : j = LL.length := by omega
                      have hT := hsq.out.1
                      rw [List.take_length, ← HSS.out, ← HMS.out] at hT
                      have HT := Hidden.mk hT
                      have d8 : decide ((LL.length : Int) < LL.length) = false := decide_eq_false (by omega)
                      clear hT hsq
                      go_wp2_with fail
                      go_roundg (L.length - (i + 1))
                      case measure => omega
                      case rel => exact ⟨i + 1, by omega, rfl, by go_num, HT⟩
                · obtain rfl : i = L.length := by omega
                  have hT := hst.out
                  rw [List.take_length, ← HLS.out] at hT
                  have HT : Hidden (FrSt w0 w ws F h mb l (lvlN l (k + 1)).1 ∧ ws.ownsRow w.heap.size 3 1 u9 (lvlN l (k + 1)).2.length ((lvlN l (k + 1)).2.flatMap ncell)) := ⟨hT.fr, own_base hT.nx HST.out.1.bel.size⟩
                  clear hT hst
                  go_wp2_with fail
                  go_roundg (41 - (k + 1))
                  case measure => omega
                  case rel => exact ⟨k + 1, by omega, rfl, HT⟩
end
end Go.Proofs.YtbnobjlphmkgeaaGreatDoor
/- Package store: Dirty. -/
namespace Go.Proofs.YtbnobjlphmkgeaaGreatDoor
open Go.RowKit Go.Maps Go.ChangeMaps

section
variable {w0 w w' : World} {F F' GH GH' G : Nat → Prop} {s p d h gk ck st n : Nat} {l l' K : Bytes}
end
end Go.Proofs.YtbnobjlphmkgeaaGreatDoor
/- Package store: Commit. -/
namespace Go.Proofs.YtbnobjlphmkgeaaGreatDoor
open Go.RowKit Go.Maps Go.ChangeMaps

section
variable {w0 w w' : World} {F F' GH GH' G : Nat → Prop} {s p d h gk ck st n : Nat} {D : Dv} {l l' K : Bytes}
end
end Go.Proofs.YtbnobjlphmkgeaaGreatDoor
/- Package reach, plain: of all ways the least one. -/
namespace Go.Proofs.YtbnobjlphmkgeaaGreatDoor
open Go.RowKit

def lexLt : List Nat → List Nat → Bool
  | x :: a, y :: b => if x = y then lexLt a b else decide (x < y)
  | _, _ => false
/-- one way is ahead of another -/
def lessW (a b : List Nat) : Bool := if a.length = b.length then lexLt a b else decide (a.length < b.length)
theorem lexLt_irrefl : ∀ a, lexLt a a = false
  | [] => rfl
  | x :: a => by unfold lexLt; rw [if_pos rfl]; exact lexLt_irrefl a
theorem lexLt_trans : ∀ {a b c : List Nat}, lexLt a b = true → lexLt b c = true → lexLt a c = true
  | [], _, _, h, _ => by simp [lexLt] at h
  | _ :: _, [], _, h, _ => by simp [lexLt] at h
  | _ :: _, _ :: _, [], _, h => by simp [lexLt] at h
  | x :: a, y :: b, z :: c, h1, h2 => by
    unfold lexLt at *
    by_cases e1 : x = y
    · subst e1
      rw [if_pos rfl] at h1
      by_cases e2 : x = z
      · subst e2; rw [if_pos rfl] at h2 ⊢; exact lexLt_trans h1 h2
      · rw [if_neg e2] at h2 ⊢; exact h2
    · rw [if_neg e1] at h1
      by_cases e2 : y = z
      · subst e2; rw [if_neg e1]; exact h1
      · rw [if_neg e2] at h2
        have h1' := of_decide_eq_true h1
        have h2' := of_decide_eq_true h2
        rw [if_neg (by omega)]; exact decide_eq_true (by omega)
theorem lexLt_total : ∀ {a b : List Nat}, a.length = b.length → lexLt a b = false → lexLt b a = false → a = b
  | [], [], _, _, _ => rfl
  | [], _ :: _, h, _, _ => by simp at h
  | _ :: _, [], h, _, _ => by simp at h
  | x :: a, y :: b, h, h1, h2 => by
    unfold lexLt at *
    by_cases e : x = y
    · subst e
      rw [if_pos rfl] at h1 h2
      rw [lexLt_total (by simpa using h) h1 h2]
    · rw [if_neg e] at h1
      rw [if_neg (fun e' => e e'.symm)] at h2
      have := of_decide_eq_false h1
      have := of_decide_eq_false h2
      omega
theorem lessW_irrefl (a : List Nat) : lessW a a = false := by unfold lessW; rw [if_pos rfl]; exact lexLt_irrefl a
theorem lessW_trans {a b c : List Nat} (h1 : lessW a b = true) (h2 : lessW b c = true) : lessW a c = true := by
  unfold lessW at *
  by_cases e1 : a.length = b.length
  · rw [if_pos e1] at h1
    by_cases e2 : b.length = c.length
    · rw [if_pos e2] at h2; rw [if_pos (e1.trans e2)]; exact lexLt_trans h1 h2
    · rw [if_neg e2] at h2; rw [if_neg (by omega)]
      have := of_decide_eq_true h2
      exact decide_eq_true (by omega)
  · rw [if_neg e1] at h1
    have h1' := of_decide_eq_true h1
    by_cases e2 : b.length = c.length
    · rw [if_neg (by omega)]; exact decide_eq_true (by omega)
    · rw [if_neg e2] at h2
      have h2' := of_decide_eq_true h2
      rw [if_neg (by omega)]; exact decide_eq_true (by omega)
theorem lessW_total {a b : List Nat} (h1 : lessW a b = false) (h2 : lessW b a = false) : a = b := by
  unfold lessW at *
  by_cases e : a.length = b.length
  · rw [if_pos e] at h1; rw [if_pos e.symm] at h2; exact lexLt_total e h1 h2
  · rw [if_neg e] at h1; rw [if_neg (fun x => e x.symm)] at h2
    have := of_decide_eq_false h1
    have := of_decide_eq_false h2
    omega
/-- not behind: a is b, or ahead of it -/
def leW (a b : List Nat) : Prop := lessW b a = false
theorem leW_refl (a : List Nat) : leW a a := lessW_irrefl a
theorem leW_of_less {a b : List Nat} (h : lessW a b = true) : leW a b := by
  unfold leW
  cases h2 : lessW b a with
  | false => rfl
  | true => have := lessW_trans h h2; rw [lessW_irrefl] at this; cases this
theorem leW_cases {a b : List Nat} (h : leW a b) : a = b ∨ lessW a b = true := by
  cases h2 : lessW a b with
  | true => exact .inr rfl
  | false => exact .inl (lessW_total h2 h)
theorem leW_trans {a b c : List Nat} (h1 : leW a b) (h2 : leW b c) : leW a c := by
  rcases leW_cases h1 with rfl | h1
  · exact h2
  · rcases leW_cases h2 with rfl | h2
    · exact leW_of_less h1
    · exact leW_of_less (lessW_trans h1 h2)
theorem leW_antisymm {a b : List Nat} (h1 : leW a b) (h2 : leW b a) : a = b := lessW_total h2 h1
theorem leW_short {a b : List Nat} (h : a.length < b.length) : leW a b := leW_of_less (by unfold lessW; rw [if_neg (by omega)]; exact decide_eq_true h)
theorem leW_len {a b : List Nat} (h : leW a b) : a.length ≤ b.length := by
  rcases leW_cases h with rfl | h
  · exact Nat.le_refl _
  · unfold lessW at h
    by_cases e : a.length = b.length
    · omega
    · rw [if_neg e] at h; have := of_decide_eq_true h; omega
theorem lexLt_append : ∀ {a b : List Nat} (c d : List Nat), a.length = b.length → lexLt a b = true → lexLt (a ++ c) (b ++ d) = true
  | [], [], _, _, _, h => by simp [lexLt] at h
  | [], _ :: _, _, _, h, _ => by simp at h
  | _ :: _, [], _, _, h, _ => by simp at h
  | x :: a, y :: b, c, d, h, h1 => by
    rw [List.cons_append, List.cons_append]
    unfold lexLt at *
    by_cases e : x = y
    · rw [if_pos e] at h1 ⊢; exact lexLt_append c d (by simpa using h) h1
    · rw [if_neg e] at h1 ⊢; exact h1
theorem lexLt_same : ∀ (a c d : List Nat), lexLt (a ++ c) (a ++ d) = lexLt c d
  | [], _, _ => rfl
  | x :: a, c, d => by rw [List.cons_append, List.cons_append]; conv => lhs; unfold lexLt
                       rw [if_pos rfl]; exact lexLt_same a c d
theorem lessW_snoc {a b : List Nat} (x y : Nat) (h : lessW a b = true) : lessW (a ++ [x]) (b ++ [y]) = true := by
  unfold lessW at *
  simp only [List.length_append, List.length_cons, List.length_nil]
  by_cases e : a.length = b.length
  · rw [if_pos e] at h; rw [if_pos (by omega)]; exact lexLt_append _ _ e h
  · rw [if_neg e] at h; have := of_decide_eq_true h; rw [if_neg (by omega)]; exact decide_eq_true (by omega)
theorem lessW_last (a : List Nat) {x y : Nat} (h : x < y) : lessW (a ++ [x]) (a ++ [y]) = true := by
  unfold lessW
  rw [if_pos (by simp), lexLt_same]
  unfold lexLt; rw [if_neg (by omega)]; exact decide_eq_true h
theorem leW_snoc {a b : List Nat} (y : Nat) (h : leW a b) : leW (a ++ [y]) (b ++ [y]) := by
  rcases leW_cases h with rfl | h
  · exact leW_refl _
  · exact leW_of_less (lessW_snoc y y h)
/-- a way: from a root, link by link -/
inductive IsWay (l : Bytes) : List Nat → Nat → Prop
  | root {r : Nat} (h : r ∈ rootsH l) : IsWay l [r] r
  | step {q : List Nat} {x y : Nat} (h : IsWay l q x) (hy : y ∈ refsL l (x : Int)) : IsWay l (q ++ [y]) y
theorem IsWay.last {l : Bytes} {p : List Nat} {y : Nat} (h : IsWay l p y) : ∃ q, p = q ++ [y] := by
  cases h with
  | root h => exact ⟨[], rfl⟩
  | step h hy => exact ⟨_, rfl⟩
theorem IsWay.pos {l : Bytes} {p : List Nat} {y : Nat} (h : IsWay l p y) : 1 ≤ p.length := by
  obtain ⟨q, rfl⟩ := h.last; simp
theorem WOk.isWay {l : Bytes} {W : Ways} {D : List Nat} (h : WOk l W D) : ∀ (n : Nat) (y : Nat) (p : List Nat), p.length ≤ n → W y = some p → IsWay l p y
  | 0, y, p, hn, hp => by
    obtain ⟨q, e, -⟩ := h.ways y p hp
    subst e; simp at hn
  | n + 1, y, p, hn, hp => by
    obtain ⟨q, e, h1⟩ := h.ways y p hp
    subst e
    rcases h1 with ⟨rfl, hr⟩ | ⟨x, h2, h3⟩
    · exact .root hr
    · exact .step (WOk.isWay h n x q (by simp at hn; omega) h2) h3
/-- the level k: the ways so far are no longer than k + 1, the row are those of k + 1, in the order of their ways, and none is behind another way -/
structure MinOk (l : Bytes) (k : Nat) (s : Ways × List Nat) : Prop where
  len : ∀ y p, s.1 y = some p → p.length ≤ k + 1
  row : ∀ x ∈ s.2, (wayOf s.1 x).length = k + 1 ∧ (s.1 x).isSome = true
  ord : s.2.Pairwise fun x y => lessW (wayOf s.1 x) (wayOf s.1 y) = true
  all : ∀ y p, s.1 y = some p → p.length = k + 1 → y ∈ s.2
  least : ∀ p y, IsWay l p y → p.length ≤ k + 1 → ∃ p', s.1 y = some p' ∧ leW p' p
theorem MinOk.start {l : Bytes} : MinOk l 0 (lvlN l 0) where
  len y p h := by
    unfold lvlN startW at h; dsimp only at h
    split at h
    · cases h; simp
    · cases h
  row x hx := by
    have hx' : x ∈ rootsH l := sortNat_mem.1 ((dedup_mem _ _).1 hx)
    unfold lvlN startW wayOf; dsimp only
    rw [if_pos hx']; exact ⟨rfl, rfl⟩
  ord := by
    refine List.Pairwise.imp_of_mem ?_ (dedup_up _ (sortNat_up (rootsH l)))
    intro a b ha hb hab
    have ha' : a ∈ rootsH l := sortNat_mem.1 ((dedup_mem _ _).1 ha)
    have hb' : b ∈ rootsH l := sortNat_mem.1 ((dedup_mem _ _).1 hb)
    unfold lvlN startW wayOf; dsimp only
    rw [if_pos ha', if_pos hb']
    exact lessW_last [] hab
  all y p h hl := by
    unfold lvlN startW at h; dsimp only at h
    split at h
    · rename_i hr; exact (dedup_mem _ _).2 (sortNat_mem.2 hr)
    · cases h
  least p y h hl := by
    cases h with
    | root hr => exact ⟨[y], by unfold lvlN startW; dsimp only; rw [if_pos hr], leW_refl _⟩
    | step h hy => have := h.pos; rw [List.length_append] at hl; simp only [List.length_cons, List.length_nil] at hl; omega
/-- in the midst of a level: new ones have ways by those of the row that have been asked, and none is behind another -/
structure MidOk (k : Nat) (W0 : Ways) (s : Ways × List Nat) : Prop where
  keep : ∀ y p, W0 y = some p → s.1 y = some p
  new : ∀ y, W0 y = none → (s.1 y).isSome = true → y ∈ s.2
  row : ∀ y ∈ s.2, W0 y = none ∧ ∃ p, s.1 y = some p ∧ p.length = k + 2
  ord : s.2.Pairwise fun x y => lessW (wayOf s.1 x) (wayOf s.1 y) = true
theorem wayOf_some {W : Ways} {x : Nat} {p : List Nat} (h : W x = some p) : wayOf W x = p := by unfold wayOf; rw [h]; rfl
theorem MidOk.stepY {k : Nat} {W0 : Ways} {s : Ways × List Nat} (h : MidOk k W0 s) {x y : Nat} {q : List Nat} (hx : W0 x = some q) (hq : q.length = k + 1)
    (hb : ∀ z ∈ s.2, z ≠ y → lessW (wayOf s.1 z) (q ++ [y]) = true) :
    MidOk k W0 (stepY x s y) ∧ (∀ z p, s.1 z = some p → (stepY x s y).1 z = some p) ∧ (∃ p, (stepY x s y).1 y = some p) ∧ (s.1 y = none → (stepY x s y).1 y = some (q ++ [y])) ∧ (∀ z ∈ (stepY x s y).2, z ∈ s.2 ∨ (z = y ∧ (stepY x s y).1 y = some (q ++ [y]))) := by
  unfold Go.Proofs.YtbnobjlphmkgeaaGreatDoor.stepY
  by_cases hy : (s.1 y).isSome
  · rw [if_pos hy]
    obtain ⟨p, hp⟩ := Option.isSome_iff_exists.1 hy
    exact ⟨h, fun _ _ hz => hz, ⟨p, hp⟩, (fun e => by rw [e] at hy; cases hy), fun z hz => .inl hz⟩
  · rw [if_neg hy]
    have hyn : s.1 y = none := by simpa using hy
    have hW0 : W0 y = none := by
      cases e : W0 y with
      | none => rfl
      | some p => rw [h.keep y p e] at hyn; cases hyn
    have hxq : wayOf s.1 x = q := wayOf_some (h.keep x q hx)
    rw [hxq]
    have hny : y ∉ s.2 := fun hm => by obtain ⟨_, p, hp, _⟩ := h.row y hm; rw [hp] at hyn; cases hyn
    have hold : ∀ z, z ≠ y → wset s.1 y (q ++ [y]) z = s.1 z := fun z hz => by unfold wset; rw [if_neg hz]
    have hnew : wset s.1 y (q ++ [y]) y = some (q ++ [y]) := by unfold wset; rw [if_pos rfl]
    have hkp : ∀ z p, s.1 z = some p → wset s.1 y (q ++ [y]) z = some p := fun z p hz => by
      rw [hold z (fun e => by rw [e, hyn] at hz; cases hz)]; exact hz
    refine ⟨⟨fun z p hz => hkp z p (h.keep z p hz), fun z hz hs => ?_, fun z hz => ?_, ?_⟩, hkp, ⟨_, hnew⟩, fun _ => hnew, fun z hz => ?_⟩
    · dsimp only at hs ⊢
      by_cases e : z = y
      · subst e; simp
      · rw [hold z e] at hs; exact List.mem_append_left _ (h.new z hz hs)
    · rcases List.mem_append.1 hz with hz | hz
      · obtain ⟨h1, p, h2, h3⟩ := h.row z hz
        exact ⟨h1, p, hkp z p h2, h3⟩
      · simp only [List.mem_singleton] at hz; subst hz
        exact ⟨hW0, _, hnew, by simp; omega⟩
    · refine List.pairwise_append.2 ⟨?_, List.pairwise_singleton .., fun a ha b hb' => ?_⟩
      · refine List.Pairwise.imp_of_mem ?_ h.ord
        intro a b ha hb' hab
        have e1 : wayOf (wset s.1 y (q ++ [y])) a = wayOf s.1 a := by unfold wayOf; rw [hold a (fun e => hny (e ▸ ha))]
        have e2 : wayOf (wset s.1 y (q ++ [y])) b = wayOf s.1 b := by unfold wayOf; rw [hold b (fun e => hny (e ▸ hb'))]
        rw [e1, e2]; exact hab
      · simp only [List.mem_singleton] at hb'; subst hb'
        have hne : a ≠ b := fun e => hny (e ▸ ha)
        have e1 : wayOf (wset s.1 b (q ++ [b])) a = wayOf s.1 a := by unfold wayOf; rw [hold a hne]
        rw [e1, wayOf_some hnew]
        exact hb a ha hne
    · rcases List.mem_append.1 hz with hz | hz
      · exact .inl hz
      · simp only [List.mem_singleton] at hz; exact .inr ⟨hz, hnew⟩
/-- the refs of one of the row -/
theorem MidOk.foldY {k : Nat} {W0 : Ways} {x : Nat} {q : List Nat} (hx : W0 x = some q) (hq : q.length = k + 1) : ∀ (L : List Nat) (s : Ways × List Nat), MidOk k W0 s → L.Pairwise (· ≤ ·) →
    (∀ z ∈ s.2, (∃ a b, wayOf s.1 z = a ++ [b] ∧ lessW a q = true) ∨ (wayOf s.1 z = q ++ [z] ∧ ∀ y ∈ L, z ≤ y)) →
    MidOk k W0 (L.foldl (Go.Proofs.YtbnobjlphmkgeaaGreatDoor.stepY x) s) ∧ (∀ z p, s.1 z = some p → (L.foldl (Go.Proofs.YtbnobjlphmkgeaaGreatDoor.stepY x) s).1 z = some p) ∧ (∀ y ∈ L, ∃ p, (L.foldl (Go.Proofs.YtbnobjlphmkgeaaGreatDoor.stepY x) s).1 y = some p) ∧
      (∀ z, s.1 z = none → ∀ p, (L.foldl (Go.Proofs.YtbnobjlphmkgeaaGreatDoor.stepY x) s).1 z = some p → p = q ++ [z]) ∧
      (∀ z ∈ (L.foldl (Go.Proofs.YtbnobjlphmkgeaaGreatDoor.stepY x) s).2, z ∈ s.2 ∨ wayOf (L.foldl (Go.Proofs.YtbnobjlphmkgeaaGreatDoor.stepY x) s).1 z = q ++ [z])
  | [], s, h, _, _ => ⟨h, fun _ _ hz => hz, (fun y hy => by cases hy), (fun z hz p hp => by rw [List.foldl_nil] at hp; rw [hz] at hp; cases hp), fun z hz => .inl hz⟩
  | y :: L, s, h, hL, hs => by
    have hL' := List.pairwise_cons.1 hL
    obtain ⟨h1, h2, h3, h4, h5⟩ := h.stepY hx hq (y := y) (fun z hz hne => by
      rcases hs z hz with ⟨a, b, e1, e2⟩ | ⟨e1, e2⟩
      · rw [e1]; exact lessW_snoc _ _ e2
      · rw [e1]
        have := e2 y (List.mem_cons_self ..)
        exact lessW_last q (by omega))
    obtain ⟨i1, i2, i3, i4, i5⟩ := MidOk.foldY hx hq L (Go.Proofs.YtbnobjlphmkgeaaGreatDoor.stepY x s y) h1 hL'.2 (fun z hz => by
      rcases h5 z hz with hz' | ⟨rfl, hz'⟩
      · obtain ⟨_, p, hp, _⟩ := h.row z hz'
        have e : wayOf (Go.Proofs.YtbnobjlphmkgeaaGreatDoor.stepY x s y).1 z = wayOf s.1 z := by rw [wayOf_some (h2 z p hp), wayOf_some hp]
        rw [e]
        exact (hs z hz').imp id fun ⟨e1, e2⟩ => ⟨e1, fun y' hy' => e2 y' (List.mem_cons_of_mem _ hy')⟩
      · exact .inr ⟨wayOf_some hz', fun y' hy' => hL'.1 y' hy'⟩)
    rw [List.foldl_cons]
    refine ⟨i1, fun z p hz => i2 z p (h2 z p hz), fun z hz => ?_, fun z hz p hp => ?_, fun z hz => ?_⟩
    · rcases List.mem_cons.1 hz with rfl | hz
      · obtain ⟨p, hp⟩ := h3; exact ⟨p, i2 _ p hp⟩
      · exact i3 z hz
    · cases e : (Go.Proofs.YtbnobjlphmkgeaaGreatDoor.stepY x s y).1 z with
      | none => exact i4 z e p hp
      | some p' =>
        have := i2 z p' e
        rw [this] at hp
        cases hp
        -- it came by this step
        by_cases hzy : z = y
        · subst hzy
          have := h4 hz
          rw [this] at e; cases e; rfl
        · exfalso
          unfold Go.Proofs.YtbnobjlphmkgeaaGreatDoor.stepY at e
          split at e
          · rw [hz] at e; cases e
          · dsimp only at e; unfold wset at e; rw [if_neg hzy, hz] at e; cases e
    · rcases i5 z hz with hz' | hz'
      · rcases h5 z hz' with hz'' | ⟨rfl, hz''⟩
        · exact .inl hz''
        · right; rw [wayOf_some (i2 _ _ hz'')]
      · exact .inr hz'
theorem MidOk.foldX {l : Bytes} {k : Nat} {W0 : Ways} : ∀ (R : List Nat) (s : Ways × List Nat), MidOk k W0 s → (∀ x ∈ R, ∃ q, W0 x = some q ∧ q.length = k + 1) → R.Pairwise (fun x y => lessW (wayOf W0 x) (wayOf W0 y) = true) →
    (∀ z ∈ s.2, ∀ x ∈ R, ∃ a b, wayOf s.1 z = a ++ [b] ∧ lessW a (wayOf W0 x) = true) →
    MidOk k W0 (R.foldl (stepX l) s) ∧ (∀ z p, s.1 z = some p → (R.foldl (stepX l) s).1 z = some p) ∧ (∀ x ∈ R, ∀ y ∈ refsL l (x : Int), ∃ p, (R.foldl (stepX l) s).1 y = some p ∧ (s.1 y = none → leW p (wayOf W0 x ++ [y])))
  | [], s, h, _, _, _ => ⟨h, fun _ _ hz => hz, fun x hx => by cases hx⟩
  | x :: R, s, h, hR, ho, hs => by
    obtain ⟨q, hq, hql⟩ := hR x (List.mem_cons_self ..)
    have ho' := List.pairwise_cons.1 ho
    obtain ⟨i1, i2, i3, i4, i5⟩ := MidOk.foldY hq hql (sortNat (refsL l (x : Int))) s h (sortNat_up _) (fun z hz => .inl (by
      obtain ⟨a, b, e1, e2⟩ := hs z hz x (List.mem_cons_self ..)
      rw [wayOf_some hq] at e2
      exact ⟨a, b, e1, e2⟩))
    have hst : stepX l s x = (sortNat (refsL l (x : Int))).foldl (Go.Proofs.YtbnobjlphmkgeaaGreatDoor.stepY x) s := rfl
    rw [← hst] at i1 i2 i3 i4 i5
    obtain ⟨j1, j2, j3⟩ := MidOk.foldX R (stepX l s x) i1 (fun z hz => hR z (List.mem_cons_of_mem _ hz)) ho'.2 (fun z hz x' hx' => by
      rcases i5 z hz with hz' | hz'
      · obtain ⟨a, b, e1, e2⟩ := hs z hz' x' (List.mem_cons_of_mem _ hx')
        obtain ⟨_, p, hp, _⟩ := h.row z hz'
        exact ⟨a, b, by rw [wayOf_some (i2 z p hp), ← wayOf_some hp]; exact e1, e2⟩
      · refine ⟨q, z, hz', ?_⟩
        have := ho'.1 x' hx'
        rwa [wayOf_some hq] at this)
    rw [List.foldl_cons]
    refine ⟨j1, fun z p hz => j2 z p (i2 z p hz), fun x' hx' y hy => ?_⟩
    rcases List.mem_cons.1 hx' with rfl | hx'
    · obtain ⟨p, hp⟩ := i3 y (sortNat_mem.2 hy)
      refine ⟨p, j2 y p hp, fun hn => ?_⟩
      rw [i4 y hn p hp, wayOf_some hq]; exact leW_refl _
    · obtain ⟨p, hp, hle⟩ := j3 x' hx' y hy
      refine ⟨p, hp, fun hn => ?_⟩
      cases e : (stepX l s x).1 y with
      | none => exact hle e
      | some p' =>
        have := j2 y p' e
        rw [this] at hp; cases hp
        rw [i4 y hn p e]
        have := ho'.1 x' hx'
        rw [wayOf_some hq] at this
        exact leW_of_less (lessW_snoc _ _ this)
theorem MinOk.next {l : Bytes} {k : Nat} {s : Ways × List Nat} {D : List Nat} (h : MinOk l k s) (hl : LvOk l s D) : MinOk l (k + 1) (lvl l s) := by
  obtain ⟨i1, i2, i3⟩ := MidOk.foldX (l := l) (k := k) (W0 := s.1) s.2 (s.1, []) ⟨fun _ _ hz => hz, (fun y hy hs => by dsimp only at hs; rw [hy] at hs; cases hs), (fun y hy => by cases hy), List.Pairwise.nil⟩ (fun x hx => by
      obtain ⟨h1, h2⟩ := h.row x hx
      obtain ⟨q, hq⟩ := Option.isSome_iff_exists.1 h2
      exact ⟨q, hq, by rw [wayOf_some hq] at h1; exact h1⟩) h.ord (fun z hz => by cases hz)
  have hlv : lvl l s = s.2.foldl (stepX l) (s.1, []) := rfl
  rw [← hlv] at i1 i2 i3
  dsimp only at i2 i3
  refine ⟨fun y p hp => ?_, fun x hx => ?_, i1.ord, fun y p hp hpl => ?_, fun p y hw hpl => ?_⟩
  · cases e : s.1 y with
    | some p' => rw [i2 y p' e] at hp; cases hp; have := h.len y _ e; omega
    | none =>
      obtain ⟨_, p', hp', hl'⟩ := i1.row y (i1.new y e (by rw [hp]; rfl))
      rw [hp'] at hp; cases hp; omega
  · obtain ⟨_, p, hp, hpl⟩ := i1.row x hx
    rw [wayOf_some hp, hp]; exact ⟨by omega, rfl⟩
  · cases e : s.1 y with
    | some p' => rw [i2 y p' e] at hp; cases hp; have := h.len y _ e; omega
    | none => exact i1.new y e (by rw [hp]; rfl)
  · by_cases hs : p.length ≤ k + 1
    · obtain ⟨p', h1, h2⟩ := h.least p y hw hs
      exact ⟨p', i2 y p' h1, h2⟩
    · cases hw with
      | root hr => simp at hs
      | @step q x _ hq hy =>
        simp only [List.length_append, List.length_cons, List.length_nil] at hpl hs
        obtain ⟨q', h1, h2⟩ := h.least q x hq (by omega)
        have hq1 := h.len x q' h1
        cases e : s.1 y with
        | some p' =>
          have := h.len y p' e
          exact ⟨p', i2 y p' e, leW_short (by simp; omega)⟩
        | none =>
          by_cases hx : x ∈ s.2
          · obtain ⟨p', h3, h4⟩ := i3 x hx y hy
            refine ⟨p', h3, leW_trans (h4 e) ?_⟩
            rw [wayOf_some h1]; exact leW_snoc y h2
          · exfalso
            have hxD : x ∈ D := (hl.ok.dk x).1 (by rw [h1]; rfl)
            have := (hl.ok.dk y).2 (hl.closed x hxD hx y hy)
            rw [e] at this; cases this
theorem MinOk.at_ {l : Bytes} (hg : Good l) : ∀ k, MinOk l k (lvlN l k)
  | 0 => MinOk.start
  | k + 1 => by
    obtain ⟨D, hD, -⟩ := LvOk.at_ hg k
    exact (MinOk.at_ hg k).next hD
/-- of all ways to an object the program's is the least -/
theorem fromW_least {l : Bytes} (hg : Good l) {p : List Nat} {y : Nat} (h : IsWay l p y) : ∃ p', fromW l y = some p' ∧ leW p' p ∧ IsWay l p' y := by
  obtain ⟨D, hD, hc⟩ := fromW_ok hg
  have hm := MinOk.at_ hg 41
  have hin : ∀ p y, IsWay l p y → y ∈ D := fun p y hw => by
    induction hw with
    | root hr => exact (hD.dk _).1 (by rw [hD.roots _ hr]; rfl)
    | step _ hy ih => exact hc _ ih _ hy
  obtain ⟨p', hp'⟩ := Option.isSome_iff_exists.1 ((hD.dk y).2 (hin p y h))
  refine ⟨p', hp', ?_, hD.isWay _ y p' (Nat.le_refl _) hp'⟩
  by_cases hl : p.length ≤ 42
  · obtain ⟨p2, h1, h2⟩ := hm.least p y h hl
    have : fromW l y = some p2 := h1
    rw [this] at hp'; cases hp'; exact h2
  · have := hm.len y p' hp'
    exact leW_short (by omega)
end Go.Proofs.YtbnobjlphmkgeaaGreatDoor
/- The reference on ways, plain: what is found by asking again and again is the least. -/
namespace Go.Proofs.YtbnobjlphmkgeaaGreatDoor
open Go.RowKit

abbrev WV := Nat → List Nat
def vset (V : WV) (y : Nat) (p : List Nat) : WV := fun q => if q = y then p else V q
def stepV (h : Nat) (s : WV × Bool) (y : Nat) : WV × Bool := if s.1 y = [] ∨ lessW (s.1 h ++ [y]) (s.1 y) = true then (vset s.1 y (s.1 h ++ [y]), true) else s
def stepH (l : Bytes) (s : WV × Bool) (h : Nat) : WV × Bool := if s.1 h = [] then s else (refsL l (h : Int)).foldl (stepV h) s
def passV (l : Bytes) (V : WV) : WV × Bool := ((List.range 40).map (· + 1)).foldl (stepH l) (V, false)
def startV (l : Bytes) : WV := fun q => if q ∈ rootsH l then [q] else []
/-- a way as a number -/
def code : List Nat → Nat
  | [] => 0
  | x :: a => x * 41 ^ a.length + code a
theorem code_lt : ∀ {a : List Nat}, (∀ x ∈ a, x ≤ 40) → code a < 41 ^ a.length
  | [], _ => by simp [code]
  | x :: a, h => by
    have h1 := code_lt (a := a) fun y hy => h y (List.mem_cons_of_mem _ hy)
    have h2 := h x (List.mem_cons_self ..)
    unfold code
    rw [List.length_cons, Nat.pow_succ]
    generalize 41 ^ a.length = P at *
    have : x * P ≤ 40 * P := Nat.mul_le_mul_right P h2
    omega
theorem code_ge {x : Nat} {a : List Nat} (h : 1 ≤ x) : 41 ^ a.length ≤ code (x :: a) := by
  unfold code
  generalize 41 ^ a.length = P at *
  have : 1 * P ≤ x * P := Nat.mul_le_mul_right P h
  omega
theorem code_lex : ∀ {a b : List Nat}, a.length = b.length → (∀ x ∈ a, x ≤ 40) → lexLt a b = true → code a < code b
  | [], [], _, _, h => by simp [lexLt] at h
  | [], _ :: _, h, _, _ => by simp at h
  | _ :: _, [], h, _, _ => by simp at h
  | x :: a, y :: b, h, ha, hl => by
    have h' : a.length = b.length := by simpa using h
    unfold lexLt at hl
    by_cases e : x = y
    · subst e
      rw [if_pos rfl] at hl
      have := code_lex h' (fun z hz => ha z (List.mem_cons_of_mem _ hz)) hl
      unfold code; rw [h']; omega
    · rw [if_neg e] at hl
      have hxy := of_decide_eq_true hl
      have h1 := code_lt (a := a) fun z hz => ha z (List.mem_cons_of_mem _ hz)
      unfold code
      rw [h'] at h1 ⊢
      generalize 41 ^ b.length = P at *
      have : (x + 1) * P ≤ y * P := Nat.mul_le_mul_right P hxy
      rw [Nat.succ_mul] at this
      omega
theorem code_less {a b : List Nat} (ha : ∀ x ∈ a, x ≤ 40) (hb : ∀ x ∈ b, 1 ≤ x) (h : lessW a b = true) : code a < code b := by
  unfold lessW at h
  by_cases e : a.length = b.length
  · rw [if_pos e] at h; exact code_lex e ha h
  · rw [if_neg e] at h
    have hl := of_decide_eq_true h
    cases b with
    | nil => simp at hl
    | cons y b =>
      have h1 := code_lt ha
      have h2 := code_ge (a := b) (hb y (List.mem_cons_self ..))
      have h3 : 41 ^ a.length ≤ 41 ^ b.length := Nat.pow_le_pow_right (by omega) (by simp at hl; omega)
      omega
def phi (p : List Nat) : Nat := if p = [] then 41 ^ 42 else code p
def sumV (V : WV) : Nat → Nat
  | 0 => 0
  | k + 1 => sumV V k + phi (V k)
theorem sumV_upd (V : WV) (y : Nat) (p : List Nat) : ∀ n, sumV (vset V y p) n + (if y < n then phi (V y) else 0) = sumV V n + (if y < n then phi p else 0)
  | 0 => by simp [sumV]
  | n + 1 => by
    have ih := sumV_upd V y p n
    unfold sumV
    by_cases h : y = n
    · subst h
      rw [if_neg (by omega), if_neg (by omega)] at ih
      rw [if_pos (by omega), if_pos (by omega)]
      have : vset V y p y = p := by unfold vset; rw [if_pos rfl]
      rw [this]; omega
    · have : vset V y p n = V n := by unfold vset; rw [if_neg (by omega)]
      rw [this]
      by_cases h2 : y < n
      · rw [if_pos h2, if_pos h2] at ih; rw [if_pos (by omega), if_pos (by omega)]; omega
      · rw [if_neg h2, if_neg h2] at ih; rw [if_neg (by omega), if_neg (by omega)]; omega
def cntV (V : WV) : Nat → Nat
  | 0 => 0
  | k + 1 => cntV V k + (if V k = [] then 0 else 1)
theorem cntV_le (V : WV) : ∀ n, cntV V n ≤ n
  | 0 => Nat.le_refl _
  | n + 1 => by unfold cntV; have := cntV_le V n; split <;> omega
theorem cntV_upd (V : WV) (y : Nat) (p : List Nat) (hp : p ≠ []) : ∀ n, cntV (vset V y p) n = cntV V n + (if y < n ∧ V y = [] then 1 else 0)
  | 0 => by simp [cntV]
  | n + 1 => by
    have ih := cntV_upd V y p hp n
    unfold cntV
    rw [ih]
    by_cases h : y = n
    · subst h
      have : vset V y p y = p := by unfold vset; rw [if_pos rfl]
      rw [this, if_neg hp]
      by_cases hv : V y = [] <;> simp [hv]
    · have : vset V y p n = V n := by unfold vset; rw [if_neg (by omega)]
      rw [this]
      have e : (y < n + 1 ∧ V y = []) ↔ (y < n ∧ V y = []) := ⟨fun h3 => ⟨by omega, h3.2⟩, fun h3 => ⟨by omega, h3.2⟩⟩
      simp only [e]; omega
theorem IsWay.digits {l : Bytes} (hg : Good l) {p : List Nat} {y : Nat} (h : IsWay l p y) : ∀ x ∈ p, 1 ≤ x ∧ x ≤ 40 := by
  induction h with
  | root hr => intro x hx; simp only [List.mem_singleton] at hx; subst hx; exact hE_nat (rootsH_mem hg hr)
  | step _ hy ih =>
    intro x hx
    rcases List.mem_append.1 hx with hx | hx
    · exact ih x hx
    · simp only [List.mem_singleton] at hx; subst hx; exact hE_nat (refsL_mem (_y := 0) hy)
structure VOk (l : Bytes) (V : WV) : Prop where
  way : ∀ y, V y ≠ [] → IsWay l (V y) y
  root : ∀ r ∈ rootsH l, V r = [r]
  bd : ∀ y, (V y).length ≤ cntV V 41
theorem VOk.start {l : Bytes} (hg : Good l) : VOk l (startV l) where
  way y h := by
    unfold startV at h ⊢
    split
    · rename_i hr; exact .root hr
    · rename_i hr; rw [if_neg hr] at h; exact absurd rfl h
  root r hr := by unfold startV; rw [if_pos hr]
  bd y := by
    by_cases hr : y ∈ rootsH l
    · have hy := hE_nat (rootsH_mem hg hr)
      have hv : startV l y = [y] := by unfold startV; rw [if_pos hr]
      rw [hv]
      have h0 : vset (startV l) y [y] = startV l := funext fun q => by
        unfold vset; split
        · rename_i e; rw [e, hv]
        · rfl
      have key : ∀ n, y < n → 1 ≤ cntV (startV l) n := by
        intro n hn
        induction n with
        | zero => omega
        | succ n ih =>
          unfold cntV
          by_cases e : y = n
          · subst e; rw [hv]; simp
          · have := ih (by omega); omega
      have := key 41 (by omega)
      simpa using this
    · have hv : startV l y = [] := by unfold startV; rw [if_neg hr]
      rw [hv]; simp
theorem VOk.step {l : Bytes} (hg : Good l) {s : WV × Bool} (h : VOk l s.1) {x y : Nat} (hx : s.1 x ≠ []) (hy : y ∈ refsL l (x : Int)) :
    VOk l (stepV x s y).1 ∧ ((stepV x s y = s ∧ s.1 y ≠ [] ∧ lessW (s.1 x ++ [y]) (s.1 y) = false) ∨ ((stepV x s y).2 = true ∧ sumV (stepV x s y).1 41 < sumV s.1 41)) ∧ (stepV x s y).1 x = s.1 x := by
  have hw := h.way x hx
  have hnw : IsWay l (s.1 x ++ [y]) y := .step hw hy
  have hd := hnw.digits hg
  have hyd := hd y (by simp)
  unfold stepV
  by_cases hc : s.1 y = [] ∨ lessW (s.1 x ++ [y]) (s.1 y) = true
  · rw [if_pos hc]
    have hxy : x ≠ y := fun e => by
      subst e
      rcases hc with hc | hc
      · exact hx hc
      · have := leW_len (leW_of_less hc); simp at this; omega
    have hxk : vset s.1 y (s.1 x ++ [y]) x = s.1 x := by unfold vset; rw [if_neg hxy]
    have hne : s.1 x ++ [y] ≠ [] := by simp
    have hcn := cntV_upd s.1 y (s.1 x ++ [y]) hne 41
    have hsm := sumV_upd s.1 y (s.1 x ++ [y]) 41
    rw [if_pos (by omega), if_pos (by omega)] at hsm
    refine ⟨⟨fun z hz => ?_, fun r hr => ?_, fun z => ?_⟩, .inr ⟨rfl, ?_⟩, hxk⟩
    · show IsWay l (vset s.1 y (s.1 x ++ [y]) z) z
      by_cases e : z = y
      · subst e; unfold vset; rw [if_pos rfl]; exact hnw
      · have e1 : vset s.1 y (s.1 x ++ [y]) z = s.1 z := by unfold vset; rw [if_neg e]
        rw [e1]
        exact h.way z (by rw [← e1]; exact hz)
    · have hr' := h.root r hr
      show vset s.1 y (s.1 x ++ [y]) r = [r]
      by_cases e : r = y
      · exfalso
        subst e
        rw [hr'] at hc
        rcases hc with hc | hc
        · cases hc
        · have h1 := leW_len (leW_of_less hc)
          have h2 := hw.pos
          rw [List.length_append] at h1
          simp only [List.length_cons, List.length_nil] at h1
          omega
      · unfold vset; rw [if_neg e]; exact hr'
    · show (vset s.1 y (s.1 x ++ [y]) z).length ≤ cntV (vset s.1 y (s.1 x ++ [y])) 41
      rw [hcn]
      by_cases e : z = y
      · subst e
        have e1 : vset s.1 z (s.1 x ++ [z]) z = s.1 x ++ [z] := by unfold vset; rw [if_pos rfl]
        rw [e1]
        by_cases hv : s.1 z = []
        · rw [if_pos ⟨by omega, hv⟩]
          have := h.bd x
          simp; omega
        · rcases hc with hc | hc
          · exact absurd hc hv
          · have := leW_len (leW_of_less hc)
            have := h.bd z
            omega
      · have e1 : vset s.1 y (s.1 x ++ [y]) z = s.1 z := by unfold vset; rw [if_neg e]
        rw [e1]
        have := h.bd z
        omega
    · show sumV (vset s.1 y (s.1 x ++ [y])) 41 < sumV s.1 41
      have hph : phi (s.1 x ++ [y]) < phi (s.1 y) := by
        unfold phi
        rw [if_neg hne]
        by_cases hv : s.1 y = []
        · rw [if_pos hv]
          have h1 := code_lt (a := s.1 x ++ [y]) fun z hz => (hd z hz).2
          have h2 : 41 ^ (s.1 x ++ [y]).length ≤ 41 ^ 42 := Nat.pow_le_pow_right (by omega) (by
            have := h.bd x; have := cntV_le s.1 41; simp; omega)
          exact Nat.lt_of_lt_of_le h1 h2
        · rw [if_neg hv]
          rcases hc with hc | hc
          · exact absurd hc hv
          · exact code_less (fun z hz => (hd z hz).2) (fun z hz => ((h.way y hv).digits hg z hz).1) hc
      omega
  · rw [if_neg hc]
    have h1 : s.1 y ≠ [] := fun e => hc (.inl e)
    have h2 : lessW (s.1 x ++ [y]) (s.1 y) = false := by
      cases e : lessW (s.1 x ++ [y]) (s.1 y) with
      | false => rfl
      | true => exact absurd (.inr e) hc
    exact ⟨h, .inl ⟨rfl, h1, h2⟩, rfl⟩
/-- a pass: either nothing has changed and all is closed, or it has, and less is left -/
structure PassR (l : Bytes) (V : WV) (s : WV × Bool) (Q : Prop) : Prop where
  ok : VOk l s.1
  or_ : (s = (V, false) ∧ Q) ∨ (s.2 = true ∧ sumV s.1 41 < sumV V 41)
theorem pass_foldV {l : Bytes} (hg : Good l) {V : WV} {x : Nat} : ∀ (L : List Nat) (s : WV × Bool) (Q : Prop), PassR l V s Q → s.1 x ≠ [] → (∀ y ∈ L, y ∈ refsL l (x : Int)) →
    PassR l V (L.foldl (stepV x) s) (Q ∧ ∀ y ∈ L, V y ≠ [] ∧ lessW (V x ++ [y]) (V y) = false)
  | [], s, Q, h, _, _ => ⟨h.ok, h.or_.imp (fun h => ⟨h.1, h.2, fun y hy => by cases hy⟩) id⟩
  | y :: L, s, Q, h, hx, hL => by
    obtain ⟨h1, h2, h3⟩ := h.ok.step hg hx (hL y (List.mem_cons_self ..))
    have h4 : PassR l V (stepV x s y) (Q ∧ V y ≠ [] ∧ lessW (V x ++ [y]) (V y) = false) := by
      refine ⟨h1, ?_⟩
      rcases h.or_ with ⟨e, hq⟩ | ⟨e, hq⟩
      · rcases h2 with ⟨h2, h5, h6⟩ | ⟨h2, h5⟩
        · left; rw [h2]; subst e; exact ⟨rfl, hq, h5, h6⟩
        · right; subst e; exact ⟨h2, h5⟩
      · rcases h2 with ⟨h2, -, -⟩ | ⟨h2, h5⟩
        · right; rw [h2]; exact ⟨e, hq⟩
        · right; exact ⟨h2, by omega⟩
    have := pass_foldV hg L (stepV x s y) _ h4 (by rw [h3]; exact hx) (fun z hz => hL z (List.mem_cons_of_mem _ hz))
    refine ⟨this.ok, this.or_.imp (fun h => ⟨h.1, h.2.1.1, fun z hz => ?_⟩) id⟩
    rcases List.mem_cons.1 hz with rfl | hz
    · exact h.2.1.2
    · exact h.2.2 z hz
theorem pass_foldH {l : Bytes} (hg : Good l) {V : WV} : ∀ (H : List Nat) (s : WV × Bool) (Q : Prop), PassR l V s Q →
    PassR l V (H.foldl (stepH l) s) (Q ∧ ∀ x ∈ H, V x ≠ [] → ∀ y ∈ refsL l (x : Int), V y ≠ [] ∧ lessW (V x ++ [y]) (V y) = false)
  | [], s, Q, h => ⟨h.ok, h.or_.imp (fun h => ⟨h.1, h.2, fun y hy => by cases hy⟩) id⟩
  | x :: H, s, Q, h => by
    have h4 : PassR l V (stepH l s x) (Q ∧ (V x ≠ [] → ∀ y ∈ refsL l (x : Int), V y ≠ [] ∧ lessW (V x ++ [y]) (V y) = false)) := by
      unfold stepH
      by_cases hx : s.1 x = []
      · rw [if_pos hx]
        refine ⟨h.ok, h.or_.imp (fun h => ⟨h.1, h.2, fun hv => ?_⟩) id⟩
        rw [h.1] at hx; exact absurd hx hv
      · rw [if_neg hx]
        have := pass_foldV hg (refsL l (x : Int)) s Q h hx (fun _ hy => hy)
        exact ⟨this.ok, this.or_.imp (fun h => ⟨h.1, h.2.1, fun _ => h.2.2⟩) id⟩
    have := pass_foldH hg H (stepH l s x) _ h4
    refine ⟨this.ok, this.or_.imp (fun h => ⟨h.1, h.2.1.1, fun z hz => ?_⟩) id⟩
    rcases List.mem_cons.1 hz with rfl | hz
    · exact h.2.1.2
    · exact h.2.2 z hz
theorem pass_is {l : Bytes} (hg : Good l) {V : WV} (h : VOk l V) : VOk l (passV l V).1 ∧ ((passV l V).2 = true → sumV (passV l V).1 41 < sumV V 41) ∧ ((passV l V).2 = false → (passV l V).1 = V ∧ ∀ y, V y = wayOf (fromW l) y) := by
  have hp := pass_foldH hg ((List.range 40).map (· + 1)) (V, false) True ⟨h, .inl ⟨rfl, trivial⟩⟩
  have hpe : passV l V = ((List.range 40).map (· + 1)).foldl (stepH l) (V, false) := rfl
  rw [← hpe] at hp
  refine ⟨hp.ok, fun ht => ?_, fun hf => ?_⟩
  · rcases hp.or_ with ⟨e, -⟩ | ⟨-, e⟩
    · rw [e] at ht; cases ht
    · exact e
  · rcases hp.or_ with ⟨e, -, hc⟩ | ⟨e, -⟩
    · refine ⟨by rw [e], fun y => ?_⟩
      have least : ∀ p y, IsWay l p y → V y ≠ [] ∧ leW (V y) p := fun p y hw => by
        induction hw with
        | root hr => rw [h.root _ hr]; exact ⟨by simp, leW_refl _⟩
        | @step q x y hw' hy ih =>
          have hxd := hw'.digits hg x (by obtain ⟨q', rfl⟩ := hw'.last; simp)
          obtain ⟨h1, h2⟩ := hc x (List.mem_map.2 ⟨x - 1, List.mem_range.2 (by omega), by omega⟩) ih.1 y hy
          exact ⟨h1, leW_trans (show leW (V y) (V x ++ [y]) from h2) (leW_snoc y ih.2)⟩
      by_cases hv : V y = []
      · rw [hv]
        unfold wayOf
        cases e2 : fromW l y with
        | none => rfl
        | some p =>
          exfalso
          obtain ⟨D, hD, -⟩ := fromW_ok hg
          exact (least p y (hD.isWay _ y p (Nat.le_refl _) e2)).1 hv
      · obtain ⟨p', h1, h2, h3⟩ := fromW_least hg (h.way y hv)
        rw [wayOf_some h1]
        exact leW_antisymm (least p' y h3).2 h2
    · rw [e] at hf; cases hf
/-- who is alive, in order -/
def liveL (l : Bytes) : List Nat := ((List.range 40).filter fun k => (fromW l (k + 1)).isSome).map (· + 1)
theorem liveL_up (l : Bytes) : (liveL l).Pairwise (· < ·) := by
  unfold liveL
  refine List.pairwise_map.2 ?_
  exact ((List.pairwise_lt_range (n := 40)).filter _).imp fun h => by omega
theorem way_hE {l : Bytes} (hg : Good l) {k : Nat} (h : (fromW l k).isSome = true) : hE l (k : Int) = 0 := by
  obtain ⟨D, hD, -⟩ := fromW_ok hg
  exact hD.dh k ((hD.dk k).1 h)
theorem liveL_mem {l : Bytes} (hg : Good l) {x : Nat} : x ∈ liveL l ↔ (fromW l x).isSome = true := by
  unfold liveL
  simp only [List.mem_map, List.mem_filter, List.mem_range]
  constructor
  · rintro ⟨k, ⟨-, h⟩, rfl⟩; exact h
  · intro h
    have := hE_nat (way_hE hg h)
    exact ⟨x - 1, ⟨by omega, by rw [show x - 1 + 1 = x by omega]; exact h⟩, by omega⟩
theorem deadL_up (l : Bytes) : (deadL l).Pairwise (· < ·) := by
  unfold deadL deadE
  refine List.pairwise_map.2 ?_
  have hp : (entriesL l).Pairwise (fun a b => a.1 < b.1) := by
    unfold entriesL entsL
    refine List.pairwise_map.2 ?_
    exact ((List.pairwise_lt_range (n := 40)).filter _).imp fun h => by dsimp only; omega
  refine List.Pairwise.imp_of_mem ?_ (hp.filter _)
  intro a b ha hb hab
  obtain ⟨k, h1, h2, rfl⟩ := entL_mem.1 (List.mem_filter.1 ha).1
  obtain ⟨m, h3, h4, rfl⟩ := entL_mem.1 (List.mem_filter.1 hb).1
  dsimp only at hab ⊢
  omega
end Go.Proofs.YtbnobjlphmkgeaaGreatDoor
/- Laid: maps.Keys at maps from numbers to numbers. -/
namespace Go.Proofs.YtbnobjlphmkgeaaGreatDoor
open Go.Shelf
end Go.Proofs.YtbnobjlphmkgeaaGreatDoor
/- slices.Sorted(maps.Keys(m)) of maps from numbers to numbers. -/
namespace Go.Proofs.YtbnobjlphmkgeaaGreatDoor
open Go.RowKit Go.Maps Go.ChangeMaps Go.Sort Go.Shelf

end Go.Proofs.YtbnobjlphmkgeaaGreatDoor
/- Package reach: Live, Dead, Sweep. -/
namespace Go.Proofs.YtbnobjlphmkgeaaGreatDoor
open Go.RowKit Go.Maps Go.ChangeMaps

section
variable {w0 w : World} {F : Nat → Prop} {h : Nat} {l : Bytes}
set_option maxRecDepth 100000 in
theorem dead_any (hp : Hp w0 w F h l) (hg : Good l) :
    Calls Tryz.prog 93 #[.pointer (some ⟨h, 0, none⟩)] w fun e w' => ∃ v, e = .returned v ∧ w'.ownsRow w.heap.size 3 1 v (deadL l).length ((deadL l).flatMap ncell) ∧ Below w.heap.size w w' := by
  obtain ⟨i0', hi0, hz0, hz1, hz2⟩ := info_parts int_infoC
  have HI := Hidden.mk (And.intro hi0 (And.intro hz0 (And.intro hz1 hz2)))
  have HC := Hidden.mk (from_any hp hg)
  have HEN : Hidden (∀ e ∈ entriesL l, ∃ k : Nat, k < 40 ∧ e = ((k : Int) + 1, rawE l k)) := ⟨fun e he => by
    obtain ⟨k, h1, -, h2⟩ := entL_mem.1 he
    exact ⟨k, h1, h2⟩⟩
  have hle : (entriesL l).length ≤ 40 := entsL_len _ _ 40
  have HD : Hidden (deadL l = deadE l (entriesL l)) := ⟨rfl⟩
  generalize deadL l = DL at *
  clear hp hg hi0 hz0 hz1 hz2
  go_enter Tryz.func93, Tryz.ntmps93
  go_wp2_with fail
  refine HC.out.mono ?_
  rintro e w1 ⟨mb, rfl, hf⟩
  have HF1 := Hidden.mk hf
  have HEC := Hidden.mk (hentries_any hf.hp)
  generalize entriesL l = E at *
  clear hf HC
  go_wp2_with fail
  refine HEC.out.mono ?_
  rintro e w2 ⟨v, rfl, hown, hb2⟩
  obtain ⟨A1, c1, rfl, hc1, -⟩ := own_split hown
  have HR := Hidden.mk (own_rdX3 (f := ecells) (fun _ => rfl) rfl hown)
  have HF2 := Hidden.mk (HF1.out.below hb2)
  generalize hm : E.length = m at *
  have HM := Hidden.mk hm
  clear hown hb2 HEC HF1 hm
  go_wp2_with fail
  go_loopg [2, 13] m (fun q v i wr => ∃ k : Nat, k ≤ m ∧ q = m - k ∧ i = .int .i64 (k : Int) ∧ Hidden (Below w2.heap.size w2 wr ∧ wr.ownsRow w2.heap.size 3 1 v (deadE l (E.take k)).length ((deadE l (E.take k)).flatMap ncell)))
  case atStart => exact ⟨0, by omega, rfl, rfl, ⟨Below.refl _ _, World.ownsRow_nil _ _ _ _⟩⟩
  case round =>
    obtain ⟨k, hk, rfl, rfl, hst⟩ := hrel
    by_cases hlt : k < m
    · have hkE : k < E.length := by rw [HM.out]; exact hlt
      obtain ⟨p, off, rfl, hcx⟩ := (HR.out.below hst.out.1) k hkE
      have x0 := hcx 0 _ rfl
      have x1 := hcx 1 _ rfl
      have x2 := hcx 2 _ rfl
      have x3 := hcx 3 _ rfl
      rw [Nat.add_zero] at x0
      have HS := Hidden.mk (deadE_succ l E k hkE)
      obtain ⟨j, hj, hej⟩ := HEN.out E[k] (List.getElem_mem hkE)
      have hdl : (deadE l (E.take k)).length ≤ 40 := Nat.le_trans (deadE_len _ _) (by rw [List.length_take]; omega)
      rw [hej] at x0 x1 x2 x3 HS
      dsimp only at x0 x1 x2 x3 HS
      rw [show ((j : Int) + 1).toNat = j + 1 by omega] at HS
      generalize rAt (rawE l j) = e1 at *
      generalize rLen (rawE l j) = e2 at *
      generalize rTag (rawE l j) = e3 at *
      have i0 : (0 : Int) ≤ k := by omega
      have i1 : (k : Int) < m := by omega
      have s3 : IntKind.i64.wrap ((k : Int) + 1) = (k : Int) + 1 := IntWalk.i64_in _ (by omega)
      have hal : Below wr.heap.size wr (wr.alloc (.cells #[.int .i64 ((j : Int) + 1), .int .i64 e1, .int .i64 e2, .int .i64 e3] 66)) := (Below.refl _ _).alloc (Nat.le_refl _) _
      have hFW := (HF2.out.below hst.out.1).below hal
      obtain ⟨lk0, lk1⟩ := hFW.look (y := j + 1) (by omega)
      rw [show ((j + 1 : Nat) : Int) = (j : Int) + 1 from by omega] at lk0 lk1
      have HN := Hidden.mk (And.intro (hst.out.1.trans (hal.mono hst.out.1.size)) (own_below hst.out.2 hal))
      generalize hDe : deadE l (E.take k) = DE at *
      clear hcx hst hej hFW hDe
      cases hw : fromW l (j + 1) with
      | some pp =>
        have lk := (lk1 pp hw).1
        rw [hw] at HS
        have HSS : Hidden (deadE l (E.take (k + 1)) = DE) := ⟨by rw [HS.out]; simp⟩
        generalize (par pp : Int) = pz at *
        clear lk0 lk1 hw HS hal
        go_wp2_with fail
        go_roundg (m - (k + 1))
        case measure => omega
        case rel => exact ⟨k + 1, by omega, rfl, by go_num, ⟨by rw [HSS.out]; exact HN.out⟩⟩
      | none =>
        have lk := lk0 hw
        rw [hw] at HS
        have HSS : Hidden (deadE l (E.take (k + 1)) = DE ++ [j + 1]) := ⟨by rw [HS.out]; simp⟩
        obtain ⟨hi0, hz0, hz1, hz2⟩ := HI.out
        clear lk0 lk1 hw HS hal
        go_wp2_with (at_builtin; refine wpList_append_lies _ rfl (.tmp 26) (.tmp 29) _ rfl w2.heap.size 3 i0' _ 1 8 Tryz.underlying54 hi0 hz0 hz1 hz2 rfl (by decide) u2 DE.length (DE.flatMap ncell) rfl (own_below HN.out.2 ((Below.refl _ _).alloc (Nat.le_refl _) _)) ⟨wr.heap.size + 1, 0, none⟩ 1 1 [.int .i64 ((j : Int) + 1)] rfl rfl (World.news_of_block (cs := #[.int .i64 ((j : Int) + 1)]) (t := 3) (fr := (0, 0)) (by have hq_ := heap_alloc_new ((wr.alloc (.cells #[.int .i64 ((j : Int) + 1), .int .i64 e1, .int .i64 e2, .int .i64 e3] 66))) (.cells #[.int .i64 ((j : Int) + 1)] 3); rwa [World.size_alloc] at hq_)) (by simp [Value.oneCell']) (by omega) (by simp only [maxLen]; omega) (by omega) (by have hz_ := HN.out.1.size; rw [World.size_alloc]; omega) (wr.heap.size + 1 + 1) (by simp) ?_; intro g8 cap8 w8 hown8 hg8 hat8 hlt8)
        have hgW := grown_trans' ((Below.refl (wr.alloc (.cells #[.int .i64 ((j : Int) + 1), .int .i64 e1, .int .i64 e2, .int .i64 e3] 66)).heap.size (wr.alloc (.cells #[.int .i64 ((j : Int) + 1), .int .i64 e1, .int .i64 e2, .int .i64 e3] 66))).alloc (Nat.le_refl _) _) hg8
        have hB8 : Below w2.heap.size w2 w8 := HN.out.1.grown hgW HN.out.1.size (fun q hq => (HN.out.2.lt q hq).1)
        have HF : Hidden (Below w2.heap.size w2 w8 ∧ w8.ownsRow w2.heap.size 3 1 (.slice (some ⟨g8, 0, none⟩) (DE.length + 1) cap8) (DE ++ [j + 1]).length ((DE ++ [j + 1]).flatMap ncell)) := ⟨hB8, by
          rw [List.length_append, List.flatMap_append]
          simpa [ncell] using hown8⟩
        clear hgW hB8 hown8 hg8 hat8 hlt8 hi0 hz0 hz1 hz2
        go_roundg (m - (k + 1))
        case measure => omega
        case rel => exact ⟨k + 1, by omega, rfl, by go_num, ⟨by rw [HSS.out]; exact HF.out⟩⟩
    · obtain rfl : m = k := by omega
      have hT := hst.out.2
      rw [List.take_of_length_le (by rw [HM.out]; exact Nat.le_refl _), ← HD.out] at hT
      have HF : Hidden (wr.ownsRow w.heap.size 3 1 u2 DL.length (DL.flatMap ncell) ∧ Below w.heap.size w wr) := ⟨own_base hT HF2.out.bel.size, HF2.out.bel.trans (hst.out.1.mono HF2.out.bel.size)⟩
      clear hT hst HD
      go_wp2_with fail
      go_ret
      exact ⟨_, rfl, HF.out.1, HF.out.2⟩
set_option maxRecDepth 100000 in
theorem sweep_any (hp : Hp w0 w F h l) (hg : Good l) :
    Calls Tryz.prog 25 #[.pointer (some ⟨h, 0, none⟩)] w fun e w' => e = .returned (.tuple #[.int .i64 ((deadL l).length : Int), .nilIface]) ∧ ∃ F', HpM w0 w w' F F' h (sweepL l) := by
  have HC := Hidden.mk (dead_any hp hg)
  have HP := Hidden.mk hp
  have HG := Hidden.mk hg
  have hle : (deadL l).length ≤ 40 := Nat.le_trans (deadE_len _ _) (entsL_len _ _ 40)
  have HSF : Hidden (∀ i (hi : i < (deadL l).length), freeE (sweepT l ((deadL l).take i)) ((deadL l)[i] : Int) = 0) := ⟨fun i hi => sweep_free HG.out hi⟩
  have HSS : Hidden (∀ i (hi : i < (deadL l).length), sweepT l ((deadL l).take (i + 1)) = freeL (sweepT l ((deadL l).take i)) ((deadL l)[i] : Int)) := ⟨fun i hi => sweepT_succ l _ i hi⟩
  have HSW : Hidden (sweepL l = sweepT l (deadL l)) := ⟨rfl⟩
  generalize deadL l = D at *
  clear hp hg
  go_enter Tryz.func25, Tryz.ntmps25
  go_wp2_with fail
  refine HC.out.mono ?_
  rintro e w1 ⟨v, rfl, hown, hb1⟩
  obtain ⟨A1, c1, rfl, hc1, -⟩ := own_split hown
  have HO := Hidden.mk hown
  have HP1 := Hidden.mk (HP.out.same hb1)
  have HNF : Hidden (∀ q, (Value.slice A1 D.length c1).ownBlock = some q → ¬ F q) := ⟨fun q hq hf => by
    have := (hown.lt q hq).1; have := HP.out.flt q hf; omega⟩
  clear hown hb1 HC HP
  go_wp2_with fail
  go_loopg [12] D.length (fun q i wr => ∃ (k : Nat) (F' : Nat → Prop), k ≤ D.length ∧ q = D.length - k ∧ i = .int .i64 (k : Int) ∧ Hidden (HpM w0 w1 wr F F' h (sweepT l (D.take k))))
  case atStart => exact ⟨0, F, by omega, rfl, rfl, ⟨HP1.out.hp.same (Below.refl _ _)⟩⟩
  case round =>
    obtain ⟨k, F', hk, rfl, rfl, hst⟩ := hrel
    by_cases hlt : k < D.length
    · have hkD : k < D.length := hlt
      have hown := ownsRow_block HO.out (w' := wr) fun q hq => hst.out.kp.block q (HO.out.lt q hq).2 (HNF.out q hq)
      obtain ⟨pb, ob, rfl, hcx⟩ := (own_rdX3 (f := ncell) (fun _ => rfl) rfl hown) k hkD
      have x0 : wr.cell? ⟨pb, ob + k, none⟩ = some (.int .i64 (D[k] : Int)) := by simpa using hcx 0 _ rfl
      have HFR := Hidden.mk (hfree_any (D[k] : Int) hst.out.hp)
      rw [HSF.out k hkD, ← HSS.out k hkD, show errV 0 = Value.nilIface from rfl] at HFR
      have HST := Hidden.mk hst.out
      generalize D[k] = q0 at *
      have i0 : (0 : Int) ≤ k := by omega
      have i1 : (k : Int) < D.length := by omega
      have s3 : IntKind.i64.wrap ((k : Int) + 1) = (k : Int) + 1 := IntWalk.i64_in _ (by omega)
      clear hcx hst hown
      go_wp2_with fail
      refine HFR.out.mono ?_
      rintro e w5 ⟨rfl, F5, hm5⟩
      have HM5 := Hidden.mk (HST.out.trans hm5)
      clear hm5 HFR
      go_wp2_with fail
      go_roundg (D.length - (k + 1))
      case measure => omega
      case rel => exact ⟨k + 1, F5, by omega, rfl, by go_num, HM5⟩
    · obtain rfl : k = D.length := by omega
      have hT := hst.out
      rw [List.take_length, ← HSW.out] at hT
      have HF := Hidden.mk (HP1.out.trans hT)
      clear hT hst
      go_wp2_with fail
      go_ret2
      exact ⟨rfl, _, HF.out⟩
end
end Go.Proofs.YtbnobjlphmkgeaaGreatDoor
/- The contract of play.Do. -/
namespace Go.Proofs.YtbnobjlphmkgeaaGreatDoor
open Go.RowKit Go.Maps Go.ChangeMaps

section
variable {w0 w w1 w' : World} {F F' GH GH' G : Nat → Prop} {s p d h gk ck st n : Nat} {D : Dv} {l l' K : Bytes}
def Six6 (w : World) (a : Nat) (v0 v1 v2 v3 v4 v5 : Value) : Prop := w.cell? ⟨a, 0, none⟩ = some v0 ∧ w.cell? ⟨a, 1, none⟩ = some v1 ∧ w.cell? ⟨a, 2, none⟩ = some v2 ∧ w.cell? ⟨a, 3, none⟩ = some v3 ∧ w.cell? ⟨a, 4, none⟩ = some v4 ∧ w.cell? ⟨a, 5, none⟩ = some v5
theorem six6_cells (w : World) (v0 v1 v2 v3 v4 v5 : Value) (T : TypeId) : Six6 (w.alloc (.cells #[v0, v1, v2, v3, v4, v5] T)) w.heap.size v0 v1 v2 v3 v4 v5 := by
  unfold Six6
  simp only [World.cell?]
  rw [heap_alloc_new w _]
  exact ⟨rfl, rfl, rfl, rfl, rfl, rfl⟩
end
end Go.Proofs.YtbnobjlphmkgeaaGreatDoor
/- Package store: of, Open, Create. -/
namespace Go.Proofs.YtbnobjlphmkgeaaGreatDoor
open Go.RowKit Go.Maps Go.ChangeMaps

section
variable {w0 w w' : World} {F F' GH GH' G : Nat → Prop} {s p d h gk ck st n : Nat} {D : Dv} {l l' K : Bytes}
end
end Go.Proofs.YtbnobjlphmkgeaaGreatDoor
/- Package store: Create. -/
namespace Go.Proofs.YtbnobjlphmkgeaaGreatDoor
open Go.RowKit Go.Maps Go.ChangeMaps

section
variable {w0 w w' : World} {F F' : Nat → Prop} {d : Nat}
end
end Go.Proofs.YtbnobjlphmkgeaaGreatDoor
/- A store that is played with, the power there: what is kept; a second store beside it; a region's condition made stronger on the way. -/
namespace Go.Proofs.YtbnobjlphmkgeaaGreatDoor
open Go.RowKit Go.Maps Go.ChangeMaps

section
variable {P : Program} {ops : Array Oper} {Q : Exit → Act → World → Prop} {md : Region.Mode} {S S' : World → Prop}
/-- a stronger condition does -/
theorem wpAnyH_strong (h : ∀ w, S' w → S w) : ∀ (fuel : Nat) (listed : Array Bool) (a : Act) (w : World), wpAnyH P md ops Q S' fuel listed a w → wpAnyH P md ops Q S fuel listed a w
  | 0, _, _, _, k => k
  | fuel + 1, _, _, _, k => ⟨k.1, fun i hi => wpOp_mono (fun a' w' k' => ⟨h w' k'.1, wpAnyH_strong h fuel _ a' w' k'.2⟩) (k.2 i hi)⟩
end
section
variable {w0 w w' w1 : World} {F F' GH GH' GA : Nat → Prop} {s p d h nn n sa pa ha gka cka sta : Nat} {S : Sto} {la Ka : Bytes}
end
end Go.Proofs.YtbnobjlphmkgeaaGreatDoor
/- Pages: who says that the power is gone is without it. No program in sight. -/
namespace Go.Proofs.YtbnobjlphmkgeaaGreatDoor
open Go.RowKit

end Go.Proofs.YtbnobjlphmkgeaaGreatDoor
/- StoreSafe: the plain law: what is kept of a store, wherever the power goes. No program in sight. -/
namespace Go.Proofs.YtbnobjlphmkgeaaGreatDoor
open Go.RowKit Go.Maps Go.ChangeMaps

section
variable {nn n : Nat} {s : Sto} {nx : Bytes}
end
section
variable {nn n st : Nat} {D : Dv} {N : Bytes}
end
end Go.Proofs.YtbnobjlphmkgeaaGreatDoor
/- StoreSafe: what the law keeps. -/
namespace Go.Proofs.YtbnobjlphmkgeaaGreatDoor
open Go.RowKit Go.Maps Go.ChangeMaps

section
variable {w0 w w' : World} {F F' GH GH' : Nat → Prop} {s p d h nn n g c g1 c1 g2 c2 gw cw : Nat} {S : Sto} {nx x : Bytes}
end
section
variable {w0 w w' : World} {F F' GH GH' : Nat → Prop} {s p d h nn n st b g c g1 c1 g2 c2 gw cw : Nat} {S : Sto} {D D' : Dv} {K nx N x : Bytes}
end
end Go.Proofs.YtbnobjlphmkgeaaGreatDoor
/- A device whose power goes in so many steps, beside the same one whose power stays: how many steps a commit takes. No program in sight. -/
namespace Go.Proofs.YtbnobjlphmkgeaaGreatDoor
open Go.RowKit

section
variable {x : Int} {D D' : Dv}
end
end Go.Proofs.YtbnobjlphmkgeaaGreatDoor
/- A script, plainly: what it comes to, how many steps it takes, and that it comes to the same while so many steps are left. No program in sight. -/
namespace Go.Proofs.YtbnobjlphmkgeaaGreatDoor
open Go.RowKit Go.Maps Go.ChangeMaps

end Go.Proofs.YtbnobjlphmkgeaaGreatDoor
/- A played script, plainly: the power there, with as many steps as the script has, with none; what the steps of scripts add up to. No program in sight. -/
namespace Go.Proofs.YtbnobjlphmkgeaaGreatDoor
open Go.RowKit Go.Maps Go.ChangeMaps

section
variable {nn n : Nat} {s : Sto} {nx : Bytes}
end
section
variable {nn n st st' : Nat} {D D' : Dv} {N N' : Bytes}
end
section
variable {S : List Bytes}
end
end Go.Proofs.YtbnobjlphmkgeaaGreatDoor
/- A store that is played with, whether the power stays or goes. -/
namespace Go.Proofs.YtbnobjlphmkgeaaGreatDoor
open Go.RowKit Go.Maps Go.ChangeMaps

section
variable {w0 w w' w1 : World} {F F' GH GH' : Nat → Prop} {s p d h nn n : Nat} {S : Sto}
end
end Go.Proofs.YtbnobjlphmkgeaaGreatDoor
/- Package play: begin, Steps. -/
namespace Go.Proofs.YtbnobjlphmkgeaaGreatDoor
open Go.RowKit Go.Maps Go.ChangeMaps

/-- where a script's k-th op lies -/
theorem ops_at {w : World} {OA : Option Addr} {L : List OpX} (h : RdX ocells 6 w OA L) (k : Nat) (hk : k < L.length) : ∃ pb off, OA = some ⟨pb, off, none⟩ ∧ (w.cell? ⟨pb, off + k * 6, none⟩ = some (.int .i64 L[k].what) ∧ w.cell? ⟨pb, off + k * 6 + 1, none⟩ = some (.int .i64 L[k].handle) ∧ w.cell? ⟨pb, off + k * 6 + 2, none⟩ = some (.int .i64 L[k].at_) ∧ w.cell? ⟨pb, off + k * 6 + 3, none⟩ = some (.int .i64 L[k].len) ∧ w.cell? ⟨pb, off + k * 6 + 4, none⟩ = some (sv L[k].name) ∧ w.cell? ⟨pb, off + k * 6 + 5, none⟩ = some (.slice L[k].A L[k].body.length L[k].cap)) := by
  obtain ⟨pb, off, e, hc⟩ := h k hk
  have x0 := hc 0 _ rfl
  rw [Nat.add_zero] at x0
  exact ⟨pb, off, e, x0, hc 1 _ rfl, hc 2 _ rfl, hc 3 _ rfl, hc 4 _ rfl, hc 5 _ rfl⟩
theorem Six6.below {w w' : World} {b : Nat} {v0 v1 v2 v3 v4 v5 : Value} (h : Six6 w b v0 v1 v2 v3 v4 v5) (hb : Below w.heap.size w w') (hl : b < w.heap.size) : Six6 w' b v0 v1 v2 v3 v4 v5 := by
  unfold Six6 at *
  simp only [World.cell?] at *
  rw [hb.block b hl]
  exact h
end Go.Proofs.YtbnobjlphmkgeaaGreatDoor
/- The reference's step of moving, plainly. No walk here. -/
namespace Go.Proofs.YtbnobjlphmkgeaaGreatDoor
open Go.RowKit

/-- the first from a place on, so far -/
def upB (a : Nat) (b : Option Ent) (e : Ent) : Option Ent :=
  match b with
  | none => if a ≤ rAt e.2 then some e else none
  | some x => if a ≤ rAt e.2 ∧ rAt e.2 < rAt x.2 then some e else some x
def bestM (a : Nat) (E : List Ent) : Option Ent := E.foldl (upB a) none
theorem bestM_succ (a : Nat) (E : List Ent) (k : Nat) (hk : k < E.length) : bestM a (E.take (k + 1)) = upB a (bestM a (E.take k)) E[k] := by
  unfold bestM; rw [List.take_succ_eq_append_getElem hk, List.foldl_append]; rfl
theorem bestM_spec (a : Nat) (E : List Ent) : ∀ k, k ≤ E.length → (bestM a (E.take k) = none ∧ ∀ e ∈ E.take k, rAt e.2 < a) ∨ ∃ x, x ∈ E.take k ∧ bestM a (E.take k) = some x ∧ a ≤ rAt x.2 ∧ ∀ e ∈ E.take k, a ≤ rAt e.2 → rAt x.2 ≤ rAt e.2
  | 0, _ => Or.inl ⟨by simp [bestM], fun e he => by simp at he⟩
  | k + 1, hk => by
    have hk' : k < E.length := hk
    rw [bestM_succ a E k hk', List.take_succ_eq_append_getElem hk']
    rcases bestM_spec a E k (by omega) with ⟨h1, h2⟩ | ⟨x, h0, h1, h2, h3⟩
    · rw [h1]
      unfold upB
      by_cases hc : a ≤ rAt E[k].2
      · right
        refine ⟨E[k], List.mem_append_right _ (List.mem_singleton.2 rfl), by simp [hc], hc, fun e he hae => ?_⟩
        rcases List.mem_append.1 he with he | he
        · have := h2 e he; omega
        · simp only [List.mem_singleton] at he; subst he; exact Nat.le_refl _
      · left
        refine ⟨by simp [hc], fun e he => ?_⟩
        rcases List.mem_append.1 he with he | he
        · exact h2 e he
        · simp only [List.mem_singleton] at he; subst he; omega
    · rw [h1]
      unfold upB
      right
      by_cases hc : a ≤ rAt E[k].2 ∧ rAt E[k].2 < rAt x.2
      · refine ⟨E[k], List.mem_append_right _ (List.mem_singleton.2 rfl), by simp [hc], hc.1, fun e he hae => ?_⟩
        rcases List.mem_append.1 he with he | he
        · have := h3 e he hae; omega
        · simp only [List.mem_singleton] at he; subst he; exact Nat.le_refl _
      · refine ⟨x, List.mem_append_left _ h0, by simp [hc], h2, fun e he hae => ?_⟩
        rcases List.mem_append.1 he with he | he
        · exact h3 e he hae
        · simp only [List.mem_singleton] at he; subst he; omega
/-- where the scan stands: k of the sorted ones lie ahead of a -/
structure Stands (l : Bytes) (k a : Nat) : Prop where
  le : k ≤ (sortM l).length
  tidy : TidyM a ((sortM l).drop k) l.length
  ahead : ∀ e ∈ (sortM l).take k, rAt e.2 < a
  gap : gapM 288 (sortM l) = gapM a ((sortM l).drop k)
theorem stands_start {l : Bytes} (hg : Good l) : Stands l 0 288 := ⟨Nat.zero_le _, tidy_sortM hg, fun e he => by simp at he, rfl⟩
theorem Stands.none {l : Bytes} {a : Nat} (h : Stands l (sortM l).length a) : bestM a (entriesL l) = none ∧ gapM 288 (sortM l) = Option.none := by
  refine ⟨?_, by rw [h.gap, List.drop_length]; rfl⟩
  have := bestM_spec a (entriesL l) (entriesL l).length (Nat.le_refl _)
  rw [List.take_length] at this
  rcases this with ⟨h1, _⟩ | ⟨x, h0, h1, h2, h3⟩
  · exact h1
  · have := h.ahead x (by rw [List.take_length]; exact (sortM_perm l).mem_iff.2 h0); omega
theorem Stands.some {l : Bytes} {k a : Nat} (h : Stands l k a) (hk : k < (sortM l).length) : bestM a (entriesL l) = some (sortM l)[k] ∧ (sortM l)[k] ∈ entriesL l ∧ a ≤ rAt (sortM l)[k].2 ∧ (a < rAt (sortM l)[k].2 → gapM 288 (sortM l) = Option.some ((sortM l)[k], a)) ∧ (¬ a < rAt (sortM l)[k].2 → Stands l (k + 1) (a + rLen (sortM l)[k].2)) := by
  have hd := List.drop_eq_getElem_cons hk
  have htd := h.tidy
  rw [hd] at htd
  obtain ⟨t1, t2, t3⟩ := htd
  have hmem : (sortM l)[k] ∈ entriesL l := (sortM_perm l).mem_iff.1 (List.getElem_mem hk)
  refine ⟨?_, hmem, t1, fun hlt => ?_, fun hge => ?_⟩
  · have := bestM_spec a (entriesL l) (entriesL l).length (Nat.le_refl _)
    rw [List.take_length] at this
    rcases this with ⟨_, h2⟩ | ⟨x, h0, h1, h2, h3⟩
    · have := h2 _ hmem; omega
    · rw [h1]
      have hx := (sortM_perm l).mem_iff.2 h0
      rw [← List.take_append_drop k (sortM l)] at hx
      rcases List.mem_append.1 hx with hx | hx
      · have := h.ahead x hx; omega
      · rw [hd] at hx
        rcases List.mem_cons.1 hx with hx | hx
        · rw [hx]
        · have := tidyM_mem t3 x hx
          have := h3 _ hmem t1
          omega
  · rw [h.gap, hd]; unfold gapM; rw [if_pos hlt]
  · have he : rAt (sortM l)[k].2 = a := by omega
    rw [he] at t3
    refine ⟨hk, t3, fun e hx => ?_, ?_⟩
    · rw [List.take_succ_eq_append_getElem hk] at hx
      rcases List.mem_append.1 hx with hx | hx
      · have := h.ahead e hx; omega
      · simp only [List.mem_singleton] at hx; subst hx; omega
    · rw [h.gap, hd]; show gapM a (_ :: _) = _; rw [gapM, if_neg hge, he]
/-- the object's bytes laid one after the other -/
theorem splice_more (l x : Bytes) (a j : Nat) (hj : j < x.length) (h : a + x.length ≤ l.length) : (splice l a (x.take j)).set (a + j) x[j] = splice l a (x.take (j + 1)) := by
  have h1 : (x.take j).length = j := by simp; omega
  have h2 : (x.take (j + 1)).length = j + 1 := by simp; omega
  apply List.ext_getElem?
  intro p
  rw [List.getElem?_set, splice_len _ _ _ (by omega), splice_rd _ _ _ _ (by omega), splice_rd _ _ _ _ (by omega), h1, h2]
  by_cases b : a + j = p
  · subst b
    rw [if_pos rfl, if_pos (by omega), if_pos (by omega), Nat.add_sub_cancel_left, List.getElem?_take, if_pos (by omega), List.getElem?_eq_getElem hj]
  · rw [if_neg b]
    by_cases c : a ≤ p ∧ p < a + j
    · rw [if_pos c, if_pos (show a ≤ p ∧ p < a + (j + 1) from by omega), List.getElem?_take, List.getElem?_take, if_pos (by omega), if_pos (by omega)]
    · rw [if_neg c, if_neg (show ¬ (a ≤ p ∧ p < a + (j + 1)) from by omega)]
end Go.Proofs.YtbnobjlphmkgeaaGreatDoor
/- The reference's Put and PutEntry: the row that they give is a new one. -/
namespace Go.Proofs.YtbnobjlphmkgeaaGreatDoor
open Go.RowKit

/-- an answer: bytes in a new row, and a number -/
def RowAnsO (w w' : World) (e : Ending) (l : Bytes) (x : Value) : Prop := ∃ A' c', e = .returned (.tuple #[.slice A' l.length c', x]) ∧ (l ≠ [] → ∃ g, A' = some ⟨g, 0, none⟩ ∧ w.heap.size ≤ g ∧ Row w' 5 g c' l) ∧ Below w.heap.size w w'
set_option maxRecDepth 100000 in
set_option maxHeartbeats 1000000 in
theorem refPut_own (A : Option Addr) (n c : Nat) (l : Bytes) (at_ x size : Int) (w : World) (hn : l.length = n) (hl : n ≤ 140737488351232) (hr : Rd w A l) :
    Calls Tryz.prog 142 #[.slice A n c, .int .i64 at_, .int .i64 x, .int .i64 size] w fun e w' => RowAnsO w w' e (putF l at_ x size) (.int .i64 (putE n at_ x size)) := by
  obtain ⟨i0, hi0, hz0, hz1, hz2⟩ := info_parts byte_info
  generalize hF : putF l at_ x size = F
  generalize hE : putE n at_ x size = E
  unfold putF at hF
  rw [hn, hE] at hF
  unfold putE at hE
  by_cases hs : 1 ≤ size ∧ size ≤ 4
  · obtain ⟨h1, h4⟩ := hs
    obtain ⟨s, rfl⟩ := Int.eq_ofNat_of_zero_le (show 0 ≤ size by omega)
    have HM : Hidden (mostN (s : Int) = (2 ^ (8 * s) : Nat) - 1) := ⟨by simp [mostN]⟩
    have HE := Hidden.mk hE
    have HF := Hidden.mk hF
    clear hE hF
    go_enter Tryz.func142, Tryz.ntmps142
    go_wp2_with fail
    go_loop [10, 11] (fun mv iv => ∃ k : Nat, k ≤ s ∧ iv = .int .i64 k ∧ mv = .int .i64 ((2 ^ (8 * k) : Nat) : Int)) (fun _ iv => s - (intOf iv).toNat)
    case atStart => exact ⟨0, Nat.zero_le _, rfl, rfl⟩
    case round =>
      obtain ⟨k, hk, rfl, rfl⟩ := hrel
      by_cases hlt : k < s
      · have hp : 2 ^ (8 * k) ≤ 16777216 := by
          calc 2 ^ (8 * k) ≤ 2 ^ 24 := Nat.pow_le_pow_right (by omega) (by omega)
            _ = 16777216 := by decide
        have HD : Hidden (2 ^ (8 * k) * 256 = 2 ^ (8 * (k + 1))) := ⟨by rw [show 8 * (k + 1) = 8 * k + 8 from by omega, Nat.pow_add]⟩
        generalize 2 ^ (8 * k) = M at *
        have s1 : IntKind.i64.wrap ((M : Int) * 256) = (M : Int) * 256 := IntWalk.i64_in _ (by omega)
        go_wp2_with fail
        go_round
        case rel => exact ⟨k + 1, by omega, by go_num, int_i64 (by have := HD.out; omega)⟩
        case measure => simp [intOf]; omega
      · obtain rfl : k = s := by omega
        have hp : 2 ^ (8 * k) ≤ 4294967296 := by
          calc 2 ^ (8 * k) ≤ 2 ^ 32 := Nat.pow_le_pow_right (by omega) (by omega)
            _ = 4294967296 := by decide
        by_cases hx : 0 ≤ x ∧ x ≤ mostN (k : Int)
        · obtain ⟨X, rfl⟩ := Int.eq_ofNat_of_zero_le hx.1
          have hxm := hx.2
          rw [HM.out] at hxm
          by_cases ha : at_ < 0 ∨ (n : Int) - k < at_
          · have he : E = 3 := by rw [← HE.out, if_pos ⟨h1, h4, hx.1, hx.2⟩, if_pos ha]
            have hf : F = [] := by rw [← HF.out, if_neg (by omega)]
            subst he hf
            clear HE HF hx HM
            generalize 2 ^ (8 * k) = M at *
            by_cases h0 : at_ < 0
            · clear ha
              go_wp2_with fail
              go_ret2
              exact ⟨none, 0, rfl, fun h => absurd rfl h, Below.refl _ _⟩
            · by_cases hb : (n : Int) < at_
              · clear ha
                go_wp2_with fail
                go_ret2
                exact ⟨none, 0, rfl, fun h => absurd rfl h, Below.refl _ _⟩
              · have hc3 : (n : Int) - at_ < k := by omega
                have s1 : IntKind.i64.wrap ((n : Int) - at_) = (n : Int) - at_ := IntWalk.i64_in _ (by omega)
                clear ha
                go_wp2_with fail
                go_ret2
                exact ⟨none, 0, rfl, fun h => absurd rfl h, Below.refl _ _⟩
          · have he : E = 0 := by rw [← HE.out, if_pos ⟨h1, h4, hx.1, hx.2⟩, if_neg ha]
            have hf : F = putB l at_ X k := by rw [← HF.out, if_pos he]
            obtain ⟨a, rfl⟩ := Int.eq_ofNat_of_zero_le (show 0 ≤ at_ by omega)
            have hfa : F = splice l a (numB X k) := by rw [hf]; simp [putB]
            have HFA := Hidden.mk hfa
            subst he
            clear HE HF hx HM hf hfa
            have hfit : a + k ≤ n := by omega
            have hk1 : 1 ≤ k := by omega
            have s1 : IntKind.i64.wrap ((n : Int) - a) = (n : Int) - a := IntWalk.i64_in _ (by omega)
            have t1 : decide (n < a) = false := by simp; omega
            have t2 : decide ((n : Int) - a < k) = false := by simp; omega
            obtain ⟨p, off, rfl, _⟩ := hr.lt (by omega)
            generalize 2 ^ (8 * k) = M at *
            have t3 : decide (M ≤ X) = false := by simp; omega
            have t0 : decide ((a : Int) < 0) = false := by simp
            have t5 : decide ((X : Int) < 0) = false := by simp
            clear ha
            go_wp2_with (at_builtin; refine wpList_append_own _ rfl (.tmp 50) (.tmp 51) _ rfl w.heap.size 5 i0 _ 1 1 Tryz.underlying22 hi0 hz0 hz1 hz2 rfl (by decide) (.slice none 0 0) 0 [] rfl (World.ownsRow_nil _ _ _ _) ⟨p, off, none⟩ n c (l.map bv) rfl (by simp; omega) hr.cells one_bv (by simp only [maxLen]; omega) (by omega) (Nat.le_refl _) ?_; intro v1 w1 hown1 hg1 hnn1)
            have hb1 : Below w.heap.size w w1 := (Below.refl _ _).grown hg1 (Nat.le_refl _) (fun k hk => by simp [Value.ownBlock] at hk)
            have hO : Own w1 w.heap.size 5 v1 l := by unfold Own; simpa [hn] using hown1
            have hne : v1 ≠ .slice none 0 0 := fun h => by
              subst h
              rcases hO.2 with ⟨_, h0⟩ | ⟨g, cap, cur, h, _⟩
              · omega
              · cases h
            obtain ⟨g, cap, hv, hbg, hrow⟩ := Row.of_own hO hne
            rw [hn] at hv
            subst hv
            clear hO hne hown1 hg1 hnn1
            go_loopw [2, 13] (fun nv iv wr => ∃ j : Nat, j ≤ k ∧ iv = .int .i64 j ∧ nv = .int .i64 ((X / 2 ^ (8 * j) : Nat) : Int) ∧ Below w.heap.size w wr ∧ Row wr 5 g cap (splice l a (numB X j))) (fun _ iv _ => k - (intOf iv).toNat)
            case atStart => exact ⟨0, Nat.zero_le _, rfl, by simp, hb1, by simpa [numB, splice] using hrow⟩
            case round =>
              obtain ⟨j, hj, rfl, rfl, hbel, hrow2⟩ := hrel
              have hsl : (splice l a (numB X j)).length = n := by rw [splice_len _ _ _ (by rw [numB_length]; omega), hn]
              by_cases hlt2 : j < k
              · have hd := div_step X j
                have HD2 := Hidden.mk hd
                have hcell := hrow2.cell (a + j) (by omega)
                have hfr := hrow2.frozen (a + j)
                have hst := hrow2.store (a + j) (by omega) (UInt8.ofNat (X / 2 ^ (8 * j) % 256))
                rw [splice_put l a X j (by omega)] at hst
                have hbn := hbel.setCell (p := ⟨g, a + j, none⟩) hbg (bv (UInt8.ofNat (X / 2 ^ (8 * j) % 256)))
                have hbv : bv (UInt8.ofNat (X / 2 ^ (8 * j) % 256)) = .int .u8 ((X / 2 ^ (8 * j) : Nat) % 256 : Int) := by simp only [bv, ofNat_mod]; rfl
                have hmle : X / 2 ^ (8 * j) ≤ X := Nat.div_le_self _ _
                have hcap := hrow2.le.1
                rw [hbv] at hst hbn
                generalize X / 2 ^ (8 * j) = m at *
                have q1 : IntKind.i64.wrap ((a : Int) + j) = (a : Int) + j := IntWalk.i64_in _ (by omega)
                have k0 : (0 : Int) ≤ (a : Int) + j := by omega
                have k1 : (a : Int) + j < n := by omega
                generalize (splice l a (numB X j))[a + j] = u at hcell
                clear hd hbv hrow2 hsl
                go_wp2_with fail
                go_roundw
                case rel => exact ⟨j + 1, by omega, by go_num, int_i64 (by have := HD2.out; omega), hbn, hst⟩
                case measure => simp [intOf]; omega
              · obtain rfl : j = k := by omega
                go_wp2_with fail
                go_ret2
                refine ⟨some ⟨g, 0, none⟩, cap, ?_, fun _ => ⟨g, rfl, hbg, by rw [HFA.out]; exact hrow2⟩, hbel⟩
                rw [show F.length = n from by rw [HFA.out]; exact hsl]
                rfl
        · have he : E = 1 := by rw [← HE.out, if_neg (fun h => hx ⟨h.2.2.1, h.2.2.2⟩)]
          have hf : F = [] := by rw [← HF.out, if_neg (by omega)]
          rw [HM.out] at hx
          subst he hf
          clear HE HF HM
          generalize 2 ^ (8 * k) = M at *
          by_cases h0 : x < 0
          · clear hx
            go_wp2_with fail
            go_ret2
            exact ⟨none, 0, rfl, fun h => absurd rfl h, Below.refl _ _⟩
          · have t3 : (M : Int) ≤ x := by omega
            clear hx
            go_wp2_with fail
            go_ret2
            exact ⟨none, 0, rfl, fun h => absurd rfl h, Below.refl _ _⟩
  · have he : E = 1 := by rw [← hE, if_neg (fun h => hs ⟨h.1, h.2.1⟩)]
    have hf : F = [] := by rw [← hF, if_neg (by omega)]
    subst he hf
    clear hE hF
    by_cases h1 : size < 1
    · clear hs
      go_enter Tryz.func142, Tryz.ntmps142
      go_wp2_with fail
      go_ret2
      exact ⟨none, 0, rfl, fun h => absurd rfl h, Below.refl _ _⟩
    · have h4 : 4 < size := by omega
      clear hs
      go_enter Tryz.func142, Tryz.ntmps142
      go_wp2_with fail
      go_ret2
      exact ⟨none, 0, rfl, fun h => absurd rfl h, Below.refl _ _⟩
theorem refPut_fitO (A : Option Addr) (n c : Nat) (l : Bytes) (a x s : Nat) (w : World) (hn : l.length = n) (hl : n ≤ 140737488351232) (hr : Rd w A l) (h1 : 1 ≤ s) (h4 : s ≤ 4) (hx : (x : Int) ≤ mostN (s : Int)) (ha : a + s ≤ n) :
    Calls Tryz.prog 142 #[.slice A n c, .int .i64 (a : Int), .int .i64 (x : Int), .int .i64 (s : Int)] w fun e w' => ∃ g c', e = .returned (.tuple #[.slice (some ⟨g, 0, none⟩) n c', .int .i64 0]) ∧ w.heap.size ≤ g ∧ Row w' 5 g c' (splice l a (numB x s)) ∧ Below w.heap.size w w' := by
  have hE : putE n (a : Int) (x : Int) (s : Int) = 0 := by
    unfold putE; rw [if_pos ⟨by omega, by omega, by omega, hx⟩, if_neg (by omega)]
  have hF : putF l (a : Int) (x : Int) (s : Int) = splice l a (numB x s) := by
    unfold putF; rw [hn, if_pos hE]; rfl
  have hL : (splice l a (numB x s)).length = n := by rw [splice_len _ _ _ (by rw [numB_length]; omega)]; exact hn
  refine (refPut_own A n c l a x s w hn hl hr).mono ?_
  rintro e w' ⟨A', c', rfl, hrd, hb⟩
  rw [hF] at hrd
  obtain ⟨g, rfl, hg, hrow⟩ := hrd (fun h => by have h2 : (splice l a (numB x s)).length = 0 := (by rw [h]; rfl); omega)
  rw [hF, hE, hL]
  exact ⟨g, c', rfl, hg, hrow, hb⟩
def PutAtO (n : Nat) (o : Nat) (x s : Int) (l l' : Bytes) : Prop := ∀ (A : Option Addr) (c : Nat) (W : World), Rd W A l → Calls Tryz.prog 142 #[.slice A n c, .int .i64 (o : Int), .int .i64 x, .int .i64 s] W fun e w' => ∃ g c', e = .returned (.tuple #[.slice (some ⟨g, 0, none⟩) n c', .int .i64 0]) ∧ W.heap.size ≤ g ∧ Row w' 5 g c' l' ∧ Below W.heap.size W w'
theorem putAtO (n o x s : Nat) (l : Bytes) (hn : l.length = n) (hl : n ≤ 140737488351232) (h1 : 1 ≤ s) (h4 : s ≤ 4) (hx : (x : Int) ≤ mostN (s : Int)) (ha : o + s ≤ n) : PutAtO n o (x : Int) (s : Int) l (splice l o (numB x s)) :=
  fun A c W hW => refPut_fitO A n c l o x s W hn hl hW h1 h4 hx ha
set_option maxRecDepth 100000 in
theorem refPutEntry_walkO (A : Option Addr) (n c k o o1 o3 t tt b m : Nat) (l l1 l2 l3 : Bytes) (w : World) (hrd : Rd w A l) (hh : handleB ((k : Int) + 1) = true)
    (s0 : IntKind.i64.wrap (k : Int) = (k : Int)) (s1 : IntKind.i64.wrap (5 * (k : Int)) = (o : Int)) (s2 : IntKind.i64.wrap ((t : Int) + 1) = (tt : Int))
    (s3 : IntKind.i64.wrap ((o : Int) + 1) = (o1 : Int)) (s4 : IntKind.i64.wrap ((o : Int) + 3) = (o3 : Int)) (ht : t ≤ 15) (hm1 : 1 ≤ m) (hm : m ≤ 1000) (hb : 288 ≤ b) (hbn : b + m ≤ n) (hn : n ≤ 6400)
    (c1 : PutAtO n o tt 1 l l1) (c2 : PutAtO n o1 b 2 l1 l2) (c3 : PutAtO n o3 m 2 l2 l3) :
    Calls Tryz.prog 62 #[.slice A n c, entV ((k : Int) + 1) b m t] w fun e w' => ∃ g c', e = .returned (.tuple #[.slice (some ⟨g, 0, none⟩) n c', .int .i64 0]) ∧ w.heap.size ≤ g ∧ Row w' 5 g c' l3 ∧ Below w.heap.size w w' := by
  have hB : Below w.heap.size w (w.alloc (.cells #[.int .i64 ((k : Int) + 1), .int .i64 b, .int .i64 m, .int .i64 t] 66)) := (Below.refl _ _).alloc (Nat.le_refl _) _
  have hF0 := fourAt_one w ((k : Int) + 1) b m t 66
  have s5 : IntKind.i64.wrap ((n : Int) - b) = (n : Int) - b := IntWalk.i64_in _ (by omega)
  have t1 : decide ((t : Int) < 0) = false := by simp
  have t2 : decide (15 < (t : Int)) = false := by simp; omega
  have t2' : decide (15 < t) = false := by simp; omega
  have t3 : decide ((m : Int) < 1) = false := by simp; omega
  have t3' : decide (m < 1) = false := by simp; omega
  have t4 : decide (1000 < (m : Int)) = false := by simp; omega
  have t4' : decide (1000 < m) = false := by simp; omega
  have t5 : decide ((b : Int) < 288) = false := by simp; omega
  have t5' : decide (b < 288) = false := by simp; omega
  have t6 : decide ((n : Int) < b) = false := by simp; omega
  have t6' : decide (n < b) = false := by simp; omega
  have t7 : decide ((n : Int) - b < m) = false := by simp; omega
  have hr0 := hrd.below hB
  have C1 := Hidden.mk c1
  have C2 := Hidden.mk c2
  have C3 := Hidden.mk c3
  clear ht hm1 hm hb hbn hn c1 c2 c3 hrd
  unfold entV
  go_enter Tryz.func62, Tryz.ntmps62
  go_wp2_with fail
  refine (ref_handle_any _ _).mono ?_
  rintro e w1 ⟨rfl, rfl⟩
  rw [hh]
  clear hh
  go_wp2_with fail
  generalize w.alloc (.cells #[.int .i64 ((k : Int) + 1), .int .i64 (b : Int), .int .i64 (m : Int), .int .i64 (t : Int)] 66) = w0 at *
  refine (C1.out A c _ hr0).mono ?_
  rintro e w1 ⟨g1, c1, rfl, hg1, hr1, hb1⟩
  have hF1 := hF0.below hb1
  have hB1 := hB.trans (hb1.mono hB.size)
  have HF1 := Hidden.mk hF1
  obtain ⟨x0, x1, x2, x3⟩ := hF1
  clear hb1 hF0
  go_wp2_with fail
  refine (C2.out _ c1 _ hr1.rd).mono ?_
  rintro e w2 ⟨g2, c2, rfl, hg2, hr2, hb2⟩
  have hF2 := HF1.out.below hb2
  have hB2 := hB1.trans (hb2.mono hB1.size)
  obtain ⟨y0, y1, y2, y3⟩ := hF2
  clear hb2 x0 x1 x2 x3
  go_wp2_with fail
  refine (C3.out _ c2 _ hr2.rd).mono ?_
  rintro e w3 ⟨g3, c3, rfl, hg3, hr3, hb3⟩
  have hB3 := hB2.trans (hb3.mono hB2.size)
  have HG3 : Hidden (w.heap.size ≤ g3) := ⟨Nat.le_trans hB2.size hg3⟩
  clear hg1 hg2 hg3 hb3 y0 y1 y2 y3
  go_wp2_with fail
  go_ret2
  exact ⟨g3, c3, rfl, HG3.out, hr3, hB3⟩
theorem refPutEntry_own (A : Option Addr) (n c : Nat) (l : Bytes) (h a len tag : Int) (w : World) (hln : l.length = n) (hr : rightB n = true) (hrd : Rd w A l) (hh : handleB h = true) (ht : tagB tag = true) (hl : lenB len = true) (hw : withinB n a len = true) :
    Calls Tryz.prog 62 #[.slice A n c, entV h a len tag] w fun e w' => ∃ g c', e = .returned (.tuple #[.slice (some ⟨g, 0, none⟩) n c', .int .i64 0]) ∧ w.heap.size ≤ g ∧ Row w' 5 g c' (putEnt l h a len tag) ∧ Below w.heap.size w w' := by
  have htb := tagB_true.1 ht
  have hlb := lenB_true.1 hl
  have hhb := handleB_true.1 hh
  have hwb := withinB_true.1 hw
  have hnb := rightB_true.1 hr
  obtain ⟨k, rfl⟩ : ∃ k : Nat, h = (k : Int) + 1 := ⟨(h - 1).toNat, by omega⟩
  obtain ⟨t, rfl⟩ := Int.eq_ofNat_of_zero_le (show 0 ≤ tag by omega)
  obtain ⟨b, rfl⟩ := Int.eq_ofNat_of_zero_le (show 0 ≤ a by omega)
  obtain ⟨m, rfl⟩ := Int.eq_ofNat_of_zero_le (show 0 ≤ len by omega)
  rw [putEnt_three l k t b m (by omega) (by omega)]
  have hl1 : (splice l (5 * k) (numB (t + 1) 1)).length = n := by rw [splice_len _ _ _ (by rw [numB_length]; omega)]; exact hln
  have hl2 : (splice (splice l (5 * k) (numB (t + 1) 1)) (5 * k + 1) (numB b 2)).length = n := by rw [splice_len _ _ _ (by rw [numB_length, hl1]; omega)]; exact hl1
  have hm1 : mostN ((1 : Nat) : Int) = 255 := rfl
  have hm2 : mostN ((2 : Nat) : Int) = 65535 := rfl
  exact refPutEntry_walkO A n c k (5 * k) (5 * k + 1) (5 * k + 3) t (t + 1) b m l _ _ _ w hrd hh (IntWalk.i64_in _ (by omega)) (by rw [IntWalk.i64_in _ (by omega)]; omega) (by rw [IntWalk.i64_in _ (by omega)]; omega) (by rw [IntWalk.i64_in _ (by omega)]; omega) (by rw [IntWalk.i64_in _ (by omega)]; omega)
    (by omega) (by omega) (by omega) (by omega) (by omega) (by omega)
    (putAtO n (5 * k) (t + 1) 1 l hln (by omega) (by omega) (by omega) (by rw [hm1]; omega) (by omega))
    (putAtO n (5 * k + 1) b 2 _ hl1 (by omega) (by omega) (by omega) (by rw [hm2]; omega) (by omega))
    (putAtO n (5 * k + 3) m 2 _ hl2 (by omega) (by omega) (by omega) (by rw [hm2]; omega) (by omega))
end Go.Proofs.YtbnobjlphmkgeaaGreatDoor
/- The reference on heaps: Taken, Step. -/
namespace Go.Proofs.YtbnobjlphmkgeaaGreatDoor
open Go.RowKit

set_option maxRecDepth 100000 in
theorem rtaken_ok (A : Option Addr) (n c : Nat) (l : Bytes) (w : World) (hn : l.length = n) (hr : rightB n = true) (hnc : n ≤ c) (hrd : Rd w A l) :
    Calls Tryz.prog 61 #[.slice A n c] w fun e w' => ∃ A' c', e = .returned (.slice A' (takenL l).length c') ∧ (takenL l).length ≤ c' ∧ RdX tcells 2 w' A' (takenL l) ∧ Below w.heap.size w w' := by
  obtain ⟨i0, hi0, hz0, hz1, hz2⟩ := info_parts extent_info
  have HI := Hidden.mk (And.intro hi0 (And.intro hz0 (And.intro hz1 hz2)))
  have HC := Hidden.mk (refEntries_ok A n c l w hn hr hnc hrd)
  have HT : Hidden (takenL l = (entriesL l).map takeX) := ⟨rfl⟩
  have hle : (entriesL l).length ≤ 40 := entsL_len _ _ 40
  generalize takenL l = TK at *
  generalize entriesL l = E at *
  clear hi0 hz0 hz1 hz2 hn hr hnc hrd
  go_enter Tryz.func61, Tryz.ntmps61
  go_wp2_with fail
  refine HC.out.mono ?_
  rintro e w1 ⟨v, rfl, hown, hb1⟩
  obtain ⟨A1, c1, rfl, hc1, -⟩ := own_split hown
  have HR := Hidden.mk (own_rdX3 (f := ecells) (fun _ => rfl) rfl hown)
  have HB := Hidden.mk hb1
  generalize hm : E.length = m at *
  have HM := Hidden.mk hm
  clear hown hb1 HC hm
  go_wp2_with fail
  go_loopg [3, 5] m (fun q v i wr => ∃ k : Nat, k ≤ m ∧ q = m - k ∧ i = .int .i64 (k : Int) ∧ Hidden (Below w1.heap.size w1 wr ∧ wr.ownsRow w1.heap.size 64 2 v k (((E.take k).map takeX).flatMap tcells)))
  case atStart => exact ⟨0, by omega, rfl, rfl, ⟨Below.refl _ _, World.ownsRow_nil _ _ _ _⟩⟩
  case round =>
    obtain ⟨k, hk, rfl, rfl, hst⟩ := hrel
    by_cases hlt : k < m
    · have hkE : k < E.length := by have := HM.out; omega
      obtain ⟨p, off, rfl, hcx⟩ := HR.out k hkE
      have x1 := hcx 1 _ rfl
      have x2 := hcx 2 _ rfl
      have HS : Hidden ((E.take (k + 1)).map takeX = (E.take k).map takeX ++ [takeX E[k]]) := ⟨by rw [List.take_succ_eq_append_getElem hkE, List.map_append]; rfl⟩
      have b1 := rAt_le E[k].2
      have b2 := rLen_le E[k].2
      have HX : Hidden (takeX E[k] = ((rAt E[k].2 : Int) - 288, (rLen E[k].2 : Int))) := ⟨rfl⟩
      generalize takeX E[k] = tx at *
      generalize rAt E[k].2 = e1 at *
      generalize rLen E[k].2 = e2 at *
      have s1 : IntKind.i64.wrap ((e1 : Int) - 288) = (e1 : Int) - 288 := IntWalk.i64_in _ (by omega)
      have s3 : IntKind.i64.wrap ((k : Int) + 1) = (k : Int) + 1 := IntWalk.i64_in _ (by omega)
      have k0 : (0 : Int) ≤ k := by omega
      have k1 : (k : Int) < m := by omega
      have HN : Hidden (Below w1.heap.size w1 wr.drew ∧ wr.drew.ownsRow w1.heap.size 64 2 u3 k (((E.take k).map takeX).flatMap tcells)) := ⟨hst.out.1.drew, own_below hst.out.2 (Below.refl _ _).drew⟩
      have KX : Hidden (∀ W, Below w1.heap.size w1 W → W.cell? ⟨p, off + k * 4 + 1, none⟩ = some (.int .i64 e1) ∧ W.cell? ⟨p, off + k * 4 + 2, none⟩ = some (.int .i64 e2)) := ⟨fun W hW => ⟨(hW.cell (p := ⟨p, off + k * 4 + 1, none⟩) (block_lt_of_cell x1)).trans x1, (hW.cell (p := ⟨p, off + k * 4 + 2, none⟩) (block_lt_of_cell x2)).trans x2⟩⟩
      obtain ⟨y1, y2⟩ := KX.out wr hst.out.1
      obtain ⟨hi0, hz0, hz1, hz2⟩ := HI.out
      have HZ : Hidden (w1.heap.size ≤ wr.heap.size) := ⟨hst.out.1.size⟩
      clear hcx hst x1 x2
      go_upto_region 6 with (fail)
      go_region_held3 (fun W => W.cell? ⟨p, off + k * 4 + 1, none⟩ = some (.int .i64 e1) ∧ W.cell? ⟨p, off + k * 4 + 2, none⟩ = some (.int .i64 e2)) (first | exact ⟨y1, y2⟩ | exact KX.out _ HN.out.1 | exact KX.out _ (HN.out.1.alloc HN.out.1.size _) | exact hk8) ((refine step_append_lies _ (by rfl) _ _ _ (by rfl) w1.heap.size 64 i0 _ 2 16 Tryz.underlying114 hi0 hz0 hz1 hz2 rfl (by omega) u3 k _ (by rfl) (own_below HN.out.2 ((Below.refl _ _).alloc (Nat.le_refl _) _)) ⟨wr.heap.size, 0, none⟩ 1 1 [.int .i64 ((e1 : Int) - 288), .int .i64 e2] (by rfl) (by rfl) (World.news_of_block (cs := #[.int .i64 ((e1 : Int) - 288), .int .i64 e2]) (t := 64) (fr := (0, 0)) (heap_alloc_new wr.drew _)) (by simp [Value.oneCell']) (by omega) (by simp only [maxLen]; omega) (by omega) (by have hz_ := HZ.out; simp; omega) (wr.heap.size + 1) (by simp) ?_; intro g8 cap8 w8 hown8 hg8 hat8 hlt8; have hgW := grown_trans' ((Below.refl wr.drew.heap.size wr.drew).alloc (Nat.le_refl _) _) hg8; have hB8 : Below w1.heap.size w1 w8 := HN.out.1.grown hgW HN.out.1.size (fun q hq => (HN.out.2.lt q hq).1); have hk8 := KX.out w8 hB8))
      have HF : Hidden (Below w1.heap.size w1 w8 ∧ w8.ownsRow w1.heap.size 64 2 (.slice (some ⟨g8, 0, none⟩) (k + 1) cap8) (k + 1) (((E.take (k + 1)).map takeX).flatMap tcells)) := ⟨hB8, by rw [HS.out, HX.out]; simpa [tcells] using hown8⟩
      go_wp2_with fail
      clear hk8 hgW hB8 hown8 hg8 hat8 hlt8 hi0 hz0 hz1 hz2
      go_roundg (m - (k + 1))
      case measure => omega
      case rel => exact ⟨k + 1, by omega, rfl, by go_num, HF⟩
    · obtain rfl : m = k := by omega
      have hT := hst.out.2
      rw [List.take_of_length_le (by have := HM.out; omega), ← HT.out] at hT
      have HL : Hidden (TK.length = m) := ⟨by rw [HT.out, List.length_map]; exact HM.out⟩
      obtain ⟨A3, c3, rfl, hc3, -⟩ := own_split hT
      have HF : Hidden (RdX tcells 2 wr A3 TK ∧ Below w.heap.size w wr) := ⟨own_rdX3 tcells_len HL.out hT, HB.out.trans (hst.out.1.mono HB.out.size)⟩
      clear hT hst
      go_wp2_with fail
      go_ret
      exact ⟨A3, c3, by rw [HL.out]; rfl, by rw [HL.out]; exact hc3, HF.out.1, HF.out.2⟩
end Go.Proofs.YtbnobjlphmkgeaaGreatDoor
/- The reference's extents, plainly: its holes are the program's. No walk here. -/
namespace Go.Proofs.YtbnobjlphmkgeaaGreatDoor
open Go.RowKit

/-- a place that is free, behind runs -/
def addR (out : List Ext) (i : Int) : List Ext := match out.getLast? with
  | some h => if h.1 + h.2 = i then out.dropLast ++ [(h.1, h.2 + 1)] else out ++ [(i, 1)]
  | none => out ++ [(i, 1)]
def goR (T : Nat → Bool) (acc : List Ext) (i : Nat) : Nat → List Ext
  | 0 => acc
  | m + 1 => if T (i + m) = true then goR T acc i m else addR (goR T acc i m) ((i + m : Nat) : Int)
theorem goR_add (T : Nat → Bool) (acc : List Ext) (i a : Nat) : ∀ b, goR T acc i (a + b) = goR T (goR T acc i a) (i + a) b
  | 0 => rfl
  | b + 1 => by
    rw [← Nat.add_assoc, goR, goR, goR_add T acc i a b, Nat.add_assoc]
theorem goR_taken (T : Nat → Bool) (acc : List Ext) (i : Nat) : ∀ m, (∀ j, j < m → T (i + j) = true) → goR T acc i m = acc
  | 0, _ => rfl
  | m + 1, h => by rw [goR, if_pos (h m (by omega)), goR_taken T acc i m (fun j hj => h j (by omega))]
/-- the last run ends ahead of a -/
def EndsLt (acc : List Ext) (a : Int) : Prop := ∀ h, acc.getLast? = some h → h.1 + h.2 < a
theorem goR_free (T : Nat → Bool) (acc : List Ext) (i : Nat) (he : EndsLt acc i) : ∀ m, (∀ j, j < m + 1 → T (i + j) = false) → goR T acc i (m + 1) = acc ++ [((i : Int), ((m + 1 : Nat) : Int))]
  | 0, h => by
    rw [goR, goR, if_neg (by rw [h 0 (by omega)]; decide)]
    unfold addR
    cases hl : acc.getLast? with
    | none => simp
    | some x =>
      have := he x hl
      simp only
      rw [if_neg (by omega)]; simp
  | m + 1, h => by
    rw [goR, if_neg (by rw [h (m + 1) (by omega)]; decide), goR_free T acc i he m (fun j hj => h j (by omega))]
    unfold addR
    rw [List.getLast?_append]
    simp only [List.getLast?_singleton, Option.or]
    rw [if_pos (by omega), List.dropLast_concat]
    congr 1
def coverX (e : Ext) (i : Nat) : Bool := decide (e.1 ≤ i) && decide ((i : Int) < e.1 + e.2)
theorem goR_runs (T : Nat → Bool) (n : Nat) : ∀ (S : List Ext) (a : Nat) (acc : List Ext), Tidy a S n → (∀ i, a ≤ i → i < n → T i = S.any (fun e => coverX e i)) → EndsLt acc a → goR T acc a (n - a) = acc ++ runsX a S n
  | [], a, acc, ht, hT, he => by
    have ht : (a : Int) ≤ n := ht
    rw [runsX_nil]
    by_cases h : a < n
    · obtain ⟨m, hm⟩ : ∃ m, n - a = m + 1 := ⟨n - a - 1, by omega⟩
      rw [hm, goR_free T acc a he m (fun j hj => by rw [hT (a + j) (by omega) (by omega)]; rfl), if_pos (by omega)]
      rw [show ((m + 1 : Nat) : Int) = (n : Int) - a by omega]
    · rw [show n - a = 0 by omega, if_neg (by omega)]
      simp [goR]
  | e :: r, a, acc, ht, hT, he => by
    obtain ⟨h1, h2, h3⟩ := ht
    have h4 := tidy_le h3
    obtain ⟨x, y⟩ := e
    dsimp only at h1 h2 h3 h4
    obtain ⟨p, rfl⟩ := Int.eq_ofNat_of_zero_le (show 0 ≤ x by omega)
    obtain ⟨q, rfl⟩ := Int.eq_ofNat_of_zero_le (show 0 ≤ y by omega)
    have hrest : ∀ i, i < p + q → r.any (fun e => coverX e i) = false := fun i hi => by
      rw [List.any_eq_false]
      intro z hz
      have := tidy_mem h3 z hz
      simp [coverX]; omega
    have e1 : n - a = (p - a) + (q + (n - (p + q))) := by omega
    have s1 : goR T acc a (p - a) = acc ++ (if (a : Int) < (p : Int) then [((a : Int), (p : Int) - a)] else []) := by
      by_cases h : a < p
      · obtain ⟨m, hm⟩ : ∃ m, p - a = m + 1 := ⟨p - a - 1, by omega⟩
        rw [hm, goR_free T acc a he m (fun j hj => ?_), if_pos (by omega)]
        · rw [show ((m + 1 : Nat) : Int) = (p : Int) - a by omega]
        · rw [hT (a + j) (by omega) (by omega), List.any_cons, hrest (a + j) (by omega)]
          simp [coverX]; omega
      · rw [show p - a = 0 by omega, if_neg (by omega)]
        simp [goR]
    have hends : EndsLt (acc ++ (if (a : Int) < (p : Int) then [((a : Int), (p : Int) - a)] else [])) ((p + q : Nat) : Int) := by
      intro h hh
      by_cases hc : (a : Int) < (p : Int)
      · rw [if_pos hc, List.getLast?_append] at hh
        simp only [List.getLast?_singleton, Option.or, Option.some.injEq] at hh
        subst hh
        dsimp only; omega
      · rw [if_neg hc, List.append_nil] at hh
        have := he h hh; omega
    rw [e1, goR_add, s1, goR_add, goR_taken T _ (a + (p - a)) q (fun j hj => by
      rw [hT (a + (p - a) + j) (by omega) (by omega), List.any_cons]
      have : coverX ((p : Int), (q : Int)) (a + (p - a) + j) = true := by simp [coverX]; omega
      rw [this]; rfl)]
    rw [show a + (p - a) + q = p + q by omega]
    rw [goR_runs T n r (p + q) _ (by simpa using h3) (fun i h5 h6 => by
      rw [hT i (by omega) h6, List.any_cons]
      have : coverX ((p : Int), (q : Int)) i = false := by simp [coverX]; omega
      rw [this, Bool.false_or]) hends]
    rw [runsX_cons, List.append_assoc]
    simp
/-- the reference's holes are the program's -/
theorem goR_holes {n : Nat} {l : List Ext} (h : chkX n l = 0) (T : Nat → Bool) (hT : ∀ i, i < n → T i = l.any (fun e => coverX e i)) : goR T [] 0 n = holesX n l := by
  have ht := tidy_of h
  have := goR_runs T n (sortE l) 0 [] ht (fun i _ hi => by
    rw [hT i hi, Bool.eq_iff_iff, List.any_eq_true, List.any_eq_true]
    constructor
    · rintro ⟨x, h1, h2⟩; exact ⟨x, (sortE_perm l).mem_iff.2 h1, h2⟩
    · rintro ⟨x, h1, h2⟩; exact ⟨x, (sortE_perm l).mem_iff.1 h1, h2⟩) (fun h hh => by cases hh)
  rw [Nat.sub_zero, List.nil_append] at this
  rw [this, holes_runs]; rfl
/-- the reference's choice: where; how long -/
def refF (size : Int) (H : List Ext) : Int × Int := H.foldl (fun b h => if size ≤ h.2 ∧ (b.1 < 0 ∨ h.2 < b.2) then h else b) (-1, 0)
theorem refF_succ (size : Int) (H : List Ext) (k : Nat) (hk : k < H.length) : refF size (H.take (k + 1)) = if size ≤ H[k].2 ∧ ((refF size (H.take k)).1 < 0 ∨ H[k].2 < (refF size (H.take k)).2) then H[k] else refF size (H.take k) := by
  unfold refF
  rw [List.take_succ_eq_append_getElem hk, List.foldl_append]; rfl
theorem refF_best (size : Int) (H : List Ext) : (∀ h ∈ H, 0 ≤ h.1 ∧ 1 ≤ h.2) → (bestX size H = (0, 0) ∧ refF size H = (-1, 0)) ∨ (1 ≤ (bestX size H).2 ∧ 0 ≤ (bestX size H).1 ∧ refF size H = bestX size H) := by
  induction H using snocE with
  | h0 => exact fun _ => .inl ⟨rfl, rfl⟩
  | h1 L x ih =>
    intro hH
    have hx := hH x (by simp)
    rw [bestX_snoc]
    have hs : refF size (L ++ [x]) = if size ≤ x.2 ∧ ((refF size L).1 < 0 ∨ x.2 < (refF size L).2) then x else refF size L := by
      unfold refF; rw [List.foldl_append]; rfl
    rw [hs]
    rcases ih (fun h hh => hH h (List.mem_append_left _ hh)) with ⟨a, b⟩ | ⟨a, b, c⟩
    · rw [a, b]
      by_cases h : size ≤ x.2
      · rw [if_pos ⟨h, .inl rfl⟩, if_pos ⟨h, .inl (by decide)⟩]
        exact .inr ⟨hx.2, hx.1, rfl⟩
      · rw [if_neg (fun hh => h hh.1), if_neg (fun hh => h hh.1)]
        exact .inl ⟨rfl, rfl⟩
    · rw [c]
      by_cases h : size ≤ x.2 ∧ x.2 < (bestX size L).2
      · rw [if_pos ⟨h.1, .inr h.2⟩, if_pos ⟨h.1, .inr h.2⟩]
        exact .inr ⟨hx.2, hx.1, rfl⟩
      · rw [if_neg (fun hh => h ⟨hh.1, by omega⟩), if_neg (fun hh => h ⟨hh.1, by omega⟩)]
        exact .inr ⟨a, b, rfl⟩
theorem refF_fit {n : Int} {l : List Ext} (h : chkX n l = 0) (size : Int) (hs : ¬ (size < 1 ∨ 6400 < size)) : ((refF size (holesX n l)).1 < 0 ∧ fitE n l size = 4 ∧ fitA n l size = 0) ∨ (0 ≤ (refF size (holesX n l)).1 ∧ fitE n l size = 0 ∧ fitA n l size = (refF size (holesX n l)).1) := by
  have hb := refF_best size (holesX n l) (fun x hx => by have := holes_mem h x hx; omega)
  rcases hb with ⟨a, b⟩ | ⟨a, b, c⟩
  · left
    have e : fitE n l size = 4 := by unfold fitE; rw [if_pos h, if_neg hs, a]; rfl
    exact ⟨by rw [b]; decide, e, by unfold fitA; rw [e]; rfl⟩
  · right
    have e : fitE n l size = 0 := by unfold fitE; rw [if_pos h, if_neg hs, if_neg (by omega)]
    exact ⟨by rw [c]; exact b, e, by unfold fitA; rw [if_pos e, c]⟩
end Go.Proofs.YtbnobjlphmkgeaaGreatDoor
/- The reference's extents: Extents, Holes. -/
namespace Go.Proofs.YtbnobjlphmkgeaaGreatDoor
open Go.RowKit

theorem zero6401 : Tryz.zeroCells255 = Array.replicate 6401 (.bool false) := by kernel_rfl
/-- a block of booleans: which are true -/
def BlkB (w : World) (g : Nat) (T : Nat → Bool) : Prop := ∃ cur, w.heap[g]? = some (.cells cur 255 (0, 0)) ∧ cur.size = 6401 ∧ ∀ i, i < 6401 → cur[i]? = some (.bool (T i))
theorem BlkB.block {w w' : World} {g : Nat} {T : Nat → Bool} (h : BlkB w g T) (hb : w'.heap[g]? = w.heap[g]?) : BlkB w' g T := by
  obtain ⟨cur, h1, h2⟩ := h
  exact ⟨cur, hb.trans h1, h2⟩
theorem BlkB.cell {w : World} {g : Nat} {T : Nat → Bool} (h : BlkB w g T) (i : Nat) (hi : i < 6401) : w.cell? ⟨g, i, none⟩ = some (.bool (T i)) ∧ w.frozen? ⟨g, i, none⟩ = false := by
  obtain ⟨cur, h1, h2, h3⟩ := h
  exact ⟨by simp [World.cell?, h1, h3 i hi], frozen_of_row _ g i _ _ h1⟩
theorem BlkB.set {w : World} {g : Nat} {T : Nat → Bool} (h : BlkB w g T) (i : Nat) (hi : i < 6401) : BlkB (w.setCell ⟨g, i, none⟩ (.bool true)) g (fun q => T q || decide (q = i)) := by
  obtain ⟨cur, h1, h2, h3⟩ := h
  refine ⟨_, heap_setK (k := i) h1 _, by simp [h2], fun q hq => ?_⟩
  rw [Array.getElem?_setIfInBounds]
  by_cases e : i = q
  · subst e
    rw [if_pos rfl, if_pos (by omega)]; simp
  · rw [if_neg e, h3 q hq]
    have : decide (q = i) = false := by simp; omega
    show _ = some (Value.bool (T q || decide (q = i)))
    rw [this, Bool.or_false]
theorem BlkB.congr {w : World} {g : Nat} {T T' : Nat → Bool} (h : BlkB w g T) (e : ∀ i, i < 6401 → T' i = T i) : BlkB w g T' := by
  obtain ⟨cur, h1, h2, h3⟩ := h
  exact ⟨cur, h1, h2, fun i hi => by rw [e i hi]; exact h3 i hi⟩
/-- a cell of an own row, stored into -/
theorem own_setX {w : World} {base size n g cap k : Nat} {e : TypeId} {xs : List Value} (h : w.ownsRow base e size (.slice (some ⟨g, 0, none⟩) n cap) n xs) (_hk : k < xs.length) (u : Value) :
    (w.setCell ⟨g, k, none⟩ u).ownsRow base e size (.slice (some ⟨g, 0, none⟩) n cap) n (xs.set k u) ∧ w.frozen? ⟨g, k, none⟩ = false := by
  rcases h with ⟨h0, ⟨h1, _⟩ | ⟨g', cap', cur, he, hb, hh, hn, hm, hc, ht⟩⟩
  · cases h1
  · injection he with he _ hcap
    injection he with he
    injection he with he
    subst he hcap
    refine ⟨⟨by rw [List.length_set]; exact h0, .inr ⟨g, cap, _, rfl, hb, heap_setK (k := k) hh u, hn, hm, by simp [hc], ?_⟩⟩, frozen_of_row _ g k _ _ hh⟩
    rw [← ht, Array.toList_setIfInBounds, List.take_set]
end Go.Proofs.YtbnobjlphmkgeaaGreatDoor
/- The reference's extents: Holes. -/
namespace Go.Proofs.YtbnobjlphmkgeaaGreatDoor
open Go.RowKit

theorem coverX_step (e : Ext) (j i : Nat) (h0 : 0 ≤ e.1) : (decide (e.1 ≤ i) && decide ((i : Int) < e.1 + ((j + 1 : Nat) : Int))) = ((decide (e.1 ≤ i) && decide ((i : Int) < e.1 + (j : Int))) || decide (i = e.1.toNat + j)) := by
  rw [Bool.eq_iff_iff]
  simp only [Bool.and_eq_true, Bool.or_eq_true, decide_eq_true_eq]
  omega
theorem goR_succ (T : Nat → Bool) (i : Nat) : goR T [] 0 (i + 1) = if T i = true then goR T [] 0 i else addR (goR T [] 0 i) (i : Int) := by
  rw [goR, Nat.zero_add]
theorem goR_len (T : Nat → Bool) : ∀ i, (goR T [] 0 i).length ≤ i
  | 0 => Nat.le_refl _
  | i + 1 => by
    rw [goR_succ]
    have := goR_len T i
    split
    · omega
    · unfold addR
      split
      · split <;> simp <;> omega
      · simp; omega
theorem tcells_flat (L : List Ext) : (L.flatMap tcells).length = L.length * 2 := by
  induction L with
  | nil => rfl
  | cons x r ih => rw [List.flatMap_cons, List.length_append, ih, List.length_cons]; simp [tcells]; omega
/-- runs lie within what was looked at -/
theorem goR_in (T : Nat → Bool) : ∀ i, ∀ x ∈ goR T [] 0 i, 0 ≤ x.1 ∧ 1 ≤ x.2 ∧ x.1 + x.2 ≤ i
  | 0 => fun x hx => by cases hx
  | i + 1 => fun x hx => by
    have ih := goR_in T i
    rw [goR_succ] at hx
    by_cases ht : T i = true
    · rw [if_pos ht] at hx
      have := ih x hx; omega
    · rw [if_neg ht] at hx
      unfold addR at hx
      cases hl : (goR T [] 0 i).getLast? with
      | none =>
        rw [hl] at hx
        simp only [List.mem_append, List.mem_singleton] at hx
        rcases hx with hx | rfl
        · have := ih x hx; omega
        · dsimp only; omega
      | some y =>
        rw [hl] at hx
        have hy := ih y (List.mem_of_getLast? hl)
        simp only at hx
        by_cases he : y.1 + y.2 = (i : Int)
        · rw [if_pos he] at hx
          simp only [List.mem_append, List.mem_singleton] at hx
          rcases hx with hx | rfl
          · have := ih x ((List.dropLast_sublist _).subset hx); omega
          · dsimp only; omega
        · rw [if_neg he] at hx
          simp only [List.mem_append, List.mem_singleton] at hx
          rcases hx with hx | rfl
          · have := ih x hx; omega
          · dsimp only; omega
set_option maxRecDepth 100000 in
set_option maxHeartbeats 1000000 in
theorem rholes_any (n : Nat) (A : Option Addr) (m c : Nat) (l : List Ext) (w : World) (hl : l.length = m) (hr : RdX tcells 2 w A l) (hc : chkX (n : Int) l = 0) :
    Calls Tryz.prog 141 #[.int .i64 (n : Int), .slice A m c] w fun e w' => ∃ v, e = .returned v ∧ w'.ownsRow w.heap.size 64 2 v (holesX (n : Int) l).length ((holesX (n : Int) l).flatMap tcells) ∧ Below w.heap.size w w' := by
  obtain ⟨o0, o1, o2, o3, -⟩ := chkX_ok hc
  have HL := Hidden.mk hl
  have HR := Hidden.mk hr
  have HBD : Hidden (∀ e ∈ l, 0 ≤ e.1 ∧ 1 ≤ e.2 ∧ e.1 + e.2 ≤ n) := ⟨fun e he => by have := badX_false (holds_bad hc e he); omega⟩
  have HH : Hidden (∀ T : Nat → Bool, (∀ i, i < n → T i = l.any (fun e => coverX e i)) → goR T [] 0 n = holesX (n : Int) l) := ⟨fun T hT => goR_holes hc T hT⟩
  have HN : Hidden (n ≤ 6400 ∧ m ≤ 200) := ⟨by omega⟩
  obtain ⟨hi0, hi1, hz0, hz1, hz2⟩ := info_parts extent_info
  have HI := Hidden.mk (And.intro hi1 (And.intro hz0 (And.intro hz1 hz2)))
  have HB0 := Hidden.mk ((Below.refl w.heap.size w).alloc (Nat.le_refl _) (.cells Tryz.zeroCells255 255))
  have HT0 : Hidden (BlkB (w.alloc (.cells Tryz.zeroCells255 255)) w.heap.size (fun _ => false)) := ⟨⟨_, heap_alloc_new w _, by rw [zero6401]; simp, fun i hi => by rw [zero6401]; simp [hi]⟩⟩
  generalize holesX (n : Int) l = H at *
  clear hl hr hc o0 o1 o2 o3 hi1 hz0 hz1 hz2
  go_enter Tryz.func141, Tryz.ntmps141
  go_upto_region 2 with (fail)
  generalize w.alloc (.cells Tryz.zeroCells255 255) = w1 at *
  generalize hgb : w.heap.size = gb at *
  have HGB := Hidden.mk hgb
  clear hgb
  go_wp2_with fail
  go_loopg [6] m (fun q kv wr => ∃ k : Nat, k ≤ m ∧ q = m - k ∧ kv = .int .i64 (k : Int) ∧ Hidden (BlkB wr gb (fun i => (l.take k).any (fun e => coverX e i)) ∧ Below gb w wr))
  case atStart => exact ⟨0, by omega, rfl, rfl, ⟨HT0.out.congr (fun i _ => by simp), HB0.out⟩⟩
  case round =>
    obtain ⟨k, hk, rfl, rfl, hst⟩ := hrel
    by_cases hlt : k < m
    · have hkl : k < l.length := by rw [HL.out]; exact hlt
      have i0 : (0 : Int) ≤ k := by omega
      have i1 : (k : Int) < m := by omega
      have s1 : IntKind.i64.wrap ((k : Int) + 1) = (k : Int) + 1 := IntWalk.i64_in _ (by have := HN.out; omega)
      obtain ⟨pb, off, rfl, hcx⟩ := HR.out k hkl
      have x0 := hcx 0 _ rfl
      have x1 := hcx 1 _ rfl
      rw [Nat.add_zero] at x0
      have hbd := HBD.out l[k] (List.getElem_mem hkl)
      have HTK : Hidden (∀ i : Nat, (l.take (k + 1)).any (fun e => coverX e i) = ((l.take k).any (fun e => coverX e i) || coverX l[k] i)) := ⟨fun i => by rw [List.take_succ_eq_append_getElem hkl, List.any_append]; simp⟩
      generalize l[k] = e at *
      obtain ⟨e1, e2⟩ := e
      dsimp only at x0 x1 hbd
      obtain ⟨p, rfl⟩ := Int.eq_ofNat_of_zero_le hbd.1
      obtain ⟨q, rfl⟩ := Int.eq_ofNat_of_zero_le (show 0 ≤ e2 by omega)
      have HRK : Hidden (∀ W, Below gb w W → W.cell? ⟨pb, off + k * 2, none⟩ = some (.int .i64 (p : Int)) ∧ W.cell? ⟨pb, off + k * 2 + 1, none⟩ = some (.int .i64 (q : Int))) := ⟨fun W hW => by
        rw [← HGB.out] at hW
        exact ⟨(hW.cell (p := ⟨pb, off + k * 2, none⟩) (block_lt_of_cell x0)).trans x0, (hW.cell (p := ⟨pb, off + k * 2 + 1, none⟩) (block_lt_of_cell x1)).trans x1⟩⟩
      have HS := Hidden.mk hst.out
      clear hcx x0 x1 hst
      go_wp2_with fail
      go_loopg [7] q (fun z jv wy => ∃ j : Nat, j ≤ q ∧ z = q - j ∧ jv = .int .i64 (j : Int) ∧ Hidden (BlkB wy gb (fun i => (l.take k).any (fun e => coverX e i) || (decide ((p : Int) ≤ i) && decide ((i : Int) < (p : Int) + (j : Int)))) ∧ Below gb w wy))
      case atStart => exact ⟨0, by omega, rfl, rfl, ⟨HS.out.1.congr (fun i _ => by
        have : (decide ((p : Int) ≤ i) && decide ((i : Int) < (p : Int) + ((0 : Nat) : Int))) = false := by
          rw [Bool.eq_false_iff]; intro h; simp only [Bool.and_eq_true, decide_eq_true_eq] at h; omega
        rw [this, Bool.or_false]), HS.out.2⟩⟩
      case round =>
        obtain ⟨j, hj, rfl, rfl, hs2⟩ := hrel
        obtain ⟨x0, x1⟩ := HRK.out wr hs2.out.2
        by_cases hjq : j < q
        · have j0 : decide ((j : Int) < q) = true := by simp; omega
          have s2 : IntKind.i64.wrap ((p : Int) + j) = (p : Int) + j := IntWalk.i64_in _ (by have := HN.out; omega)
          have s3 : IntKind.i64.wrap ((j : Int) + 1) = (j : Int) + 1 := IntWalk.i64_in _ (by have := HN.out; omega)
          have hz1 : p + j < 6401 := by have := HN.out; omega
          have z0 : (0 : Int) ≤ (p : Int) + j := by omega
          have z1 : (p : Int) + j < 6401 := by omega
          obtain ⟨y0, y1⟩ := hs2.out.1.cell (p + j) hz1
          have HNX : Hidden (BlkB (wr.setCell ⟨gb, p + j, none⟩ (.bool true)) gb (fun i => (l.take k).any (fun e => coverX e i) || (decide ((p : Int) ≤ i) && decide ((i : Int) < (p : Int) + ((j + 1 : Nat) : Int)))) ∧ Below gb w (wr.setCell ⟨gb, p + j, none⟩ (.bool true))) := ⟨(hs2.out.1.set (p + j) hz1).congr (fun i _ => by
            have := coverX_step ((p : Int), 0) j i (by dsimp only; omega)
            dsimp only at this
            rw [this, show ((p : Int)).toNat + j = p + j by omega, Bool.or_assoc]), hs2.out.2.setCell (p := ⟨gb, p + j, none⟩) (Nat.le_refl _) _⟩
          clear hs2 HS
          go_wp2_with fail
          go_roundg (q - (j + 1))
          case measure => omega
          case rel => exact ⟨j + 1, by omega, rfl, by go_num, HNX⟩
        · obtain rfl : j = q := by omega
          have j0 : decide ((j : Int) < j) = false := by simp
          have HNX : Hidden (BlkB wr gb (fun i => (l.take (k + 1)).any (fun e => coverX e i)) ∧ Below gb w wr) := ⟨hs2.out.1.congr (fun i _ => by rw [HTK.out i]; rfl), hs2.out.2⟩
          clear hs2 HS
          go_wp2_with fail
          go_roundg (m - (k + 1))
          case measure => omega
          case rel => exact ⟨k + 1, by omega, rfl, by go_num, HNX⟩
    · obtain rfl : k = m := by omega
      have t4 : decide ((k : Int) < k) = false := by simp
      obtain ⟨T, hT⟩ : ∃ T : Nat → Bool, T = fun i => l.any (fun e => coverX e i) := ⟨_, rfl⟩
      have HS : Hidden (BlkB wr gb T ∧ Below gb w wr) := ⟨by
        have h1 := hst.out.1
        rw [List.take_of_length_le (by rw [HL.out]; exact Nat.le_refl _)] at h1
        rw [hT]; exact h1, hst.out.2⟩
      have HG := Hidden.mk (HH.out T (fun i _ => by rw [hT]))
      clear hT hst HH
      have HGL : Hidden (gb < w1.heap.size) := ⟨by obtain ⟨cur, h1, -⟩ := HT0.out; exact (Array.getElem?_eq_some_iff.1 h1).1⟩
      clear HT0 HB0
      go_wp2_with fail
      go_loopg [8, 9] n (fun q v iv wr => ∃ i : Nat, i ≤ n ∧ q = n - i ∧ iv = .int .i64 (i : Int) ∧ Hidden (BlkB wr gb T ∧ Below gb w wr ∧ wr.ownsRow (gb + 1) 64 2 v (goR T [] 0 i).length ((goR T [] 0 i).flatMap tcells)))
      case atStart => exact ⟨0, by omega, rfl, rfl, ⟨HS.out.1, HS.out.2, World.ownsRow_nil _ _ _ _⟩⟩
      case round =>
        obtain ⟨i, hi, rfl, rfl, hs⟩ := hrel
        by_cases hin : i < n
        · have d0 : decide ((i : Int) < n) = true := by simp; omega
          have i0 : (0 : Int) ≤ i := by omega
          have i1 : (i : Int) < 6401 := by have := HN.out; omega
          have s1 : IntKind.i64.wrap ((i : Int) + 1) = (i : Int) + 1 := IntWalk.i64_in _ (by have := HN.out; omega)
          obtain ⟨y0, -⟩ := hs.out.1.cell i (by have := HN.out; omega)
          have HSC := Hidden.mk (goR_succ T i)
          have HST := Hidden.mk hs.out
          have hgl : gb + 1 ≤ wr.heap.size := by obtain ⟨cur, h1, -⟩ := hs.out.1; exact (Array.getElem?_eq_some_iff.1 h1).1
          cases hT : T i with
          | true =>
            rw [hT] at y0
            have HNX : Hidden (goR T [] 0 (i + 1) = goR T [] 0 i) := ⟨by rw [HSC.out, if_pos hT]⟩
            clear hT hs HSC HS
            go_wp2_with fail
            go_roundg (n - (i + 1))
            case measure => omega
            case rel => exact ⟨i + 1, by omega, rfl, by go_num, ⟨HST.out.1, HST.out.2.1, by rw [HNX.out]; exact HST.out.2.2⟩⟩
          | false =>
            rw [hT] at y0
            have HNX : Hidden (goR T [] 0 (i + 1) = addR (goR T [] 0 i) i) := ⟨by rw [HSC.out, if_neg (by rw [hT]; decide)]⟩
            have hlen := goR_len T i
            have hins := goR_in T i
            obtain ⟨H', hH'⟩ : ∃ H', goR T [] 0 (i + 1) = H' := ⟨_, rfl⟩
            have HHE := Hidden.mk hH'
            rw [hH'] at HNX
            clear hH'
            generalize goR T [] 0 i = R at *
            obtain ⟨Av, cv, rfl, hcv, -⟩ := own_split hs.out.2.2
            clear hT hs HSC HS
            rcases List.eq_nil_or_concat R with hnil | ⟨R', x, hR⟩
            · subst hnil
              have HNX : Hidden (H' = [] ++ [((i : Int), 1)]) := ⟨HNX.out⟩
              clear hlen hins
              go_upto_region 15 with (fail)
              go_quiet (fail)
              go_upto_region 17 with (fail)
              have HQ : Hidden (BlkB (wr.drewN nq) gb T ∧ Below gb w (wr.drewN nq) ∧ (wr.drewN nq).ownsRow (gb + 1) 64 2 (.slice Av 0 cv) 0 ((([] : List Ext)).flatMap tcells)) := ⟨HST.out.1, below_drewN HST.out.2.1 _, HST.out.2.2⟩
              have hgq : gb + 1 ≤ (wr.drewN nq).heap.size := hgl
              clear y0 hgl HST
              generalize wr.drewN nq = wq at *
              obtain ⟨hi1, hz0, hz1, hz2⟩ := HI.out
              have hown9 := HQ.out.2.2
              go_wp2_with (at_builtin; refine wpList_append_lies _ rfl (.tmp 75) (.tmp 78) _ rfl (gb + 1) 64 hi0 _ 2 16 Tryz.underlying114 hi1 hz0 hz1 hz2 rfl (by decide) (.slice Av 0 cv) 0 ((([] : List Ext)).flatMap tcells) rfl (own_below hown9 ((Below.refl _ _).alloc (Nat.le_refl _) _)) ⟨(wq).heap.size, 0, none⟩ 1 1 [.int .i64 (i : Int), .int .i64 1] rfl rfl (World.news_of_block (cs := #[.int .i64 (i : Int), .int .i64 1]) (t := 64) (fr := (0, 0)) (heap_alloc_new (wq) _)) (by simp [Value.oneCell']) (by omega) (by simp only [maxLen]; omega) (by omega) (by have hz_ := HQ.out.2.1.size; rw [World.size_alloc]; omega) ((wq).heap.size + 1) (by simp) ?_; intro g8 cap8 w8 hown8 hg8 hat8 hlt8)
              have hal := (Below.refl wq.heap.size wq).alloc (Nat.le_refl _) (.cells #[.int .i64 (i : Int), .int .i64 1] 64)
              have hgW := grown_trans' hal hg8
              have HF : Hidden (BlkB w8 gb T ∧ Below gb w w8 ∧ w8.ownsRow (gb + 1) 64 2 (.slice (some ⟨g8, 0, none⟩) (0 + 1) cap8) H'.length (H'.flatMap tcells)) := ⟨HQ.out.1.block (hgW.block gb (by omega) (fun e => by have := (HQ.out.2.2.lt gb e.symm).1; omega)), HQ.out.2.1.grown hgW (by omega) (fun q hq => by have := (HQ.out.2.2.lt q hq).1; omega), by rw [HNX.out]; simpa [tcells] using hown8⟩
              clear hal hgW hown8 hg8 hat8 hlt8 hown9 HQ hgq
              go_roundg (n - (i + 1))
              case measure => omega
              case rel => exact ⟨i + 1, by omega, rfl, by go_num, by rw [HHE.out]; exact HF⟩
            · rw [List.concat_eq_append] at hR
              subst hR
              have hx := hins x (by simp)
              have hkx : R'.length < (R' ++ [x]).length := by simp
              obtain ⟨ga, oa, hAv, hcx⟩ := own_rdX3 (f := tcells) tcells_len rfl HST.out.2.2 R'.length hkx
              subst hAv
              obtain ⟨ga', ca', hv', hga⟩ := own_mem HST.out.2.2 (by simp)
              injection hv' with q1 q2 q3
              injection q1 with q1
              injection q1 with q1 q4 q5
              subst q1 q3 q4
              clear q2 q5
              have hgx : (R' ++ [x])[R'.length] = x := by simp
              rw [hgx] at hcx
              have v0 := hcx 0 _ rfl
              have v1 := hcx 1 _ rfl
              rw [Nat.add_zero] at v0
              have HLL : Hidden ((R' ++ [x]).length = R'.length + 1) := ⟨by simp⟩
              have k0 : decide (0 < ((R'.length + 1 : Nat) : Int)) = true := decide_eq_true (by omega)
              have s4 : IntKind.i64.wrap (((R'.length + 1 : Nat) : Int) - 1) = (R'.length : Int) := (IntWalk.i64_in _ (by omega)).trans (by omega)
              have k1 : (0 : Int) ≤ R'.length := by omega
              have k2 : (R'.length : Int) < ((R'.length + 1 : Nat) : Int) := by omega
              have HADD : Hidden (H' = if x.1 + x.2 = (i : Int) then R' ++ [(x.1, x.2 + 1)] else (R' ++ [x]) ++ [((i : Int), 1)]) := ⟨by
                rw [HNX.out]; unfold addR
                rw [List.getLast?_concat]
                simp only [List.dropLast_concat]⟩
              obtain ⟨x1, x2⟩ := x
              dsimp only at hx HADD v0 v1
              have s5 : IntKind.i64.wrap (x1 + x2) = x1 + x2 := IntWalk.i64_in _ (by omega)
              have s6 : IntKind.i64.wrap (x2 + 1) = x2 + 1 := IntWalk.i64_in _ (by omega)
              have hR6 : R'.length + 1 ≤ 6400 := by have := HLL.out; have := HN.out; omega
              rw [Nat.zero_add] at v0 v1
              rw [HLL.out]
              clear hcx hgx hkx HNX hins
              by_cases hadj : x1 + x2 = (i : Int)
              · have HNX : Hidden (H' = R' ++ [(x1, x2 + 1)]) := ⟨by rw [HADD.out, if_pos hadj]⟩
                have e0 : (x1 + x2 == (i : Int)) = true := by simpa using hadj
                clear HADD hadj hlen
                go_upto_region 15 with (fail)
                go_quiet (fail)
                have HQ : Hidden (BlkB (wr.drewN nq) gb T ∧ Below gb w (wr.drewN nq) ∧ (wr.drewN nq).ownsRow (gb + 1) 64 2 (.slice (some ⟨ga, 0, none⟩) (R' ++ [(x1, x2)]).length cv) (R' ++ [(x1, x2)]).length ((R' ++ [(x1, x2)]).flatMap tcells)) := ⟨HST.out.1, below_drewN HST.out.2.1 _, HST.out.2.2⟩
                have v1' : (wr.drewN nq).cell? ⟨ga, R'.length * 2 + 1, none⟩ = some (.int .i64 x2) := v1
                clear y0 hgl HST v0 v1
                generalize wr.drewN nq = wq at *
                have hset := own_setX HQ.out.2.2 (k := R'.length * 2 + 1) (by rw [tcells_flat]; simp; omega) (.int .i64 (x2 + 1))
                have HSET : Hidden (BlkB (wq.setCell ⟨ga, R'.length * 2 + 1, none⟩ (.int .i64 (x2 + 1))) gb T ∧ Below gb w (wq.setCell ⟨ga, R'.length * 2 + 1, none⟩ (.int .i64 (x2 + 1))) ∧ (wq.setCell ⟨ga, R'.length * 2 + 1, none⟩ (.int .i64 (x2 + 1))).ownsRow (gb + 1) 64 2 (.slice (some ⟨ga, 0, none⟩) (R'.length + 1) cv) H'.length (H'.flatMap tcells)) := ⟨HQ.out.1.block (Below.heap_setCell _ _ _ _ (by dsimp only; omega)), HQ.out.2.1.setCell (p := ⟨ga, R'.length * 2 + 1, none⟩) (by dsimp only; omega) _, by
                  have h1 := hset.1
                  rw [HLL.out] at h1
                  rw [HNX.out]
                  have e1 : ((R' ++ [(x1, x2)]).flatMap tcells).set (R'.length * 2 + 1) (.int .i64 (x2 + 1)) = (R' ++ [(x1, x2 + 1)]).flatMap tcells := by
                    rw [List.flatMap_append, List.flatMap_append]
                    have hl := tcells_flat R'
                    rw [List.set_append_right _ _ (by omega), hl, show R'.length * 2 + 1 - R'.length * 2 = 1 by omega]
                    rfl
                  rw [e1] at h1
                  simpa using h1⟩
                have f1 := hset.2
                clear hset HQ
                go_wp2_with fail
                go_roundg (n - (i + 1))
                case measure => omega
                case rel => exact ⟨i + 1, by omega, rfl, by go_num, by rw [HHE.out]; exact HSET⟩
              · have HNX : Hidden (H' = (R' ++ [(x1, x2)]) ++ [((i : Int), 1)]) := ⟨by rw [HADD.out, if_neg hadj]⟩
                have e0 : (x1 + x2 == (i : Int)) = false := by simpa using hadj
                rw [HLL.out] at HST
                clear HADD hadj hlen
                go_upto_region 15 with (fail)
                go_quiet (fail)
                clear v0 v1
                go_upto_region 17 with (fail)
                have HQ : Hidden (BlkB (wr.drewN nq) gb T ∧ Below gb w (wr.drewN nq) ∧ (wr.drewN nq).ownsRow (gb + 1) 64 2 (.slice (some ⟨ga, 0, none⟩) (R'.length + 1) cv) (R'.length + 1) ((R' ++ [(x1, x2)]).flatMap tcells)) := ⟨HST.out.1, below_drewN HST.out.2.1 _, HST.out.2.2⟩
                have hgq : gb + 1 ≤ (wr.drewN nq).heap.size := hgl
                clear y0 hgl HST
                generalize wr.drewN nq = wq at *
                obtain ⟨hi1, hz0, hz1, hz2⟩ := HI.out
                have hown9 := HQ.out.2.2
                go_wp2_with (at_builtin; refine wpList_append_lies _ rfl (.tmp 75) (.tmp 78) _ rfl (gb + 1) 64 hi0 _ 2 16 Tryz.underlying114 hi1 hz0 hz1 hz2 rfl (by decide) (.slice (some ⟨ga, 0, none⟩) (R'.length + 1) cv) (R'.length + 1) ((R' ++ [(x1, x2)]).flatMap tcells) rfl (own_below hown9 ((Below.refl _ _).alloc (Nat.le_refl _) _)) ⟨(wq).heap.size, 0, none⟩ 1 1 [.int .i64 (i : Int), .int .i64 1] rfl rfl (World.news_of_block (cs := #[.int .i64 (i : Int), .int .i64 1]) (t := 64) (fr := (0, 0)) (heap_alloc_new (wq) _)) (by simp [Value.oneCell']) (by omega) (by simp only [maxLen]; omega) (by omega) (by have hz_ := HQ.out.2.1.size; rw [World.size_alloc]; omega) ((wq).heap.size + 1) (by simp) ?_; intro g8 cap8 w8 hown8 hg8 hat8 hlt8)
                have hal := (Below.refl wq.heap.size wq).alloc (Nat.le_refl _) (.cells #[.int .i64 (i : Int), .int .i64 1] 64)
                have hgW := grown_trans' hal hg8
                have HF : Hidden (BlkB w8 gb T ∧ Below gb w w8 ∧ w8.ownsRow (gb + 1) 64 2 (.slice (some ⟨g8, 0, none⟩) ((R'.length + 1) + 1) cap8) H'.length (H'.flatMap tcells)) := ⟨HQ.out.1.block (hgW.block gb (by omega) (fun e => by have := (HQ.out.2.2.lt gb e.symm).1; omega)), HQ.out.2.1.grown hgW (by omega) (fun q hq => by have := (HQ.out.2.2.lt q hq).1; omega), by rw [HNX.out]; simpa [tcells] using hown8⟩
                clear hal hgW hown8 hg8 hat8 hlt8 hown9 HQ hgq
                go_roundg (n - (i + 1))
                case measure => omega
                case rel => exact ⟨i + 1, by omega, rfl, by go_num, by rw [HHE.out]; exact HF⟩
        · obtain rfl : i = n := by omega
          have d0 : decide ((i : Int) < i) = false := by simp
          have HF : Hidden (Below w.heap.size w wr ∧ wr.ownsRow w.heap.size 64 2 u8 H.length (H.flatMap tcells)) := ⟨by rw [HGB.out]; exact hs.out.2.1, by
            have := hs.out.2.2
            rw [HG.out] at this
            rw [HGB.out]
            exact own_base this (by omega)⟩
          rw [HGB.out] at HF
          have HGB2 := HGB.out
          clear hs HS
          go_wp2_with fail
          go_ret
          rw [HGB2]
          exact ⟨_, rfl, HF.out.2, HF.out.1⟩
end Go.Proofs.YtbnobjlphmkgeaaGreatDoor
/- The reference's extents: Fit, Stat; extents that are the same. -/
namespace Go.Proofs.YtbnobjlphmkgeaaGreatDoor
open Go.RowKit

section
variable (n : Nat) (A : Option Addr) (m c : Nat) (l : List Ext) (w : World) (hl : l.length = m) (hr : RdX tcells 2 w A l) (hc : chkX (n : Int) l = 0)
include hl hr hc
set_option maxRecDepth 100000 in
theorem rfit_any (size : Int) :
    Calls Tryz.prog 60 #[.int .i64 (n : Int), .slice A m c, .int .i64 size] w fun e w' => e = .returned (.int .i64 (refF size (holesX (n : Int) l)).1) ∧ Below w.heap.size w w' := by
  obtain ⟨o0, o1, o2, o3, -⟩ := chkX_ok hc
  have HC := Hidden.mk (rholes_any n A m c l w hl hr hc)
  have HLE : Hidden ((holesX (n : Int) l).length ≤ 201) := ⟨by have := holesX_len (n : Int) l; omega⟩
  generalize holesX (n : Int) l = H at *
  clear hl hr hc o0 o1 o2 o3
  go_enter Tryz.func60, Tryz.ntmps60
  go_wp2_with fail
  refine HC.out.mono ?_
  rintro e w1 ⟨v, rfl, hown, hb1⟩
  obtain ⟨A1, c1, rfl, -, -⟩ := own_split hown
  have HR := Hidden.mk (own_rdX3 (f := tcells) tcells_len rfl hown)
  have HB := Hidden.mk hb1
  generalize hm : H.length = hn at *
  have HM := Hidden.mk hm
  have hle := HLE.out
  clear hown hb1 HC hm
  go_wp2_with fail
  go_loopg [8, 9, 10] hn (fun q av bv iv wr => ∃ k : Nat, k ≤ hn ∧ q = hn - k ∧ iv = .int .i64 (k : Int) ∧ av = .int .i64 (refF size (H.take k)).1 ∧ bv = .int .i64 (refF size (H.take k)).2 ∧ w1 = wr)
  case atStart => exact ⟨0, by omega, rfl, rfl, rfl, rfl, rfl⟩
  case round =>
    obtain ⟨k, hk, rfl, rfl, rfl, rfl, rfl⟩ := hrel
    by_cases hlt : k < hn
    · have hkl : k < H.length := by rw [HM.out]; exact hlt
      obtain ⟨pp, oo, rfl, hcx⟩ := HR.out k hkl
      have x0 := hcx 0 _ rfl
      have x1 := hcx 1 _ rfl
      rw [Nat.add_zero] at x0
      have HS := Hidden.mk (refF_succ size H k hkl)
      generalize H[k] = e at *
      obtain ⟨e1, e2⟩ := e
      obtain ⟨r, hr⟩ : ∃ r, refF size (H.take k) = r := ⟨_, rfl⟩
      rw [hr] at HS
      rw [hr]
      obtain ⟨ra, rb⟩ := r
      dsimp only at x0 x1 HS
      have i0 : (0 : Int) ≤ k := by omega
      have i1 : (k : Int) < hn := by omega
      have s1 : IntKind.i64.wrap ((k : Int) + 1) = (k : Int) + 1 := IntWalk.i64_in _ (by omega)
      clear hcx hr
      by_cases h1 : size ≤ e2
      · have d1 : decide (size ≤ e2) = true := by simpa using h1
        by_cases h2 : ra < 0
        · have d2 : decide (ra < 0) = true := by simpa using h2
          have HN := Hidden.mk (HS.out.trans (if_pos ⟨h1, .inl h2⟩))
          clear h1 h2 HS
          go_wp2_with fail
          go_roundg (hn - (k + 1))
          case measure => omega
          case rel => exact ⟨k + 1, by omega, rfl, by go_num, by rw [HN.out], by rw [HN.out], rfl⟩
        have d2 : decide (ra < 0) = false := by simpa using h2
        by_cases h3 : e2 < rb
        · have d3 : decide (e2 < rb) = true := by simpa using h3
          have HN := Hidden.mk (HS.out.trans (if_pos ⟨h1, .inr h3⟩))
          clear h1 h2 h3 HS
          go_wp2_with fail
          go_roundg (hn - (k + 1))
          case measure => omega
          case rel => exact ⟨k + 1, by omega, rfl, by go_num, by rw [HN.out], by rw [HN.out], rfl⟩
        have d3 : decide (e2 < rb) = false := by simpa using h3
        have HN := Hidden.mk (HS.out.trans (if_neg (fun h => by rcases h.2 with h | h; exact h2 h; exact h3 h)))
        clear h1 h2 h3 HS
        go_wp2_with fail
        go_roundg (hn - (k + 1))
        case measure => omega
        case rel => exact ⟨k + 1, by omega, rfl, by go_num, by rw [HN.out], by rw [HN.out], rfl⟩
      · have d1 : decide (size ≤ e2) = false := by simpa using h1
        have HN := Hidden.mk (HS.out.trans (if_neg (fun h => h1 h.1)))
        clear h1 HS
        go_wp2_with fail
        go_roundg (hn - (k + 1))
        case measure => omega
        case rel => exact ⟨k + 1, by omega, rfl, by go_num, by rw [HN.out], by rw [HN.out], rfl⟩
    · obtain rfl : k = hn := by omega
      have t4 : decide ((k : Int) < k) = false := by simp
      have HT : Hidden (H.take k = H) := ⟨List.take_of_length_le (by rw [HM.out]; exact Nat.le_refl _)⟩
      rw [HT.out]
      go_wp2_with fail
      go_ret
      exact ⟨rfl, HB.out⟩
end
end Go.Proofs.YtbnobjlphmkgeaaGreatDoor
/- The reference's Alloc. -/
namespace Go.Proofs.YtbnobjlphmkgeaaGreatDoor
open Go.RowKit

theorem fH_at {l : Bytes} {k : Nat} (hk : k < 40) (h0 : hasE (rawE l k) = false) (hb : ∀ i, i < k → hasE (rawE l i) = true) : fH l 40 = k + 1 := by
  rcases fH_spec l 40 (Nat.le_refl _) with ⟨_, h⟩ | ⟨q, q1, q2, q3, q4, q5⟩
  · rw [h k (by omega) hk] at h0; cases h0
  · rcases Nat.lt_trichotomy q k with h | h | h
    · rw [hb q h] at q4; cases q4
    · rw [q3, h]
    · rw [q5 k (by omega) h] at h0; cases h0
theorem fH_zero {l : Bytes} (hb : ∀ i, i < 40 → hasE (rawE l i) = true) : fH l 40 = 0 := by
  rcases fH_spec l 40 (Nat.le_refl _) with ⟨h, _⟩ | ⟨q, q1, q2, q3, q4, q5⟩
  · exact h
  · rw [hb q q2] at q4; cases q4
end Go.Proofs.YtbnobjlphmkgeaaGreatDoor
/- The reference's Alloc, of whatever. -/
namespace Go.Proofs.YtbnobjlphmkgeaaGreatDoor
open Go.RowKit

def RaAnsT (w w' : World) (e : Ending) (n : Nat) (l : Bytes) (sz tg : Int) : Prop :=
  Below w.heap.size w w' ∧ ((allocE l sz tg = 0 ∧ ∃ g c', e = .returned (.tuple #[.slice (some ⟨g, 0, none⟩) n c', .int .i64 (allocH l sz tg), .int .i64 0]) ∧ n ≤ c' ∧ w.heap.size ≤ g ∧ Rd w' (some ⟨g, 0, none⟩) (allocL l sz tg)) ∨ (allocE l sz tg ≠ 0 ∧ e = .returned (.tuple #[.slice none 0 0, .int .i64 0, .int .i64 (allocE l sz tg)])))
theorem alloc_noT {l : Bytes} {sz tg : Int} (h1 : 1 ≤ sz) (h2 : sz ≤ 1000) (t0 : 0 ≤ tg) (t15 : tg ≤ 15) (h : fH l 40 = 0 ∨ fitE ((l.length : Int) - 288) (takenL l) sz ≠ 0) : allocE l sz tg = 4 := by
  unfold allocE
  have h3 : ¬ (lenB sz = false ∨ tagB tg = false) := by
    rw [lenB_true.2 ⟨h1, h2⟩, tagB_true.2 ⟨t0, t15⟩]; simp
  rw [if_neg h3, if_pos h]
theorem alloc_yesT {l : Bytes} {sz tg : Int} (h1 : 1 ≤ sz) (h2 : sz ≤ 1000) (t0 : 0 ≤ tg) (t15 : tg ≤ 15) {k : Nat} (hk : fH l 40 = k + 1) (h : fitE ((l.length : Int) - 288) (takenL l) sz = 0) : allocE l sz tg = 0 ∧ allocH l sz tg = (k : Int) + 1 ∧ ∃ a : Nat, allocA l sz = (a : Int) ∧ 288 ≤ a ∧ (a : Int) + sz ≤ l.length ∧ allocL l sz tg = splice (putEnt l ((k : Int) + 1) (a : Int) sz tg) a (List.replicate sz.toNat 0) := by
  have h3 : ¬ (lenB sz = false ∨ tagB tg = false) := by
    rw [lenB_true.2 ⟨h1, h2⟩, tagB_true.2 ⟨t0, t15⟩]; simp
  have h0 : allocE l sz tg = 0 := by
    unfold allocE
    rw [if_neg h3, if_neg (by omega)]
  obtain ⟨i1, i2⟩ := alloc_in h
  obtain ⟨a, ha⟩ := Int.eq_ofNat_of_zero_le (show 0 ≤ allocA l sz by omega)
  refine ⟨h0, by unfold allocH; rw [if_pos h0, hk]; omega, a, ha, by omega, by omega, ?_⟩
  unfold allocL
  rw [if_pos h0, ha, hk]
  rfl
set_option maxRecDepth 100000 in
theorem ralloc_in (p off n c : Nat) (l : Bytes) (sz tg : Int) (w : World) (hn : l.length = n) (hg : Good l) (hnc : n ≤ c) (hrd : Rd w (some ⟨p, off, none⟩) l) (h1 : 1 ≤ sz) (h2 : sz ≤ 1000) (t0 : 0 ≤ tg) (t15 : tg ≤ 15) :
    Calls Tryz.prog 12 #[.slice (some ⟨p, off, none⟩) n c, .int .i64 sz, .int .i64 tg] w fun e w' => RaAnsT w w' e n l sz tg := by
  have hbd := hg.bd
  have hr : rightB n = true := rightB_true.2 (by omega)
  have HE : Hidden (∀ (W : World) (k : Nat), k < 40 → Below w.heap.size w W → Calls Tryz.prog 29 #[.slice (some ⟨p, off, none⟩) n c, .int .i64 ((k : Int) + 1)] W fun e w' => e = .returned (.tuple #[.agg #[.int .i64 ((k : Int) + 1), .int .i64 (rAt (rawE l k) : Int), .int .i64 (rLen (rawE l k) : Int), .int .i64 (rTag (rawE l k))], .bool (hasE (rawE l k))]) ∧ Below W.heap.size W w') := ⟨fun W k hk hW => refEntry_ok _ n c l k W hn (by omega) hnc (hrd.below hW) hk⟩
  have HT : Hidden (∀ W, Below w.heap.size w W → Calls Tryz.prog 61 #[.slice (some ⟨p, off, none⟩) n c] W fun e w' => ∃ A' c', e = .returned (.slice A' (takenL l).length c') ∧ (takenL l).length ≤ c' ∧ RdX tcells 2 w' A' (takenL l) ∧ Below W.heap.size W w') := ⟨fun W hW => rtaken_ok _ n c l W hn hr hnc (hrd.below hW)⟩
  have hcast : (((n - 288 : Nat)) : Int) = (n : Int) - 288 := by omega
  have HF : Hidden (∀ A c W, RdX tcells 2 W A (takenL l) → Calls Tryz.prog 60 #[.int .i64 ((n : Int) - 288), .slice A (takenL l).length c, .int .i64 sz] W fun e w' => e = .returned (.int .i64 (refF sz (holesX ((n : Int) - 288) (takenL l))).1) ∧ Below W.heap.size W w') := ⟨fun A c W hW => by
    have h := rfit_any (n - 288) A (takenL l).length c (takenL l) W rfl hW (by rw [hcast, ← hn]; exact good_chk hg) sz
    rw [hcast] at h
    exact h⟩
  have HFF := Hidden.mk (refF_fit (good_chk hg) sz (by omega))
  rw [hn] at HFF
  have HP : Hidden (∀ (W : World) (k a : Nat), k < 40 → 288 ≤ a → (a : Int) + sz ≤ n → Below w.heap.size w W → Calls Tryz.prog 62 #[.slice (some ⟨p, off, none⟩) n c, .agg #[.int .i64 ((k : Int) + 1), .int .i64 (a : Int), .int .i64 sz, .int .i64 tg]] W fun e w' => ∃ g c', e = .returned (.tuple #[.slice (some ⟨g, 0, none⟩) n c', .int .i64 0]) ∧ W.heap.size ≤ g ∧ Row w' 5 g c' (putEnt l ((k : Int) + 1) (a : Int) sz tg) ∧ Below W.heap.size W w') := ⟨fun W k a hk ha han hW => refPutEntry_own _ n c l _ _ _ _ W hn hr (hrd.below hW) (handleB_true.2 (by omega)) (tagB_true.2 (by omega)) (lenB_true.2 (by omega)) (withinB_true.2 (by omega))⟩
  have HPL : Hidden (∀ (k a : Nat), k < 40 → (putEnt l ((k : Int) + 1) (a : Int) sz tg).length = n) := ⟨fun k a hk => by rw [putEnt_len _ _ _ _ _ (by omega) (by omega) (by omega)]; exact hn⟩
  have HAY := Hidden.mk (fun k hk hf => alloc_yesT (l := l) h1 h2 t0 t15 (k := k) hk hf)
  have HAN := Hidden.mk (alloc_noT (l := l) h1 h2 t0 t15)
  rw [hn] at HAY HAN
  have HAA : Hidden (fitE ((n : Int) - 288) (takenL l) sz = 0 → allocA l sz = fitA ((n : Int) - 288) (takenL l) sz + 288) := ⟨fun _ => by rw [← hn]; rfl⟩
  have s0 : IntKind.i64.wrap ((n : Int) - 288) = (n : Int) - 288 := IntWalk.i64_in _ (by omega)
  have d1 : decide (sz < 1) = false := by simp; omega
  have d2 : decide (1000 < sz) = false := by simp; omega
  have d3 : decide (tg < 0) = false := by simp; omega
  have d4 : decide (15 < tg) = false := by simp; omega
  generalize hfm : (refF sz (holesX ((n : Int) - 288) (takenL l))).1 = fm at *
  clear hfm hrd hg hr hcast
  go_enter Tryz.func12, Tryz.ntmps12
  go_wp2_with fail
  go_loopg [9] 40 (fun q hv wr => ∃ k : Nat, k ≤ 40 ∧ q = 40 - k ∧ hv = .int .i64 ((k : Int) + 1) ∧ Hidden ((∀ i, i < k → hasE (rawE l i) = true) ∧ Below w.heap.size w wr))
  case atStart => exact ⟨0, by omega, rfl, rfl, ⟨fun i hi => by omega, Below.refl _ _⟩⟩
  case round =>
    obtain ⟨k, hk, rfl, rfl, hst⟩ := hrel
    have HST := Hidden.mk hst.out
    clear hst
    by_cases hlt : k < 40
    · have k0 : ((k : Int) + 1) ≤ 40 := by omega
      have dk : decide ((k : Int) + 1 ≤ 40) = true := by simp; omega
      have s1 : IntKind.i64.wrap ((k : Int) + 1 + 1) = (k : Int) + 1 + 1 := IntWalk.i64_in _ (by omega)
      have HEK := Hidden.mk (HE.out wr k hlt HST.out.2)
      have HFK : Hidden (hasE (rawE l k) = false → fH l 40 = k + 1) := ⟨fun h => fH_at hlt h HST.out.1⟩
      have HFT : Hidden (hasE (rawE l k) = true → ∀ i, i < k + 1 → hasE (rawE l i) = true) := ⟨fun h i hi => by
        by_cases e : i = k
        · rw [e]; exact h
        · exact HST.out.1 i (by omega)⟩
      generalize hasE (rawE l k) = hs at *
      generalize (rAt (rawE l k) : Int) = a1 at *
      generalize (rLen (rawE l k) : Int) = a2 at *
      generalize rTag (rawE l k) = a3 at *
      go_wp2_with fail
      refine HEK.out.mono ?_
      rintro e w1 ⟨rfl, hb1⟩
      have HB1 : Hidden (Below w.heap.size w (w1.alloc (.cells #[.int .i64 ((k : Int) + 1), .int .i64 a1, .int .i64 a2, .int .i64 a3] 66))) := ⟨(HST.out.2.trans (hb1.mono HST.out.2.size)).alloc (HST.out.2.trans (hb1.mono HST.out.2.size)).size _⟩
      clear hb1 HEK
      cases hs with
      | true =>
        have HA := Hidden.mk (HFT.out rfl)
        clear HFT HFK
        go_wp2_with fail
        generalize w1.alloc (.cells #[.int .i64 ((k : Int) + 1), .int .i64 a1, .int .i64 a2, .int .i64 a3] 66) = w2 at *
        go_roundg (40 - (k + 1))
        case measure => omega
        case rel => exact ⟨k + 1, by omega, rfl, by go_num, ⟨HA.out, HB1.out⟩⟩
      | false =>
        have HFH := Hidden.mk (HFK.out rfl)
        have dg : decide ((40 : Int) < (k : Int) + 1) = false := by simp; omega
        have dg' : decide (40 < k + 1) = false := by simp; omega
        have HBW := Hidden.mk HB1.out
        clear HFT HFK HST HE
        go_wp2_with fail
        generalize w1.alloc (.cells #[.int .i64 ((k : Int) + 1), .int .i64 a1, .int .i64 a2, .int .i64 a3] 66) = w2 at *
        refine (HT.out _ HBW.out).mono ?_
        rintro e w3 ⟨A3, c3, rfl, hc3, hr3, hb3⟩
        have HB3 := Hidden.mk (HBW.out.trans (hb3.mono HBW.out.size))
        have HFC := Hidden.mk (HF.out A3 c3 w3 hr3)
        clear hc3 hr3 hb3 HT HF
        go_wp2_with fail
        refine HFC.out.mono ?_
        rintro e w4 ⟨rfl, hb4⟩
        have HB4 := Hidden.mk (HB3.out.trans (hb4.mono HB3.out.size))
        clear hb4 HFC HB3
        rcases HFF.out with ⟨f1, f2, f3⟩ | ⟨f1, f2, f3⟩
        · have df : decide (fm < 0) = true := by simpa using f1
          have HNO := Hidden.mk (HAN.out (.inr (by rw [f2]; decide)))
          clear f1 f2 f3 HFF HAN HAY HP HPL HAA
          go_wp2_with fail
          go_ret3
          exact ⟨HB4.out, .inr ⟨by rw [HNO.out]; decide, by rw [HNO.out]; rfl⟩⟩
        · have df : decide (fm < 0) = false := by simp; omega
          obtain ⟨y1, y2, a, y3, y4, y5, y6⟩ := HAY.out k HFH.out f2
          have haa := HAA.out f2
          have hfa : fm + 288 = (a : Int) := by rw [← y3, haa, ← f3]
          have sa : IntKind.i64.wrap (fm + 288) = (a : Int) := by rw [IntWalk.i64_in _ (by omega)]; exact hfa
          have HP4 := Hidden.mk (HP.out w4 k a hlt y4 y5 HB4.out)
          have HPK := Hidden.mk (HPL.out k a hlt)
          obtain ⟨m, rfl⟩ := Int.eq_ofNat_of_zero_le (show 0 ≤ sz by omega)
          have HY := Hidden.mk (And.intro y1 (And.intro y2 y6))
          have y5' : a + m ≤ n := by omega
          generalize putEnt l ((k : Int) + 1) (a : Int) (m : Int) tg = P at *
          clear f1 f2 f3 y1 y2 y3 y5 y6 haa HFF HAN HAY HP HPL HAA
          go_wp2_with fail
          refine HP4.out.mono ?_
          rintro e w5 ⟨g5, c5, rfl, hg5, hrow5, hb5⟩
          have HB5 := Hidden.mk (HB4.out.trans (hb5.mono HB4.out.size))
          have HWP := Hidden.mk (refWipe_ok g5 0 n c5 P a m w5 HPK.out (by omega) (by omega) y5' hrow5.rd)
          clear hg5 hrow5 hb5 HP4 HB4
          go_wp2_with fail
          refine HWP.out.mono ?_
          rintro e w6 ⟨g6, c6, rfl, hg6, hc6, hrow6, hb6⟩
          have HB6 := Hidden.mk (HB5.out.trans (hb6.mono HB5.out.size))
          have HF6 : Hidden (n ≤ c6 ∧ w.heap.size ≤ g6 ∧ Rd w6 (some ⟨g6, 0, none⟩) (allocL l (m : Int) tg)) := ⟨hc6, Nat.le_trans HB5.out.size hg6, by rw [HY.out.2.2]; exact hrow6.rd⟩
          clear hg6 hc6 hrow6 hb6 HWP HB5
          go_wp2_with fail
          go_ret3
          exact ⟨HB6.out, .inl ⟨HY.out.1, g6, c6, by rw [HY.out.2.1]; rfl, HF6.out.1, HF6.out.2.1, HF6.out.2.2⟩⟩
    · have hk40 : k = 40 := by omega
      have dk : decide ((k : Int) + 1 ≤ 40) = false := by simp; omega
      have HZ := Hidden.mk (fH_zero (l := l) (fun i hi => HST.out.1 i (by omega)))
      have HNO := Hidden.mk (HAN.out (.inl HZ.out))
      have dg : decide ((40 : Int) < (k : Int) + 1) = true := by simp; omega
      have dg' : decide (40 < k + 1) = true := by simp; omega
      have HBW := Hidden.mk HST.out.2
      clear HST HE HZ HAN HAY HP HPL HAA HFF
      go_wp2_with fail
      refine (HT.out _ HBW.out).mono ?_
      rintro e w3 ⟨A3, c3, rfl, hc3, hr3, hb3⟩
      have HB3 := Hidden.mk (HBW.out.trans (hb3.mono HBW.out.size))
      have HFC := Hidden.mk (HF.out A3 c3 w3 hr3)
      clear hc3 hr3 hb3 HT HF
      go_wp2_with fail
      refine HFC.out.mono ?_
      rintro e w4 ⟨rfl, hb4⟩
      have HB4 := Hidden.mk (HB3.out.trans (hb4.mono HB3.out.size))
      clear hb4 HFC HB3
      go_wp2_with fail
      go_ret3
      exact ⟨HB4.out, .inr ⟨by rw [HNO.out]; decide, by rw [HNO.out]; rfl⟩⟩
set_option maxRecDepth 100000 in
theorem ralloc_all (p off n c : Nat) (l : Bytes) (sz tg : Int) (w : World) (hn : l.length = n) (hg : Good l) (hnc : n ≤ c) (hrd : Rd w (some ⟨p, off, none⟩) l) :
    Calls Tryz.prog 12 #[.slice (some ⟨p, off, none⟩) n c, .int .i64 sz, .int .i64 tg] w fun e w' => RaAnsT w w' e n l sz tg := by
  by_cases hok : (1 ≤ sz ∧ sz ≤ 1000) ∧ 0 ≤ tg ∧ tg ≤ 15
  · exact ralloc_in p off n c l sz tg w hn hg hnc hrd hok.1.1 hok.1.2 hok.2.1 hok.2.2
  have hE : Hidden (allocE l sz tg = 1) := ⟨by
    unfold allocE
    rw [if_pos]
    by_cases h : 1 ≤ sz ∧ sz ≤ 1000
    · right
      cases ht : tagB tg with
      | false => rfl
      | true => exact absurd ⟨h, tagB_true.1 ht⟩ hok
    · left
      cases hl : lenB sz with
      | false => rfl
      | true => exact absurd (lenB_true.1 hl) h⟩
  clear hn hg hnc hrd
  unfold RaAnsT
  go_enter Tryz.func12, Tryz.ntmps12
  by_cases h1 : sz < 1
  · have d1 : decide (sz < 1) = true := by simpa using h1
    clear hok
    go_wp2_with fail
    go_ret3
    exact ⟨Below.refl _ _, .inr ⟨by rw [hE.out]; decide, by rw [hE.out]; rfl⟩⟩
  have d1 : decide (sz < 1) = false := by simpa using h1
  by_cases h2 : 1000 < sz
  · have d2 : decide (1000 < sz) = true := by simpa using h2
    clear hok
    go_wp2_with fail
    go_ret3
    exact ⟨Below.refl _ _, .inr ⟨by rw [hE.out]; decide, by rw [hE.out]; rfl⟩⟩
  have d2 : decide (1000 < sz) = false := by simpa using h2
  by_cases h3 : tg < 0
  · have d3 : decide (tg < 0) = true := by simpa using h3
    clear hok
    go_wp2_with fail
    go_ret3
    exact ⟨Below.refl _ _, .inr ⟨by rw [hE.out]; decide, by rw [hE.out]; rfl⟩⟩
  have d3 : decide (tg < 0) = false := by simpa using h3
  have d4 : decide (15 < tg) = true := by simp; omega
  clear hok
  go_wp2_with fail
  go_ret3
  exact ⟨Below.refl _ _, .inr ⟨by rw [hE.out]; decide, by rw [hE.out]; rfl⟩⟩
end Go.Proofs.YtbnobjlphmkgeaaGreatDoor
/- The reference's PutRoot where all is right: the row that it gives is a new one. -/
namespace Go.Proofs.YtbnobjlphmkgeaaGreatDoor
open Go.RowKit

set_option maxRecDepth 100000 in
theorem rputRoot_own (pb ob n c : Nat) (l : Bytes) (k : Nat) (s : Bytes) (h : Int) (w : World) (hs : s.length ≤ 140737488351232) (hln : l.length = n) (hr : rightB n = true) (hrd : Rd w (some ⟨pb, ob, none⟩) l) (hk : k < 8) (hnm : isName s = true) (hh : handleB h = true) :
    Calls Tryz.prog 81 #[.slice (some ⟨pb, ob, none⟩) n c, .int .i64 (k : Int), .agg #[sv s, .int .i64 h]] w fun e w' => ∃ g c', e = .returned (.tuple #[.slice (some ⟨g, 0, none⟩) n c', .int .i64 0]) ∧ n ≤ c' ∧ w.heap.size ≤ g ∧ Row w' 5 g c' (splice l (200 + 11 * k) (rootB s h)) ∧ Below w.heap.size w w' := by
  have hnb := rightB_true.1 hr
  have hB : Below w.heap.size w (w.alloc (.cells #[sv s, .int .i64 h] 128)) := (Below.refl _ _).alloc (Nat.le_refl _) _
  have s1 : IntKind.i64.wrap (11 * (k : Int)) = 11 * (k : Int) := IntWalk.i64_in _ (by omega)
  obtain ⟨o, ho⟩ : ∃ o : Nat, o = 200 + 11 * k := ⟨_, rfl⟩
  have s2 : IntKind.i64.wrap (200 + 11 * (k : Int)) = (o : Int) := by rw [IntWalk.i64_in _ (by omega)]; omega
  have s3 : IntKind.i64.wrap (210 + 11 * (k : Int)) = ((o + 10 : Nat) : Int) := by rw [IntWalk.i64_in _ (by omega)]; omega
  have ho11 : o + 11 ≤ n := by omega
  have hn64 : n ≤ 6400 := by omega
  have k7 : decide (7 < (k : Int)) = false := by simp; omega
  have k7' : decide (7 < k) = false := by simp; omega
  have kneg : decide ((k : Int) < 0) = false := by simp
  have HW := Hidden.mk (refWipe_ok pb ob n c l o 11 _ hln (by omega) (by omega) ho11 (hrd.below hB))
  have HLN := Hidden.mk hln
  have hwl : (splice l o (List.replicate 11 (0 : UInt8))).length = n := by rw [splice_len _ _ _ (by rw [List.length_replicate]; omega)]; exact hln
  have HWL := Hidden.mk hwl
  rw [← ho]
  have hse : s.isEmpty = false := by
    cases s with
    | nil => exact absurd hnm (by decide)
    | cons x r => rfl
  have HHB := Hidden.mk (handleB_true.1 hh)
  have h8' := nameB_len s hnm
  have h8 : s.length ≤ 8 := by unfold nameB at h8'; simp at h8'; omega
  have HD : Hidden ((splice (splice l o (List.replicate 11 0)) o s).set (o + 10) (UInt8.ofNat h.toNat) = splice l o (rootB s h)) := ⟨rootB_set l s o h h8 (by rw [HLN.out]; exact ho11)⟩
  have HDL : Hidden ((splice l o (rootB s h)).length = n) := ⟨by rw [← HD.out, List.length_set, splice_len _ _ _ (by rw [HWL.out]; omega)]; exact HWL.out⟩
  generalize splice l o (rootB s h) = LF at *
  generalize splice l o (List.replicate 11 0) = z0 at *
  clear hnb ho hln hrd hr hwl h8'
  go_enter Tryz.func81, Tryz.ntmps81
  go_wp2_with fail
  refine HW.out.mono ?_
  rintro e w1 ⟨g, cap, rfl, hg, hcap, hrow, hb1⟩
  obtain ⟨x0, x1⟩ := two_cells hb1
  have HB1 := Hidden.mk (hB.trans (hb1.mono hB.size))
  have HCAP := Hidden.mk hcap
  have HC : Hidden (∀ W, Below (w.heap.size + 1) w1 W → W.cell? ⟨w.heap.size, 0, none⟩ = some (sv s) ∧ W.cell? ⟨w.heap.size, 1, none⟩ = some (.int .i64 h)) := ⟨fun W hW => two_cells (hb1.trans (by simpa using hW))⟩
  have HG1 : Hidden (w.heap.size + 1 ≤ g) := ⟨by have := hg; simp at this; omega⟩
  have HROW := Hidden.mk hrow
  clear hb1 hg hB hrow hcap
  generalize w.alloc (.cells #[sv s, .int .i64 h] 128) = w0 at *
  go_wp2_with fail
  refine (ref_handle_any h _).mono ?_
  rintro e w2 ⟨rfl, rfl⟩
  rw [hh]
  clear hh
  go_wp2_with fail
  refine (refName_any s _ hs).mono ?_
  rintro e w2 ⟨rfl, rfl⟩
  rw [hnm]
  clear hnm
  have hst0 : Row w1 5 g cap (splice z0 o (s.take 0)) := by simpa [splice] using HROW.out
  have HB00 := Below.refl w1.heap.size w1
  go_wp2_with fail
  go_loopg [11] s.length (fun m i wr => ∃ q : Nat, q ≤ s.length ∧ m = s.length - q ∧ i = .int .i64 (q : Int) ∧ Below (w.heap.size + 1) w1 wr ∧ Row wr 5 g cap (splice z0 o (s.take q)))
  case atStart => exact ⟨0, by omega, rfl, rfl, Below.refl _ _, hst0⟩
  case round =>
    obtain ⟨q, hq, rfl, rfl, hbel, hrw⟩ := hrel
    obtain ⟨y0, y1⟩ := HC.out wr hbel
    have hsl : (splice z0 o (s.take q)).length = n := by rw [splice_len _ _ _ (by rw [List.length_take, HWL.out]; omega)]; exact HWL.out
    by_cases hlt : q < s.length
    · have hcell := hrw.cell (o + q) (by omega)
      have hfr := hrw.frozen (o + q)
      have hst := hrw.store (o + q) (by omega) s[q]
      rw [splice_take_succ z0 s o q hlt (by have := HWL.out; omega)] at hst
      have hbn := hbel.setCell (p := ⟨g, o + q, none⟩) HG1.out (bv s[q])
      have s4 : IntKind.i64.wrap ((o : Int) + q) = (o : Int) + q := IntWalk.i64_in _ (by omega)
      have k0 : (0 : Int) ≤ (o : Int) + q := by omega
      have k1 : (o : Int) + q < n := by omega
      have k2 : (0 : Int) ≤ q := by omega
      have k3 : (q : Int) < s.length := by omega
      have hix : ((⟨s.toArray⟩ : ByteArray)[q]'(by simpa [ByteArray.size] using hlt)) = s[q] := rfl
      generalize (splice z0 o (s.take q))[o + q] = u at hcell
      clear hrw hsl
      go_wp2_with fail
      go_roundg (s.length - (q + 1))
      case measure => omega
      case rel => exact ⟨q + 1, by omega, rfl, by go_num, hbn, hst⟩
    · obtain rfl : q = s.length := by omega
      rw [List.take_length] at hrw hsl
      have hhb := HHB.out
      have hcell := hrw.cell (o + 10) (by omega)
      have hfr := hrw.frozen (o + 10)
      have hst := hrw.store (o + 10) (by omega) (UInt8.ofNat h.toNat)
      rw [HD.out] at hst
      have hbn := hbel.setCell (p := ⟨g, o + 10, none⟩) HG1.out (bv (UInt8.ofNat h.toNat))
      have hbv : bv (UInt8.ofNat h.toNat) = .int .u8 h := by
        simp only [bv, UInt8.toNat_ofNat']
        congr 1
        omega
      rw [hbv] at hst hbn
      have w8 : IntKind.u8.wrap h = h := IntWalk.u8_in _ (by omega)
      have k0 : (0 : Int) ≤ (o : Int) + 10 := by omega
      have k1 : (o : Int) + 10 < n := by omega
      generalize (splice z0 o s)[o + 10] = u at hcell
      clear hrw hsl hhb hbv
      go_wp2_with fail
      go_ret2
      exact ⟨g, cap, rfl, HCAP.out, Nat.le_trans (Nat.le_succ _) HG1.out, hst, HB1.out.trans (hbn.mono (Nat.le_succ _))⟩
end Go.Proofs.YtbnobjlphmkgeaaGreatDoor
/- The reference on who names whom: Handle, Refs. -/
namespace Go.Proofs.YtbnobjlphmkgeaaGreatDoor
open Go.RowKit

theorem rhandle_any (p off n c : Nat) (l : Bytes) (x : Int) (w : World) (hn : l.length = n) (hg : Good l) (hnc : n ≤ c) (hrd : Rd w (some ⟨p, off, none⟩) l) :
    Calls Tryz.prog 28 #[.slice (some ⟨p, off, none⟩) n c, .int .i64 x] w fun e w' => e = .returned (.int .i64 (hE l x : Int)) ∧ Below w.heap.size w w' := by
  have hbd := hg.bd
  cases hh : handleB x with
  | false =>
    have he : Hidden (hE l x = 1) := ⟨by unfold hE; rw [if_pos hh]⟩
    clear hn hg hrd
    go_enter Tryz.func28, Tryz.ntmps28
    go_wp2_with fail
    refine (ref_handle_any x _).mono ?_
    rintro e w1 ⟨rfl, rfl⟩
    rw [hh]
    clear hh
    go_wp2_with fail
    go_ret
    exact ⟨by rw [he.out]; rfl, Below.refl _ _⟩
  | true =>
    have hb := handleB_true.1 hh
    obtain ⟨k, rfl⟩ : ∃ k : Nat, x = (k : Int) + 1 := ⟨(x - 1).toNat, by omega⟩
    have HE := Hidden.mk (refEntry_ok (some ⟨p, off, none⟩) n c l k w hn (by omega) hnc hrd (by omega))
    unfold entR entV at HE
    have he : Hidden (hE l ((k : Int) + 1) = if hasE (rawE l k) = true then 0 else 5) := ⟨by
      unfold hE
      rw [hh, show (((k : Int) + 1) - 1).toNat = k by omega]; rfl⟩
    generalize hasE (rawE l k) = hs at *
    generalize (rAt (rawE l k) : Int) = a1 at *
    generalize (rLen (rawE l k) : Int) = a2 at *
    generalize rTag (rawE l k) = a3 at *
    generalize hE l ((k : Int) + 1) = hv at *
    clear hn hg hrd hb
    go_enter Tryz.func28, Tryz.ntmps28
    go_wp2_with fail
    refine (ref_handle_any _ _).mono ?_
    rintro e w1 ⟨rfl, rfl⟩
    rw [hh]
    clear hh
    go_wp2_with fail
    refine HE.out.mono ?_
    rintro e w2 ⟨rfl, hb2⟩
    have HB := Hidden.mk (hb2.alloc hb2.size (.cells #[.int .i64 ((k : Int) + 1), .int .i64 a1, .int .i64 a2, .int .i64 a3] 66))
    clear hb2 HE
    cases hs with
    | true =>
      go_wp2_with fail
      go_ret
      exact ⟨by rw [he.out]; rfl, HB.out⟩
    | false =>
      go_wp2_with fail
      go_ret
      exact ⟨by rw [he.out]; rfl, HB.out⟩
theorem refsL_obj {l : Bytes} (hg : Good l) {k : Nat} (hk : k < 40) (hh : hasE (rawE l k) = true) : 0 ≤ objT l k ∧ objT l k ≤ 15 ∧ (objS l k).length ≤ 1000 ∧ refsL l ((k : Int) + 1) = refsB l ((objS l k).take (objT l k).toNat) := by
  have hs := strayE_false (hg.s.fit k hk hh)
  obtain ⟨e0, e1, e2, e3⟩ := hd_of hk hh
  have ht : objT l k = rTag (rawE l k) := by unfold objT; rw [if_pos hh]
  have hb : objS l k = (l.drop (rAt (rawE l k))).take (rLen (rawE l k)) := by unfold objS; rw [if_pos hh]
  refine ⟨by omega, by omega, by rw [hb]; simp; omega, ?_⟩
  unfold refsL
  rw [e2, e3]
  have hso : someE l ((k : Int) + 1) 0 (min (rLen (rawE l k) : Int) (rTag (rawE l k))) = 0 := some_zero e0 (by omega) (by omega) (by rw [e2]; omega)
  unfold readL
  rw [if_pos hso, e1, hb, ht, List.take_take]
  congr 2
  · omega
set_option maxRecDepth 100000 in
theorem rrefs_ok (p off n c : Nat) (l : Bytes) (k : Nat) (w : World) (hn : l.length = n) (hg : Good l) (hnc : n ≤ c) (hrd : Rd w (some ⟨p, off, none⟩) l) (hk : k < 40) (hh : hasE (rawE l k) = true) :
    Calls Tryz.prog 158 #[.slice (some ⟨p, off, none⟩) n c, .int .i64 ((k : Int) + 1)] w fun e w' => ∃ v, e = .returned v ∧ w'.ownsRow w.heap.size 3 1 v (refsL l ((k : Int) + 1)).length ((refsL l ((k : Int) + 1)).flatMap ncell) ∧ Below w.heap.size w w' := by
  obtain ⟨i0', hi0, hz0, hz1, hz2⟩ := info_parts int_infoC
  have HI := Hidden.mk (And.intro hi0 (And.intro hz0 (And.intro hz1 hz2)))
  have HO := Hidden.mk (refObj_ok p off n c l k w hn hg hnc hrd hk)
  obtain ⟨o0, o1, o2, o3⟩ := refsL_obj hg hk hh
  have HH : Hidden (∀ (x : Int) (W : World), Below w.heap.size w W → Calls Tryz.prog 28 #[.slice (some ⟨p, off, none⟩) n c, .int .i64 x] W fun e w' => e = .returned (.int .i64 (hE l x : Int)) ∧ Below W.heap.size W w') := ⟨fun x W hW => rhandle_any p off n c l x W hn hg hnc (hrd.below hW)⟩
  have HRL := Hidden.mk o3
  generalize objS l k = S at *
  obtain ⟨t, ht⟩ := Int.eq_ofNat_of_zero_le o0
  rw [ht, Int.toNat_natCast] at HRL
  rw [ht] at HO
  generalize refsL l ((k : Int) + 1) = R at *
  have ht15 : t ≤ 15 := by omega
  generalize hB : S.take t = B at *
  have HB : Hidden (B = S.take t) := ⟨hB.symm⟩
  have hBL : B.length = min t S.length := by rw [← hB]; simp
  clear hi0 hz0 hz1 hz2 hn hg hrd hh o0 o1 o3 ht hB
  go_enter Tryz.func158, Tryz.ntmps158
  go_wp2_with fail
  refine HO.out.mono ?_
  rintro e w1 ⟨rfl, hb1⟩
  have HB1 := Hidden.mk hb1
  clear hb1 HO
  go_wp2_with fail
  go_loopg [7, 8] 16 (fun q v i wr => ∃ j : Nat, j ≤ B.length ∧ q = 16 - j ∧ i = .int .i64 (j : Int) ∧ Hidden (Below w1.heap.size w1 wr ∧ wr.ownsRow w1.heap.size 3 1 v (refsB l (B.take j)).length ((refsB l (B.take j)).flatMap ncell)))
  case atStart => exact ⟨0, by omega, rfl, rfl, ⟨Below.refl _ _, World.ownsRow_nil _ _ _ _⟩⟩
  case round =>
    obtain ⟨j, hj, rfl, rfl, hst⟩ := hrel
    have hj15 : j ≤ 15 := by omega
    by_cases hlt : j < B.length
    · have hjt : j < t := by omega
      have hjS : j < S.length := by omega
      have HS := Hidden.mk (refsB_succ l B j hlt)
      have hBS : B[j] = S[j] := by
        have h := HB.out
        subst h
        simp
      rw [hBS] at HS
      have hll := refsB_len l B j (by omega)
      obtain ⟨A4, c4, rfl, hc4, hc4m⟩ := own_split hst.out.2
      have HO4 := Hidden.mk hst.out
      have HBW : Hidden (Below w.heap.size w wr) := ⟨HB1.out.trans (hst.out.1.mono HB1.out.size)⟩
      have hix : ((⟨S.toArray⟩ : ByteArray)[j]'(by simpa [ByteArray.size] using hjS)) = S[j] := rfl
      have hc255 := u8_lt S[j]
      generalize S[j] = cb at *
      generalize refsB l (B.take j) = L at *
      generalize hL2 : refsB l (B.take (j + 1)) = L2 at *
      have HL2 := Hidden.mk hL2
      have d0 : decide ((j : Int) < t) = true := decide_eq_true (by omega)
      have d0' : decide (j < t) = true := decide_eq_true hjt
      have d1 : decide ((j : Int) < S.length) = true := decide_eq_true (by omega)
      have d1' : decide (j < S.length) = true := decide_eq_true hjS
      have i0 : (0 : Int) ≤ j := by omega
      have i1 : (j : Int) < S.length := by omega
      have s1 : IntKind.i64.wrap (cb.toNat : Int) = (cb.toNat : Int) := IntWalk.i64_in _ (by omega)
      have s3 : IntKind.i64.wrap ((j : Int) + 1) = (j : Int) + 1 := IntWalk.i64_in _ (by omega)
      have HT := Hidden.mk (HH.out (cb.toNat : Int) wr HBW.out)
      clear hst hL2 hBS
      by_cases h0 : hE l (cb.toNat : Int) = 0
      · rw [h0] at HT
        have HS1 : Hidden (L2 = if cb.toNat ∉ L then L ++ [cb.toNat] else L) := ⟨by rw [HS.out]; unfold refB; simp only [h0, true_and]⟩
        clear h0 HS
        go_wp2_with fail
        refine HT.out.mono ?_
        rintro e w5 ⟨rfl, hb5⟩
        have HO5 : Hidden (Below w1.heap.size w1 w5 ∧ w5.ownsRow w1.heap.size 3 1 (.slice A4 L.length c4) L.length (L.flatMap ncell)) := ⟨HO4.out.1.trans (hb5.mono HO4.out.1.size), own_below HO4.out.2 hb5⟩
        have HRX := Hidden.mk (own_rdX3 (f := ncell) (fun _ => rfl) rfl HO5.out.2)
        obtain ⟨hi0, hz0, hz1, hz2⟩ := HI.out
        clear hb5 HT HO4
        go_wp2_with fail
        go_loopg [11, 12] L.length (fun q hv iv ws => ∃ (u : Nat) (hb : Bool), u ≤ L.length ∧ q = L.length - u ∧ iv = .int .i64 (u : Int) ∧ hv = .bool hb ∧ Hidden (hb = decide (cb.toNat ∈ L.take u)) ∧ w5 = ws)
        case atStart => exact ⟨0, false, by omega, rfl, rfl, rfl, ⟨by simp⟩, rfl⟩
        case round =>
          obtain ⟨u, hb, hu, rfl, rfl, rfl, hbe, rfl⟩ := hrel
          by_cases hlu : u < L.length
          · obtain ⟨pp, oo, hA4, hcx⟩ := HRX.out u hlu
            have y0 : w5.cell? ⟨pp, oo + u, none⟩ = some (.int .i64 (L[u] : Int)) := by simpa using hcx 0 _ rfl
            have i2 : (0 : Int) ≤ u := by omega
            have i3 : (u : Int) < L.length := by omega
            have s4 : IntKind.i64.wrap ((u : Int) + 1) = (u : Int) + 1 := IntWalk.i64_in _ (by omega)
            have HTK : Hidden ((cb.toNat ∈ L.take (u + 1)) ↔ (cb.toNat ∈ L.take u ∨ L[u] = cb.toNat)) := ⟨by
              rw [List.take_succ_eq_append_getElem hlu, List.mem_append, List.mem_singleton]
              exact ⟨fun h => h.imp id Eq.symm, fun h => h.imp id Eq.symm⟩⟩
            generalize L[u] = y at *
            subst hA4
            clear hcx
            cases hb with
            | true =>
              have hin := of_decide_eq_true hbe.out.symm
              have HX : Hidden (true = decide (cb.toNat ∈ L.take (u + 1))) := ⟨(decide_eq_true (HTK.out.2 (.inl hin))).symm⟩
              clear hin hbe HTK
              go_wp2_with fail
              go_roundg (L.length - (u + 1))
              case measure => omega
              case rel => exact ⟨u + 1, true, by omega, rfl, by go_num, rfl, HX, rfl⟩
            | false =>
              have hin := of_decide_eq_false hbe.out.symm
              by_cases hy : y = cb.toNat
              · have HX : Hidden (true = decide (cb.toNat ∈ L.take (u + 1))) := ⟨(decide_eq_true (HTK.out.2 (.inr hy))).symm⟩
                have d5 : decide ((y : Int) = (cb.toNat : Int)) = true := decide_eq_true (by omega)
                have d6 : ((y : Int) == (cb.toNat : Int)) = true := by simp; omega
                have d7 : decide (y = cb.toNat) = true := decide_eq_true hy
                clear hin hbe HTK hy
                go_wp2_with fail
                go_roundg (L.length - (u + 1))
                case measure => omega
                case rel => exact ⟨u + 1, true, by omega, rfl, by go_num, rfl, HX, rfl⟩
              · have HX : Hidden (false = decide (cb.toNat ∈ L.take (u + 1))) := ⟨(decide_eq_false (fun h => (HTK.out.1 h).elim hin hy)).symm⟩
                have d5 : decide ((y : Int) = (cb.toNat : Int)) = false := decide_eq_false (by omega)
                have d6 : ((y : Int) == (cb.toNat : Int)) = false := by simp; omega
                have d7 : decide (y = cb.toNat) = false := decide_eq_false hy
                clear hin hbe HTK hy
                go_wp2_with fail
                go_roundg (L.length - (u + 1))
                case measure => omega
                case rel => exact ⟨u + 1, false, by omega, rfl, by go_num, rfl, HX, rfl⟩
          · have huL : u = L.length := by omega
            have hbe2 := hbe.out
            rw [huL, List.take_length] at hbe2
            have d8 : decide ((u : Int) < L.length) = false := decide_eq_false (by omega)
            have d8' : decide (u < L.length) = false := decide_eq_false hlu
            clear huL hbe HRX
            cases hb with
            | true =>
              have HLL : Hidden (L2 = L) := ⟨by rw [HS1.out, if_neg (fun h => h (of_decide_eq_true hbe2.symm))]⟩
              clear hbe2 HS1
              go_wp2_with fail
              go_roundg (16 - (j + 1))
              case measure => omega
              case rel => exact ⟨j + 1, by omega, rfl, by go_num, ⟨by rw [HL2.out, HLL.out]; exact HO5.out⟩⟩
            | false =>
              have HLL : Hidden (L2 = L ++ [cb.toNat]) := ⟨by rw [HS1.out, if_pos (of_decide_eq_false hbe2.symm)]⟩
              clear hbe2 HS1
              go_wp2_with (at_builtin; refine wpList_append_lies _ rfl (.tmp 56) (.tmp 58) _ rfl w1.heap.size 3 i0' _ 1 8 Tryz.underlying54 hi0 hz0 hz1 hz2 rfl (by decide) (.slice A4 L.length c4) L.length (L.flatMap ncell) rfl (own_below HO5.out.2 ((Below.refl _ _).alloc (Nat.le_refl _) _)) ⟨(w5).heap.size, 0, none⟩ 1 1 [.int .i64 (cb.toNat : Int)] rfl rfl (World.news_of_block (cs := #[.int .i64 (cb.toNat : Int)]) (t := 3) (fr := (0, 0)) (heap_alloc_new (w5) _)) (by simp [Value.oneCell']) (by omega) (by simp only [maxLen]; omega) (by omega) (by have hz_ := HO5.out.1.size; rw [World.size_alloc]; omega) ((w5).heap.size + 1) (by simp) ?_; intro g8 cap8 w8 hown8 hg8 hat8 hlt8)
              have hgW := grown_trans' ((Below.refl w5.heap.size w5).alloc (Nat.le_refl _) _) hg8
              have hB8 : Below w1.heap.size w1 w8 := HO5.out.1.grown hgW HO5.out.1.size (fun q hq => (HO5.out.2.lt q hq).1)
              have HF : Hidden (Below w1.heap.size w1 w8 ∧ w8.ownsRow w1.heap.size 3 1 (.slice (some ⟨g8, 0, none⟩) (L.length + 1) cap8) L2.length (L2.flatMap ncell)) := ⟨hB8, by rw [HLL.out]; simpa [ncell] using hown8⟩
              clear hgW hB8 hown8 hg8 hat8 hlt8
              go_roundg (16 - (j + 1))
              case measure => omega
              case rel => exact ⟨j + 1, by omega, rfl, by go_num, ⟨by rw [HL2.out]; exact HF.out⟩⟩
      · obtain ⟨ec, hec⟩ : ∃ ec, hE l (cb.toNat : Int) = ec + 1 := ⟨hE l (cb.toNat : Int) - 1, by omega⟩
        have HLL : Hidden (L2 = L) := ⟨by rw [HS.out]; unfold refB; rw [if_neg (fun h => h0 h.1)]⟩
        generalize hE l (cb.toNat : Int) = ev at *
        have e0 : decide ((ev : Int) = 0) = false := decide_eq_false (by omega)
        have e0' : ((ev : Int) == 0) = false := by simp; omega
        have e0'' : (ev == 0) = false := by simp; omega
        clear h0 hec HS
        go_wp2_with fail
        refine HT.out.mono ?_
        rintro e w5 ⟨rfl, hb5⟩
        have HO5 : Hidden (Below w1.heap.size w1 w5 ∧ w5.ownsRow w1.heap.size 3 1 (.slice A4 L.length c4) L.length (L.flatMap ncell)) := ⟨HO4.out.1.trans (hb5.mono HO4.out.1.size), own_below HO4.out.2 hb5⟩
        clear hb5 HT HO4
        go_wp2_with fail
        go_roundg (16 - (j + 1))
        case measure => omega
        case rel => exact ⟨j + 1, by omega, rfl, by go_num, ⟨by rw [HL2.out, HLL.out]; exact HO5.out⟩⟩
    · have hjB : j = B.length := by omega
      have hT := hst.out
      rw [hjB, List.take_length, ← HRL.out] at hT
      have HF : Hidden (wr.ownsRow w.heap.size 3 1 u7 R.length (R.flatMap ncell) ∧ Below w.heap.size w wr) := ⟨own_base hT.2 HB1.out.size, HB1.out.trans (hT.1.mono HB1.out.size)⟩
      clear hT hst
      by_cases hjt : j < t
      · have d0 : decide ((j : Int) < t) = true := decide_eq_true (by omega)
        have d0' : decide (j < t) = true := decide_eq_true hjt
        have d1 : decide ((j : Int) < S.length) = false := decide_eq_false (by omega)
        have d1' : decide (j < S.length) = false := decide_eq_false (by omega)
        clear hjB hlt
        go_wp2_with fail
        go_ret
        exact ⟨_, rfl, HF.out.1, HF.out.2⟩
      · have d0 : decide ((j : Int) < t) = false := decide_eq_false (by omega)
        have d0' : decide (j < t) = false := decide_eq_false hjt
        clear hjB hlt
        go_wp2_with fail
        go_ret
        exact ⟨_, rfl, HF.out.1, HF.out.2⟩
end Go.Proofs.YtbnobjlphmkgeaaGreatDoor
