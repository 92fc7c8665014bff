/- Contracts and plain laws, put together: UndoMarks1. -/
import Derived.Test.YtnceheienlekaaaGreatDoorUndoMarksFrameM3
import Derived.Test.YtnceheienlekaaaGreatDoorUndoMarksFrameM4
import Derived.Deep.DeepCutAuto
import Derived.Deep.CutBlock
/- UndoMarks: the walk. -/
namespace Go.Proofs.YtnceheienlekaaaGreatDoor
open Go.RowKit Go.Maps Go.ChangeMaps

theorem diff_same (a : Bytes) : diffL a a = [] := by
  rw [← goD_all a a rfl]
  exact goD_same a a [] 0 a.length (fun j _ => rfl)
theorem keys_count {S : List Nat} {t : Nat} (h1 : S.Pairwise (· < ·)) (h2 : ∀ k, k ∈ S ↔ (1 ≤ k ∧ k ≤ t)) : S.length = t := by
  have hp : S.Perm (List.range' 1 t) := (List.perm_ext_iff_of_nodup (h1.imp fun h e => by omega) (List.nodup_range' ..)).2 fun k => by
    rw [h2, List.mem_range'_1]; omega
  rw [hp.length_eq, List.length_range']
theorem slice_info : (Tryz.prog.info? 22).map (fun i => (i.zero, i.size, i.bytes)) = some (some (.slice none 0 0), 1, 24) := by kernel_rfl
theorem alloc_lenU {l : Bytes} (hg : Good l) (n t : Int) : (allocL l n t).length = l.length := by
  by_cases h0 : allocE l n t = 0
  · obtain ⟨k, a, n', t', _, _, _, _, h⟩ := alloc_is hg h0
    exact h.len
  · have : allocL l n t = l := by unfold allocL; rw [if_neg h0]
    rw [this]
def imgI (img : Nat → Bytes) (i : Nat) : Nat → Option Bytes := fun k => if 1 ≤ k ∧ k ≤ i then some (img k) else none
/-- the images beside the heap and its marks -/
structure ImR (w wr : World) (F : Nat → Prop) (i : Nat) (img : Nat → Bytes) (v : Value) (vals : List Value) : Prop where
  own : wr.ownsRow w.heap.size 22 1 v (i + 1) vals
  nf : ∀ q, v.ownBlock = some q → ¬ F q
  img : ∀ k, 1 ≤ k → k ≤ i → ∃ g cap, vals[k]? = some (.slice (some ⟨g, 0, none⟩) (img k).length cap) ∧ Row wr 5 g cap (img k) ∧ ¬ F g
theorem ImR.keep {w wr wr' : World} {F F' : Nat → Prop} {i : Nat} {img : Nat → Bytes} {v : Value} {vals : List Value} (h : ImR w wr F i img v vals) (hk : ∀ k cur T, wr.heap[k]? = some (.cells cur T (0, 0)) → (T = 5 ∨ T = 22) → ¬ F k → wr'.heap[k]? = wr.heap[k]?) (hn : ∀ k, F' k → F k ∨ wr.heap.size ≤ k) : ImR w wr' F' i img v vals := by
  have hno : ∀ k, k < wr.heap.size → ¬ F k → ¬ F' k := fun k hlt hnf hf' => by rcases hn k hf' with h | h; exact hnf h; omega
  refine ⟨ownsRow_block h.own fun q hq => ?_, fun q hq => hno q (h.own.lt q hq).2 (h.nf q hq), fun k h1 h2 => ?_⟩
  · rcases h.own.2 with ⟨e, _⟩ | ⟨g, cap, cur, e, _, hh, _⟩
    · rw [e] at hq; cases hq
    · rw [e] at hq
      obtain rfl : g = q := by simpa [Value.ownBlock] using hq
      exact hk g cur _ hh (.inr rfl) (h.nf g (by rw [e]; rfl))
  · obtain ⟨g, cap, e1, e2, e3⟩ := h.img k h1 h2
    refine ⟨g, cap, e1, e2.block ?_, hno g e2.lt e3⟩
    obtain ⟨cur, h1, -⟩ := e2
    exact hk g cur _ h1 (.inl rfl) e3
theorem ImR.below {w wr wr' : World} {F : Nat → Prop} {i : Nat} {img : Nat → Bytes} {v : Value} {vals : List Value} (h : ImR w wr F i img v vals) (hb : Below wr.heap.size wr wr') : ImR w wr' F i img v vals :=
  h.keep (fun k cur T h1 _ _ => hb.block k (Array.getElem?_eq_some_iff.1 h1).1) (fun _ hk => .inl hk)
theorem ImR.moved {w w0 wr wr' : World} {F F' G : Nat → Prop} {i hh : Nat} {l : Bytes} {img : Nat → Bytes} {v : Value} {vals : List Value} (h : ImR w wr F i img v vals) (hm : HpM w0 wr wr' G F' hh l) (hG : ∀ k, G k → F k ∨ ∀ cur T, wr.heap[k]? = some (.cells cur T (0, 0)) → T ≠ 5 ∧ T ≠ 22) (hF : ∀ k, F' k → F k ∨ wr.heap.size ≤ k) : ImR w wr' F' i img v vals :=
  h.keep (fun k cur T h1 hT hn => hm.kp.block k (Array.getElem?_eq_some_iff.1 h1).1 (fun hg => by
    rcases hG k hg with h' | h'
    · exact hn h'
    · have := h' cur T h1; rcases hT with h'' | h''; exact this.1 h''; exact this.2 h'')) hF
theorem UdH.types {w0 w : World} {F : Nat → Prop} {u h mb last : Nat} {I : Nat → Option Bytes} (hu : UdH w0 w F u h mb last I) : ∀ k, k = u ∨ k = mb → ∀ cur T, w.heap[k]? = some (.cells cur T (0, 0)) → T ≠ 5 ∧ T ≠ 22 := fun k hk cur T hc => by
  rcases hk with rfl | rfl
  · rw [hu.blk] at hc
    have := Option.some.inj hc
    injection this with _ h2
    subst h2
    exact ⟨by decide, by decide⟩
  · obtain ⟨f, cnt, -, him, -⟩ := hu.mp
    obtain ⟨es, clock, hb⟩ := him.isMap
    rw [hb] at hc; cases hc
theorem own_shape {w : World} {base n : Nat} {e : TypeId} {v : Value} {xs : List Value} {C : Nat} (h : w.ownsRow base e C v n xs) : ∃ A c, v = .slice A n c ∧ n ≤ c := by
  rcases h.2 with ⟨rfl, rfl⟩ | ⟨g, cap, cur, rfl, _, _, hn, _⟩
  · exact ⟨none, 0, rfl, Nat.le_refl _⟩
  · exact ⟨_, _, rfl, hn⟩
/-- what a block of rows is written into does not touch an undo -/
theorem UdH.typed {w0 w w' : World} {F : Nat → Prop} {u h mb last : Nat} {I : Nat → Option Bytes} {q : Option Nat} (hu : UdH w0 w F u h mb last I) (hg : w.grownBy w' q) (hq : ∀ k, q = some k → ∃ cur, w.heap[k]? = some (.cells cur 22 (0, 0))) : UdH w0 w' F u h mb last I := by
  obtain ⟨h1, h2⟩ := hu.lt
  obtain ⟨f, cnt, hc, him, hf⟩ := hu.mp
  refine ⟨(hg.block u h1 (fun e => ?_)).trans hu.blk, ⟨f, cnt, hc, him.block (hg.block mb h2 (fun e => ?_)), fun k => ⟨(hf k).1, fun b hb => ?_⟩⟩, hu.nu, hu.nm, hu.u0, hu.m0, hu.top⟩
  · obtain ⟨cur, hq⟩ := hq u e.symm
    rw [hu.blk] at hq
    have := Option.some.inj hq
    injection this with _ h2
    exact absurd h2 (by decide)
  · obtain ⟨cur, hq⟩ := hq mb e.symm
    obtain ⟨es, clock, hb⟩ := him.isMap
    rw [hb] at hq; cases hq
  · obtain ⟨g, cap, e1, e2, e3⟩ := (hf k).2 b hb
    refine ⟨g, cap, e1, e2.block (hg.block g e2.lt (fun e => ?_)), e3⟩
    obtain ⟨cur, hq⟩ := hq g e.symm
    obtain ⟨cur', h0, -⟩ := e2
    rw [h0] at hq
    have := Option.some.inj hq
    injection this with _ h2
    exact absurd h2 (by decide)
theorem own_typed {w : World} {base n : Nat} {e : TypeId} {v : Value} {xs : List Value} {C : Nat} (h : w.ownsRow base e C v n xs) : ∀ k, v.ownBlock = some k → ∃ cur, w.heap[k]? = some (.cells cur e (0, 0)) := fun k hk => by
  rcases h.2 with ⟨rfl, rfl⟩ | ⟨g, cap, cur, rfl, _, hh, _⟩
  · cases hk
  · obtain rfl : g = k := by simpa [Value.ownBlock] using hk
    exact ⟨cur, hh⟩
theorem row_typed {w : World} {base n : Nat} {v : Value} {xs : List Value} {C g cap : Nat} {b : Bytes} (h : w.ownsRow base 22 C v n xs) (hr : Row w 5 g cap b) : v.ownBlock ≠ some g := fun e => by
  obtain ⟨cur, hq⟩ := own_typed h g e
  obtain ⟨cur', h0, -⟩ := hr
  rw [h0] at hq
  have := Option.some.inj hq
  injection this with _ h2
  exact absurd h2 (by decide)
/-- the law's state -/
structure UmSt (w wr : World) (F : Nat → Prop) (u h mb i : Nat) (l : Bytes) (img : Nat → Bytes) (v : Value) (vals : List Value) : Prop where
  hp : Hp w wr F h l
  good : Good l
  len : l.length = 2000
  ud : UdH w wr F u h mb i (imgI img i)
  im : ImR w wr F i img v vals
  ilen : ∀ k, 1 ≤ k → k ≤ i → (img k).length = 2000
set_option maxRecDepth 100000 in
set_option maxHeartbeats 2000000 in
theorem undoMarks_walk (A : Option Addr) (cA : Nat) (L : List Int) (to_ : Int) (w : World) (hg : HasType w) (hA : RdX icell 1 w A L) (h0 : -9223372036854775808 ≤ to_) (h1 : to_ ≤ 9223372036854775807) :
    Calls Tryz.prog 4 #[.slice A L.length cA, .int .i64 to_] w fun e w' => e = .returned (.bool true) ∧ Below w.heap.size w w' := by
  have HG := Hidden.mk hg
  have HA := Hidden.mk hA
  have HTO := Hidden.mk (And.intro h0 h1)
  have HN := Hidden.mk (hnew_ok 2000 w (by decide))
  rw [show ((2000 : Nat) : Int) = 2000 from rfl] at HN
  have HG0 : Hidden (Good (List.replicate 2000 (0 : UInt8)) ∧ (List.replicate 2000 (0 : UInt8)).length = 2000) := ⟨good_zero' rfl, List.length_replicate⟩
  generalize List.replicate 2000 (0 : UInt8) = l0 at *
  obtain ⟨i0, hi0, hz0, hz1, hz2⟩ := info_parts slice_info
  have HI := Hidden.mk (And.intro hi0 (And.intro hz0 (And.intro hz1 hz2)))
  clear hg hA h0 h1 hi0 hz0 hz1 hz2
  go_enter Tryz.func4, Tryz.ntmps4
  go_wp2_with fail
  refine HN.out.mono ?_
  rintro e w1 ⟨h, F1, rfl, hp⟩
  have HU := Hidden.mk (unew_ok hp)
  clear hp HN
  go_wp2_with fail
  refine HU.out.mono ?_
  rintro e w2 ⟨u, mb, rfl, hu, hp⟩
  have hal := (Below.refl w2.heap.size w2).alloc (Nat.le_refl _) (.cells #[.slice none 0 0] 22)
  have hST : UmSt w (w2.alloc (.cells #[.slice none 0 0] 22)) F1 u h mb 0 l0 (fun _ => []) (.slice (some ⟨w2.heap.size, 0, none⟩) 1 1) [.slice none 0 0] := by
    refine ⟨hp.below hal, HG0.out.1, HG0.out.2, ?_, ⟨⟨rfl, .inr ⟨w2.heap.size, 1, #[.slice none 0 0], rfl, hp.bel.size, heap_alloc_new w2 _, Nat.le_refl _, by simp [maxLen], rfl, rfl⟩⟩, fun q hq hf => ?_, fun k h1 h2 => by omega⟩, fun k h1 h2 => by omega⟩
    · have : imgI (fun _ => []) 0 = fun _ => none := by funext k; unfold imgI; rw [if_neg (by omega)]
      rw [this]; exact hu.below hal
    · have e : w2.heap.size = q := by simpa [Value.ownBlock] using hq
      have := hp.flt q hf
      omega
  have HST := Hidden.mk hST
  clear hu hp hal hST HU HG0
  go_upto_block 0 with (fail)
  generalize w2.alloc (.cells #[.slice none 0 0] 22) = w3 at *
  go_cut [8, 9] (fun v iv wx => ∃ (i : Nat) (F : Nat → Prop) (l : Bytes) (img : Nat → Bytes) (vals : List Value) (A' : Option Addr) (c' : Nat), i ≤ 20 ∧ v = .slice A' (i + 1) c' ∧ Hidden (UmSt w wx F u h mb i l img v vals))
  case first =>
    go_wp2_with fail
    go_loopg [8, 9] 20 (fun q v iv wr => ∃ (i : Nat) (F : Nat → Prop) (l : Bytes) (img : Nat → Bytes) (vals : List Value), i ≤ 20 ∧ i ≤ L.length ∧ q = 20 - i ∧ iv = .int .i64 (i : Int) ∧ Hidden (UmSt w wr F u h mb i l img v vals))
    case atStart => exact ⟨0, F1, l0, _, _, by omega, by omega, rfl, rfl, HST⟩
    case round =>
      obtain ⟨i, F, l, img, vals, hi, hiL, rfl, rfl, hst⟩ := hrel
      have HS := Hidden.mk hst.out
      obtain ⟨Av, cv, rfl, hcv⟩ := own_shape hst.out.im.own
      clear hst HST
      by_cases hlt : i < L.length
      · have d0 : decide ((i : Int) < L.length) = true := by simp; omega
        by_cases h20 : i < 20
        · have d1 : decide ((i : Int) < 20) = true := by simp; omega
          have i0' : (0 : Int) ≤ i := by omega
          have i1 : (i : Int) < L.length := by omega
          have s1 : IntKind.i64.wrap ((i : Int) + 1) = (i : Int) + 1 := IntWalk.i64_in _ (by omega)
          have xx : ((i : Int) + 1 == (i : Int) + 1) = true := beq_self_eq_true _
          obtain ⟨pp, oo, rfl, hcx⟩ := HA.out i hlt
          have y0 : w.cell? ⟨pp, oo + i, none⟩ = some (.int .i64 L[i]) := by simpa using hcx 0 _ rfl
          have HYW : Hidden (∀ W, Below w.heap.size w W → W.cell? ⟨pp, oo + i, none⟩ = some (.int .i64 L[i])) := ⟨fun W hW => (hW.cell (p := ⟨pp, oo + i, none⟩) (block_lt_of_cell y0)).trans y0⟩
          generalize L[i] = sz at *
          clear hcx y0
          have HMK := Hidden.mk (umark_ok HS.out.hp HS.out.ud (by omega))
          rw [show ((i + 1 : Nat) : Int) = (i : Int) + 1 from rfl] at HMK
          go_wp2_with fail
          refine HMK.out.mono ?_
          rintro e w4 ⟨rfl, hu4, hp4, hk4⟩
          have him4 := HS.out.im.keep (wr' := w4) (F' := F) (fun k cur T h1 hT hn => hk4.block k (Array.getElem?_eq_some_iff.1 h1).1 (fun e => by
            have := HS.out.ud.types k e cur T h1
            rcases hT with h'' | h''
            · exact this.1 h''
            · exact this.2 h'')) (fun _ hk => .inl hk)
          have H4 := Hidden.mk (And.intro hp4 (And.intro hu4 him4))
          have HBY := Hidden.mk (hbytes_ok _ _ F h l hp4)
          clear hu4 hp4 hk4 him4 HMK
          go_wp2_with fail
          refine HBY.out.mono ?_
          rintro e w5 ⟨g5, cap5, rfl, hg5, hrow5, hb5⟩
          have hgF : ¬ F g5 := fun hk => by have := H4.out.1.flt _ hk; omega
          have H5 := Hidden.mk (And.intro (H4.out.1.below hb5) (And.intro (H4.out.2.1.below hb5) (And.intro (H4.out.2.2.below hb5) (And.intro hrow5 hgF))))
          clear hg5 hrow5 hb5 hgF HBY H4
          obtain ⟨hi1, hz0, hz1, hz2⟩ := HI.out
          have hown5 := H5.out.2.2.1.own
          have hbel5 := H5.out.1.bel
          go_wp2_with (at_builtin; refine wpList_append_lies _ rfl (.tmp 39) (.tmp 42) _ rfl w.heap.size 22 i0 _ 1 24 Tryz.underlying44 hi1 hz0 hz1 hz2 rfl (by decide) (.slice Av (i + 1) cv) (i + 1) vals rfl (own_below hown5 ((Below.refl _ _).alloc (Nat.le_refl _) _)) ⟨(w5).heap.size, 0, none⟩ 1 1 [.slice (some ⟨g5, 0, none⟩) l.length cap5] rfl rfl (World.news_of_block (cs := #[.slice (some ⟨g5, 0, none⟩) l.length cap5]) (t := 22) (fr := (0, 0)) (heap_alloc_new (w5) _)) (by simp [Value.oneCell']) (by omega) (by simp only [maxLen]; omega) (by omega) (by have hz_ := hbel5.size; rw [World.size_alloc]; omega) ((w5).heap.size + 1) (by simp) ?_; intro g8 cap8 w8 hown8 hg8 hat8 hlt8; have y8 := HYW.out w8 (hbel5.grown (grown_trans' ((Below.refl w5.heap.size w5).alloc (Nat.le_refl _) _) hg8) hbel5.size (fun q hq => (hown5.lt q hq).1)))
          have hal := (Below.refl w5.heap.size w5).alloc (Nat.le_refl _) (.cells #[.slice (some ⟨g5, 0, none⟩) l.length cap5] 22)
          have hgW := grown_trans' hal hg8
          have hkW : Keep (fun k => (Value.slice Av (i + 1) cv).ownBlock = some k) w5 w8 := ⟨hgW.os, hgW.tape, hgW.output, hgW.size, fun k hk hn => hgW.block k hk (fun e => hn e.symm)⟩
          have hp8 := H5.out.1.keep hkW (fun k hf e => H5.out.2.2.1.nf k e hf) (fun k e => (hown5.lt k e).1)
          have hu8 := H5.out.2.1.typed hgW (own_typed hown5)
          have hvl : vals.length = i + 1 := by have := hown5.1; omega
          have hRW : ∀ g cap (b : Bytes), Row w5 5 g cap b → Row w8 5 g cap b := fun g cap b hr => hr.block (hgW.block g hr.lt (fun e => row_typed hown5 hr e.symm))
          have HS8 : Hidden (UmSt w w8 F u h mb (i + 1) l (fun k => if k = i + 1 then l else img k) (.slice (some ⟨g8, 0, none⟩) (i + 1 + 1) cap8) (vals ++ [.slice (some ⟨g5, 0, none⟩) l.length cap5])) := ⟨by
            refine ⟨hp8, HS.out.good, HS.out.len, ?_, ⟨hown8, fun q hq hf => ?_, fun k h1 h2 => ?_⟩, fun k h1 h2 => ?_⟩
            · have e : imgI (fun k => if k = i + 1 then l else img k) (i + 1) = markI (imgI img i) (i + 1) l := by
                funext k
                unfold imgI markI
                by_cases hk : k = i + 1
                · simp [hk]
                · simp only [if_neg hk]
                  by_cases hk2 : 1 ≤ k ∧ k ≤ i
                  · rw [if_pos hk2, if_pos ⟨hk2.1, by omega⟩]
                  · rw [if_neg hk2, if_neg (by omega)]
              rw [e]; exact hu8
            · obtain rfl : g8 = q := by simpa [Value.ownBlock] using hq
              rcases hat8 with h' | h'
              · exact H5.out.2.2.1.nf _ h' hf
              · have := H5.out.1.flt _ hf
                omega
            · by_cases hk : k = i + 1
              · subst hk
                refine ⟨g5, cap5, ?_, ?_, H5.out.2.2.2.2⟩
                · rw [List.getElem?_append_right (by omega), hvl, Nat.sub_self]; simp
                · simp only [if_pos]; exact hRW _ _ _ H5.out.2.2.2.1
              · obtain ⟨g, cap, e1, e2, e3⟩ := H5.out.2.2.1.img k h1 (by omega)
                refine ⟨g, cap, ?_, ?_, e3⟩
                · rw [List.getElem?_append_left (by omega), e1]; simp only [if_neg hk]
                · simp only [if_neg hk]; exact hRW _ _ _ e2
            · by_cases hk : k = i + 1
              · simp only [if_pos hk]; exact HS.out.len
              · simp only [if_neg hk]; exact HS.out.ilen k h1 (by omega)⟩
          clear hal hgW hkW hp8 hu8 hvl hRW hown8 hg8 hat8 hlt8 hown5 hbel5 H5
          have HAL := Hidden.mk (halloc_any sz 0 HS8.out.hp)
          have HGA : Hidden (Good (allocL l sz 0) ∧ (allocL l sz 0).length = 2000) := ⟨alloc_good HS.out.good _ _, (alloc_lenU HS.out.good _ _).trans HS.out.len⟩
          generalize allocL l sz 0 = l' at *
          generalize allocH l sz 0 = ah at *
          generalize errV (allocE l sz 0) = ev at *
          clear HS
          refine HAL.out.mono ?_
          rintro e w9 ⟨rfl, F9, hm⟩
          have HN9 : Hidden (UmSt w w9 F9 u h mb (i + 1) l' (fun k => if k = i + 1 then l else img k) (.slice (some ⟨g8, 0, none⟩) (i + 1 + 1) cap8) (vals ++ [.slice (some ⟨g5, 0, none⟩) l.length cap5])) := ⟨hm.hp, HGA.out.1, HGA.out.2, HS8.out.ud.moved hm, HS8.out.im.moved hm (fun k hk => .inl hk) hm.nw, HS8.out.ilen⟩
          clear hm HAL HS8 y8
          go_wp2_with fail
          go_roundg (20 - (i + 1))
          case measure => omega
          case rel => exact ⟨i + 1, F9, l', _, _, by omega, by omega, rfl, by go_num, HN9⟩
        · have d1 : decide ((i : Int) < 20) = false := by simp; omega
          go_wp2_with fail
          go_meet
          exact ⟨i, F, l, img, vals, Av, cv, hi, rfl, HS⟩
      · have d0 : decide ((i : Int) < L.length) = false := by simp; omega
        go_wp2_with fail
        go_meet
        exact ⟨i, F, l, img, vals, Av, cv, hi, rfl, HS⟩
  case rest =>
  obtain ⟨i, F, l, img, vals, Av, cv, hi, rfl, hc⟩ := hcut
  have HS := Hidden.mk hc.out
  clear hc HST HI
  obtain ⟨t0, t1⟩ := HTO.out
  by_cases hin : 1 ≤ to_ ∧ to_ ≤ i
  · obtain ⟨t, rfl⟩ := Int.eq_ofNat_of_zero_le (show 0 ≤ to_ by omega)
    have hIt : Ik (imgI img i) (t : Int) = some (img t) := by unfold Ik imgI; rw [if_neg (by omega), Int.toNat_natCast, if_pos (by omega)]
    have hlen : (img t).length = 2000 := HS.out.ilen t (by omega) (by omega)
    have hr2 : rightB (img t).length = true := by rw [hlen]; decide
    have HBK := Hidden.mk (uback_ok (t : Int) (img t) HS.out.hp HS.out.ud t0 t1 hIt hr2)
    have ht1 : 1 ≤ t := by omega
    have ht2 : t ≤ i := by omega
    have d0 : decide ((t : Int) < 1) = false := by simp; omega
    have d1 : decide (((i : Int) + 1) ≤ (t : Int)) = false := by simp; omega
    have d1' : decide (((i + 1 : Nat) : Int) ≤ (t : Int)) = false := by simp; omega
    have HIM := Hidden.mk (HS.out.im.img t ht1 ht2)
    clear hin hIt
    go_wp2_with fail
    refine HBK.out.mono ?_
    rintro e w4 ⟨rfl, F4, hu4, hm4, hp4⟩
    have him4 := HS.out.im.moved hm4 (fun k hk => by
      rcases hk with hk | hk
      · exact .inl hk
      · exact .inr (HS.out.ud.types k (.inr hk))) (fun k hk => by
      rcases hm4.nw k hk with (hk | hk) | hk
      · exact .inl hk
      · subst hk; exact absurd hk (by intro; exact hu4.nm (by assumption))
      · exact .inr hk)
    obtain ⟨b, hb⟩ : ∃ b, img t = b := ⟨_, rfl⟩
    have hI1 : Ik (cutI (imgI img i) t) (t : Int) = some b := by
      unfold Ik cutI imgI
      rw [if_neg (by omega), Int.toNat_natCast]
      simp only [Int.lt_irrefl, if_false]
      rw [if_pos ⟨ht1, ht2⟩, hb]
    have hI1' : ∀ k : Nat, cutI (imgI img i) t k ≠ none ↔ (1 ≤ k ∧ k ≤ t) := fun k => by
      unfold cutI imgI
      by_cases hk : (t : Int) < (k : Int)
      · rw [if_pos hk]; simp; omega
      · rw [if_neg hk]
        by_cases hk2 : 1 ≤ k ∧ k ≤ i
        · rw [if_pos hk2]; simp; omega
        · rw [if_neg hk2]; simp; omega
    rw [hb] at hlen hr2 hp4 hm4
    generalize cutI (imgI img i) (t : Int) = I1 at *
    have H4 := Hidden.mk (And.intro hp4 (And.intro hu4 him4))
    have HI1 := Hidden.mk (And.intro hI1 (And.intro hlen hr2))
    have HI2 : Hidden (∀ k : Nat, cutI I1 t k ≠ none ↔ (1 ≤ k ∧ k ≤ t)) := ⟨fun k => by
      have := hI1' k
      unfold cutI
      by_cases hk : (t : Int) < (k : Int)
      · rw [if_pos hk]; simp; omega
      · rw [if_neg hk]; exact this⟩
    have HCH := Hidden.mk (uchanges_ok (t : Int) b hp4 hu4 t0 t1 hI1 rfl)
    rw [diff_same] at HCH
    have HBT := Hidden.mk hb
    clear hu4 hm4 hp4 him4 hI1 hI1' hlen hr2 HBK hb
    go_wp2_with fail
    refine HCH.out.mono ?_
    rintro e w5 ⟨v5, rfl, hown5, hb5⟩
    obtain ⟨xs5, hxs5, -⟩ := hown5
    obtain ⟨A5, c5, rfl, -⟩ := own_shape hxs5
    rw [List.length_nil]
    have H5 := Hidden.mk (And.intro (H4.out.1.below hb5) (And.intro (H4.out.2.1.below hb5) (H4.out.2.2.below hb5)))
    have HBK2 := Hidden.mk (uback_ok (t : Int) b H5.out.1 H5.out.2.1 t0 t1 HI1.out.1 HI1.out.2.2)
    clear hxs5 hb5 H4 HCH
    go_wp2_with fail
    refine HBK2.out.mono ?_
    rintro e w6 ⟨rfl, F6, hu6, hm6, hp6⟩
    have him6 := H5.out.2.2.moved hm6 (fun k hk => by
      rcases hk with hk | hk
      · exact .inl hk
      · exact .inr (H5.out.2.1.types k (.inr hk))) (fun k hk => by
      rcases hm6.nw k hk with (hk' | hk') | hk'
      · exact .inl hk'
      · subst hk'; exact absurd hk hu6.nm
      · exact .inr hk')
    generalize cutI I1 (t : Int) = I2 at *
    have H6 := Hidden.mk (And.intro hp6 (And.intro hu6 him6))
    have s1 : IntKind.i64.wrap ((t : Int) + 1) = (t : Int) + 1 := IntWalk.i64_in _ (by omega)
    clear hu6 hm6 hp6 him6 H5 HBK2
    go_upto_region 18 with (fail)
    go_cut [14] (fun lv wx => lv = .bool false ∧ Hidden (Hp w wx F6 h b ∧ UdH w wx F6 u h mb i I2 ∧ ImR w wx F6 i img (.slice Av (i + 1) cv) vals))
    case first =>
      by_cases hlate : t + 1 ≤ i
      · have d2 : decide ((t : Int) + 1 < ((i + 1 : Nat) : Int)) = true := by simp; omega
        have d2' : decide ((t : Int) + 1 < (i : Int) + 1) = true := by simp; omega
        have d2i : decide ((t : Int) < (i : Int)) = true := by simp; omega
        have d2n : decide (t < i) = true := by simp; omega
        have hno : Ik I2 ((t : Int) + 1) = none := by
          unfold Ik
          rw [if_neg (by omega), show ((t : Int) + 1).toNat = t + 1 by omega]
          refine Classical.byContradiction fun hc => ?_
          have := (HI2.out (t + 1)).1 hc
          omega
        have HBN := Hidden.mk (uback_no ((t : Int) + 1) H6.out.1 H6.out.2.1 (by omega) (by omega) hno)
        clear hlate hno
        go_wp2_with fail
        refine HBN.out.mono ?_
        rintro e w7 ⟨rfl, hb7⟩
        have H7 := Hidden.mk (And.intro (H6.out.1.below hb7) (And.intro (H6.out.2.1.below hb7) (H6.out.2.2.below hb7)))
        clear hb7 HBN H6
        go_wp2_with fail
        go_meet
        exact ⟨rfl, H7⟩
      · have d2 : decide ((t : Int) + 1 < ((i + 1 : Nat) : Int)) = false := by simp; omega
        have d2' : decide ((t : Int) + 1 < (i : Int) + 1) = false := by simp; omega
        have d2i : decide ((t : Int) < (i : Int)) = false := by simp; omega
        have d2n : decide (t < i) = false := by simp; omega
        clear hlate
        go_wp2_with fail
        go_meet
        exact ⟨rfl, H6⟩
    case rest =>
    obtain ⟨rfl, h7⟩ := hcut
    have H7 := Hidden.mk h7.out
    clear h7 H6
    obtain ⟨gt, capt, ev1, ev2, ev3⟩ := H7.out.2.2.img t ht1 ht2
    rw [HBT.out] at ev1 ev2
    obtain ⟨gi, ci, hvi, -⟩ := own_mem H7.out.2.2.own (by omega)
    injection hvi with q1 q2 q3
    subst q1 q3
    have hce := H7.out.2.2.own.cells (g := gi) rfl t _ ev1
    rw [Addr.add_lit, Nat.zero_add] at hce
    have HSW : Hidden (∀ W, Below wc.heap.size wc W → W.cell? ⟨gi, t, none⟩ = some (.slice (some ⟨gt, 0, none⟩) b.length capt) ∧ (convert 22 9 (.slice (some ⟨gt, 0, none⟩) b.length capt)).run Tryz.prog W = .ok (sv b) W) := ⟨fun W hW => ⟨(hW.cell (p := ⟨gi, t, none⟩) (block_lt_of_cell hce)).trans hce, conv_text W (some ⟨gt, 0, none⟩) b.length capt b rfl (ev2.below hW ev2.lt).rd⟩⟩
    have HBY : Hidden (∀ W, Below wc.heap.size wc W → Calls Tryz.prog 17 #[.pointer (some ⟨h, 0, none⟩)] W fun e w' => ∃ g cap, e = .returned (.slice (some ⟨g, 0, none⟩) b.length cap) ∧ Row w' 5 g cap b ∧ Below wc.heap.size wc w') := ⟨fun W hW => (hbytes_ok _ _ F6 h b (H7.out.1.below hW)).mono fun e w' ⟨g, cap, h1, _, h3, h4⟩ => ⟨g, cap, h1, h3, hW.trans (h4.mono hW.size)⟩⟩
    have HMA : Hidden (∀ W, Below wc.heap.size wc W → Calls Tryz.prog 20 #[.pointer (some ⟨u, 0, none⟩)] W fun e w' => ∃ A c, e = .returned (.slice A t c) ∧ Below W.heap.size W w') := ⟨fun W hW => (umarks_ok (H7.out.1.below hW) (H7.out.2.1.below hW) (by omega)).mono fun e w' ⟨v, S, h1, h2, h3, h4, h5⟩ => by
      obtain ⟨A, c, hv, -⟩ := own_shape h4
      have hS := keys_count h2 (fun k => (h3 k).trans (HI2.out k))
      rw [hS] at hv
      exact ⟨A, c, by rw [h1, hv], h5⟩⟩
    have HBL := Hidden.mk H7.out.1.bel
    have e3 : (b == b) = true := beq_self_eq_true b
    have k0 : (0 : Int) ≤ t := by omega
    have k1 : (t : Int) < (i : Int) + 1 := by omega
    have k1' : (t : Int) < ((i + 1 : Nat) : Int) := by omega
    have xx : ((t : Int) == (t : Int)) = true := beq_self_eq_true _
    clear hce ev1 ev2 ev3 H7
    go_upto_region 19 with (fail)
    refine wp_region_held_drew (S := fun W => W.cell? ⟨gi, t, none⟩ = some (.slice (some ⟨gt, 0, none⟩) b.length capt) ∧ (convert 22 9 (.slice (some ⟨gt, 0, none⟩) b.length capt)).run Tryz.prog W = .ok (sv b) W) (by kernel_rfl) (HSW.out _ (Below.refl _ _).drew) (fun hHeld => ?_)
    refine wpAnyH_take (i := 0) (oi := { dst := some 84, op := Op.move (Operand.tmp 10), type := 25, pos := "law.go:352", after := #[], guard := none }) (v := ?_) rfl (by kernel_rfl) (by kernel_rfl) (by kernel_rfl) (fun _ _ _ h => h) (Or.inl ⟨by rfl, ?_⟩) hHeld ?_
    rotate_left
    · intro w_ hSw
      go_simp
      try with_reducible rfl
    try simp only [Act.put, List.setIfInBounds_toArray, List.set_cons_zero, List.set_cons_succ]
    refine wpAnyH_take (i := 1) (oi := { dst := some 85, op := Op.binOp BinOp.eql 25 (Operand.tmp 84) (Operand.const Value.nilIface) 25, type := 4, pos := "law.go:352", after := #[{ on := 0, ground := Ground.data }], guard := none }) (v := ?_) rfl (by kernel_rfl) (by kernel_rfl) (by kernel_rfl) (fun _ _ _ h => h) (Or.inl ⟨by rfl, ?_⟩) hHeld ?_
    rotate_left
    · intro w_ hSw
      go_simp
      try with_reducible rfl
    try simp only [Act.put, List.setIfInBounds_toArray, List.set_cons_zero, List.set_cons_succ]
    refine wpAnyH_take (i := 2) (oi := { dst := some 86, op := Op.move (Operand.tmp 85), type := 4, pos := "law.go:352", after := #[{ on := 1, ground := Ground.data }], guard := none }) (v := ?_) rfl (by kernel_rfl) (by kernel_rfl) (by kernel_rfl) (fun _ _ _ h => h) (Or.inl ⟨by rfl, ?_⟩) hHeld ?_
    rotate_left
    · intro w_ hSw
      go_simp
      try with_reducible rfl
    try simp only [Act.put, List.setIfInBounds_toArray, List.set_cons_zero, List.set_cons_succ]
    refine wpAnyH_take (i := 3) (oi := { dst := some 87, op := Op.move (Operand.tmp 12), type := 25, pos := "law.go:352", after := #[{ on := 2, ground := Ground.guard }], guard := some (2, true) }) (v := ?_) rfl (by kernel_rfl) (by kernel_rfl) (by kernel_rfl) (fun _ _ _ h => h) (Or.inl ⟨by rfl, ?_⟩) hHeld ?_
    rotate_left
    · intro w_ hSw
      go_simp
      try with_reducible rfl
    try simp only [Act.put, List.setIfInBounds_toArray, List.set_cons_zero, List.set_cons_succ]
    refine wpAnyH_take (i := 4) (oi := { dst := some 88, op := Op.binOp BinOp.eql 25 (Operand.tmp 87) (Operand.const Value.nilIface) 25, type := 4, pos := "law.go:352", after := #[{ on := 3, ground := Ground.data }, { on := 2, ground := Ground.guard }], guard := some (2, true) }) (v := ?_) rfl (by kernel_rfl) (by kernel_rfl) (by kernel_rfl) (fun _ _ _ h => h) (Or.inl ⟨by rfl, ?_⟩) hHeld ?_
    rotate_left
    · intro w_ hSw
      go_simp
      try with_reducible rfl
    try simp only [Act.put, List.setIfInBounds_toArray, List.set_cons_zero, List.set_cons_succ]
    refine wpAnyH_take (i := 5) (oi := { dst := some 89, op := Op.pick (Operand.tmp 86) (Operand.tmp 88) (Operand.const (Value.bool false)), type := 4, pos := "law.go:352", after := #[{ on := 2, ground := Ground.data }, { on := 4, ground := Ground.data }], guard := none }) (v := ?_) rfl (by kernel_rfl) (by kernel_rfl) (by kernel_rfl) (fun _ _ _ h => h) (Or.inl ⟨by rfl, ?_⟩) hHeld ?_
    rotate_left
    · intro w_ hSw
      go_simp
      try with_reducible rfl
    try simp only [Act.put, List.setIfInBounds_toArray, List.set_cons_zero, List.set_cons_succ]
    refine wpAnyH_take (i := 6) (oi := { dst := some 90, op := Op.move (Operand.tmp 89), type := 4, pos := "law.go:352", after := #[{ on := 5, ground := Ground.data }, { on := 2, ground := Ground.chain }], guard := none }) (v := ?_) rfl (by kernel_rfl) (by kernel_rfl) (by kernel_rfl) (fun _ _ _ h => h) (Or.inl ⟨by rfl, ?_⟩) hHeld ?_
    rotate_left
    · intro w_ hSw
      go_simp
      try with_reducible rfl
    try simp only [Act.put, List.setIfInBounds_toArray, List.set_cons_zero, List.set_cons_succ]
    refine wpAnyH_take (i := 7) (oi := { dst := some 91, op := Op.move (Operand.tmp 11), type := 47, pos := "law.go:352", after := #[{ on := 6, ground := Ground.guard }], guard := some (6, true) }) (v := ?_) rfl (by kernel_rfl) (by kernel_rfl) (by kernel_rfl) (fun _ _ _ h => h) (Or.inl ⟨by rfl, ?_⟩) hHeld ?_
    rotate_left
    · intro w_ hSw
      go_simp
      try with_reducible rfl
    try simp only [Act.put, List.setIfInBounds_toArray, List.set_cons_zero, List.set_cons_succ]
    refine wpAnyH_take (i := 8) (oi := { dst := some 92, op := Op.call { callee := Callee.builtin Builtin.len, args := #[Operand.tmp 91], argTypes := #[47] }, type := 3, pos := "law.go:352", after := #[{ on := 7, ground := Ground.data }, { on := 6, ground := Ground.guard }], guard := some (6, true) }) (v := ?_) rfl (by kernel_rfl) (by kernel_rfl) (by kernel_rfl) (fun _ _ _ h => h) (Or.inl ⟨by rfl, ?_⟩) hHeld ?_
    rotate_left
    · intro w_ hSw
      go_simp
      try with_reducible rfl
    try simp only [Act.put, List.setIfInBounds_toArray, List.set_cons_zero, List.set_cons_succ]
    refine wpAnyH_take (i := 9) (oi := { dst := some 93, op := Op.binOp BinOp.eql 3 (Operand.tmp 92) (Operand.const (Value.int IntKind.i64 0)) 3, type := 4, pos := "law.go:352", after := #[{ on := 8, ground := Ground.data }, { on := 6, ground := Ground.guard }], guard := some (6, true) }) (v := ?_) rfl (by kernel_rfl) (by kernel_rfl) (by kernel_rfl) (fun _ _ _ h => h) (Or.inl ⟨by rfl, ?_⟩) hHeld ?_
    rotate_left
    · intro w_ hSw
      go_simp
      try with_reducible rfl
    try simp only [Act.put, List.setIfInBounds_toArray, List.set_cons_zero, List.set_cons_succ]
    refine wpAnyH_take (i := 10) (oi := { dst := some 94, op := Op.pick (Operand.tmp 90) (Operand.tmp 93) (Operand.const (Value.bool false)), type := 4, pos := "law.go:352", after := #[{ on := 6, ground := Ground.data }, { on := 9, ground := Ground.data }], guard := none }) (v := ?_) rfl (by kernel_rfl) (by kernel_rfl) (by kernel_rfl) (fun _ _ _ h => h) (Or.inl ⟨by rfl, ?_⟩) hHeld ?_
    rotate_left
    · intro w_ hSw
      go_simp
      try with_reducible rfl
    try simp only [Act.put, List.setIfInBounds_toArray, List.set_cons_zero, List.set_cons_succ]
    refine wpAnyH_take (i := 11) (oi := { dst := some 95, op := Op.move (Operand.tmp 94), type := 4, pos := "law.go:352", after := #[{ on := 10, ground := Ground.data }, { on := 6, ground := Ground.chain }], guard := none }) (v := ?_) rfl (by kernel_rfl) (by kernel_rfl) (by kernel_rfl) (fun _ _ _ h => h) (Or.inl ⟨by rfl, ?_⟩) hHeld ?_
    rotate_left
    · intro w_ hSw
      go_simp
      try with_reducible rfl
    try simp only [Act.put, List.setIfInBounds_toArray, List.set_cons_zero, List.set_cons_succ]
    refine wpAnyH_take (i := 12) (oi := { dst := some 96, op := Op.move (Operand.tmp 13), type := 25, pos := "law.go:352", after := #[{ on := 11, ground := Ground.guard }], guard := some (11, true) }) (v := ?_) rfl (by kernel_rfl) (by kernel_rfl) (by kernel_rfl) (fun _ _ _ h => h) (Or.inl ⟨by rfl, ?_⟩) hHeld ?_
    rotate_left
    · intro w_ hSw
      go_simp
      try with_reducible rfl
    try simp only [Act.put, List.setIfInBounds_toArray, List.set_cons_zero, List.set_cons_succ]
    refine wpAnyH_take (i := 13) (oi := { dst := some 97, op := Op.binOp BinOp.eql 25 (Operand.tmp 96) (Operand.const Value.nilIface) 25, type := 4, pos := "law.go:352", after := #[{ on := 12, ground := Ground.data }, { on := 11, ground := Ground.guard }], guard := some (11, true) }) (v := ?_) rfl (by kernel_rfl) (by kernel_rfl) (by kernel_rfl) (fun _ _ _ h => h) (Or.inl ⟨by rfl, ?_⟩) hHeld ?_
    rotate_left
    · intro w_ hSw
      go_simp
      try with_reducible rfl
    try simp only [Act.put, List.setIfInBounds_toArray, List.set_cons_zero, List.set_cons_succ]
    refine wpAnyH_take (i := 14) (oi := { dst := some 98, op := Op.pick (Operand.tmp 95) (Operand.tmp 97) (Operand.const (Value.bool false)), type := 4, pos := "law.go:352", after := #[{ on := 11, ground := Ground.data }, { on := 13, ground := Ground.data }], guard := none }) (v := ?_) rfl (by kernel_rfl) (by kernel_rfl) (by kernel_rfl) (fun _ _ _ h => h) (Or.inl ⟨by rfl, ?_⟩) hHeld ?_
    rotate_left
    · intro w_ hSw
      go_simp
      try with_reducible rfl
    try simp only [Act.put, List.setIfInBounds_toArray, List.set_cons_zero, List.set_cons_succ]
    refine wpAnyH_take (i := 15) (oi := { dst := some 99, op := Op.move (Operand.tmp 98), type := 4, pos := "law.go:352", after := #[{ on := 14, ground := Ground.data }, { on := 11, ground := Ground.chain }], guard := none }) (v := ?_) rfl (by kernel_rfl) (by kernel_rfl) (by kernel_rfl) (fun _ _ _ h => h) (Or.inl ⟨by rfl, ?_⟩) hHeld ?_
    rotate_left
    · intro w_ hSw
      go_simp
      try with_reducible rfl
    try simp only [Act.put, List.setIfInBounds_toArray, List.set_cons_zero, List.set_cons_succ]
    refine wpAnyH_take (i := 16) (oi := { dst := some 100, op := Op.move (Operand.tmp 14), type := 4, pos := "law.go:352", after := #[{ on := 15, ground := Ground.guard }], guard := some (15, true) }) (v := ?_) rfl (by kernel_rfl) (by kernel_rfl) (by kernel_rfl) (fun _ _ _ h => h) (Or.inl ⟨by rfl, ?_⟩) hHeld ?_
    rotate_left
    · intro w_ hSw
      go_simp
      try with_reducible rfl
    try simp only [Act.put, List.setIfInBounds_toArray, List.set_cons_zero, List.set_cons_succ]
    refine wpAnyH_take (i := 17) (oi := { dst := some 101, op := Op.unOp UnOp.not 4 (Operand.tmp 100), type := 4, pos := "law.go:352", after := #[{ on := 16, ground := Ground.data }, { on := 15, ground := Ground.guard }], guard := some (15, true) }) (v := ?_) rfl (by kernel_rfl) (by kernel_rfl) (by kernel_rfl) (fun _ _ _ h => h) (Or.inl ⟨by rfl, ?_⟩) hHeld ?_
    rotate_left
    · intro w_ hSw
      go_simp
      try with_reducible rfl
    try simp only [Act.put, List.setIfInBounds_toArray, List.set_cons_zero, List.set_cons_succ]
    refine wpAnyH_take (i := 18) (oi := { dst := some 102, op := Op.pick (Operand.tmp 99) (Operand.tmp 101) (Operand.const (Value.bool false)), type := 4, pos := "law.go:352", after := #[{ on := 15, ground := Ground.data }, { on := 17, ground := Ground.data }], guard := none }) (v := ?_) rfl (by kernel_rfl) (by kernel_rfl) (by kernel_rfl) (fun _ _ _ h => h) (Or.inl ⟨by rfl, ?_⟩) hHeld ?_
    rotate_left
    · intro w_ hSw
      go_simp
      try with_reducible rfl
    try simp only [Act.put, List.setIfInBounds_toArray, List.set_cons_zero, List.set_cons_succ]
    refine wpAnyH_take (i := 19) (oi := { dst := some 103, op := Op.move (Operand.tmp 102), type := 4, pos := "law.go:352", after := #[{ on := 18, ground := Ground.data }, { on := 15, ground := Ground.chain }], guard := none }) (v := ?_) rfl (by kernel_rfl) (by kernel_rfl) (by kernel_rfl) (fun _ _ _ h => h) (Or.inl ⟨by rfl, ?_⟩) hHeld ?_
    rotate_left
    · intro w_ hSw
      go_simp
      try with_reducible rfl
    try simp only [Act.put, List.setIfInBounds_toArray, List.set_cons_zero, List.set_cons_succ]
    refine wpAnyH_take (i := 20) (oi := { dst := some 104, op := Op.move (Operand.tmp 5), type := 23, pos := "law.go:352", after := #[{ on := 19, ground := Ground.guard }], guard := some (19, true) }) (v := ?_) rfl (by kernel_rfl) (by kernel_rfl) (by kernel_rfl) (fun _ _ _ h => h) (Or.inl ⟨by rfl, ?_⟩) hHeld ?_
    rotate_left
    · intro w_ hSw
      go_simp
      try with_reducible rfl
    try simp only [Act.put, List.setIfInBounds_toArray, List.set_cons_zero, List.set_cons_succ]
    refine wpAnyH_take (i := 23) (oi := { dst := some 107, op := Op.move (Operand.tmp 8), type := 44, pos := "law.go:352", after := #[{ on := 19, ground := Ground.guard }], guard := some (19, true) }) (v := ?_) rfl (by kernel_rfl) (by kernel_rfl) (by kernel_rfl) (fun _ _ _ h => h) (Or.inl ⟨by rfl, ?_⟩) hHeld ?_
    rotate_left
    · intro w_ hSw
      go_simp
      try with_reducible rfl
    try simp only [Act.put, List.setIfInBounds_toArray, List.set_cons_zero, List.set_cons_succ]
    refine wpAnyH_take (i := 24) (oi := { dst := some 108, op := Op.move (Operand.tmp 1), type := 3, pos := "law.go:352", after := #[{ on := 19, ground := Ground.guard }], guard := some (19, true) }) (v := ?_) rfl (by kernel_rfl) (by kernel_rfl) (by kernel_rfl) (fun _ _ _ h => h) (Or.inl ⟨by rfl, ?_⟩) hHeld ?_
    rotate_left
    · intro w_ hSw
      go_simp
      try with_reducible rfl
    try simp only [Act.put, List.setIfInBounds_toArray, List.set_cons_zero, List.set_cons_succ]
    refine wpAnyH_take (i := 25) (oi := { dst := some 109, op := Op.indexAddr 44 (Operand.tmp 107) (Operand.tmp 108), type := 0, pos := "law.go:352", after := #[{ on := 23, ground := Ground.data }, { on := 24, ground := Ground.data }, { on := 19, ground := Ground.guard }], guard := some (19, true) }) (v := ?_) rfl (by kernel_rfl) (by kernel_rfl) (by kernel_rfl) (fun _ _ _ h => h) (Or.inl ⟨by rfl, ?_⟩) hHeld ?_
    rotate_left
    · intro w_ hSw
      go_simp
      try with_reducible rfl
    try simp only [Act.put, List.setIfInBounds_toArray, List.set_cons_zero, List.set_cons_succ]
    refine wpAnyH_take (i := 26) (oi := { dst := some 110, op := Op.load 22 (Operand.tmp 109), type := 22, pos := "law.go:352", after := #[{ on := 25, ground := Ground.data }, { on := 19, ground := Ground.guard }], guard := some (19, true) }) (v := ?_) rfl (by kernel_rfl) (by kernel_rfl) (by kernel_rfl) (fun _ _ _ h => h) (Or.inl ⟨by rfl, ?_⟩) hHeld ?_
    rotate_left
    · intro w_ hSw
      go_simp
      try with_reducible rfl
    try simp only [Act.put, List.setIfInBounds_toArray, List.set_cons_zero, List.set_cons_succ]
    refine wpAnyH_take (i := 27) (oi := { dst := some 111, op := Op.convert 22 9 (Operand.tmp 110), type := 9, pos := "law.go:352", after := #[{ on := 26, ground := Ground.data }, { on := 19, ground := Ground.guard }], guard := some (19, true) }) (v := ?_) rfl (by kernel_rfl) (by kernel_rfl) (by kernel_rfl) (fun _ _ _ h => h) (Or.inl ⟨by rfl, ?_⟩) hHeld ?_
    rotate_left
    · intro w_ hSw
      go_simp
      try with_reducible rfl
    try simp only [Act.put, List.setIfInBounds_toArray, List.set_cons_zero, List.set_cons_succ]
    refine wpAnyH_ready (rs := [21]) (by kernel_rfl) (by simp) ?_
    refine AllReadyH.cons (o := { dst := some 105, op := Op.call { callee := Callee.value (Operand.func 17), args := #[Operand.tmp 104], argTypes := #[23] }, type := 22, pos := "law.go:352", after := #[{ on := 20, ground := Ground.data }, { on := 19, ground := Ground.chain }, { on := 19, ground := Ground.guard }], guard := some (19, true) }) rfl (fun K hK => ?_) AllReadyH.nil
    rw [if_pos (by rfl)]
    go_simp
    go_at_call 17
    refine (HBY.out _ ((Below.refl _ _).drew)).mono ?_
    rintro e w9 ⟨g9, cap9, rfl, hrow9, hB9⟩
    have e1 := conv_text w9 (some ⟨g9, 0, none⟩) b.length cap9 b rfl hrow9.rd
    dsimp only
    refine hK.out _ _ (by first | exact HSW.out _ (hB9.trans (hb10.mono hB9.size)) | exact HSW.out _ hB9) (fun hHeld => ?_)
    clear hK K
    try simp only [Act.put, List.setIfInBounds_toArray, List.set_cons_zero, List.set_cons_succ]
    refine wpAnyH_ready (rs := [22]) (by kernel_rfl) (by simp) ?_
    refine AllReadyH.cons (o := { dst := some 106, op := Op.convert 22 9 (Operand.tmp 105), type := 9, pos := "law.go:352", after := #[{ on := 21, ground := Ground.data }, { on := 19, ground := Ground.guard }], guard := some (19, true) }) rfl (fun K hK => ?_) AllReadyH.nil
    rw [if_pos (by rfl)]
    go_simp
    refine hK.out _ _ hHeld (fun hHeld => ?_)
    clear hK K
    try simp only [Act.put, List.setIfInBounds_toArray, List.set_cons_zero, List.set_cons_succ]
    refine wpAnyH_take (i := 28) (oi := { dst := some 112, op := Op.binOp BinOp.eql 9 (Operand.tmp 106) (Operand.tmp 111) 9, type := 4, pos := "law.go:352", after := #[{ on := 22, ground := Ground.data }, { on := 27, ground := Ground.data }, { on := 19, ground := Ground.guard }], guard := some (19, true) }) (v := ?_) rfl (by kernel_rfl) (by kernel_rfl) (by kernel_rfl) (fun _ _ _ h => h) (Or.inl ⟨by rfl, ?_⟩) hHeld ?_
    rotate_left
    · intro w_ hSw
      go_simp
      try with_reducible rfl
    try simp only [Act.put, List.setIfInBounds_toArray, List.set_cons_zero, List.set_cons_succ]
    refine wpAnyH_take (i := 29) (oi := { dst := some 113, op := Op.pick (Operand.tmp 103) (Operand.tmp 112) (Operand.const (Value.bool false)), type := 4, pos := "law.go:352", after := #[{ on := 19, ground := Ground.data }, { on := 28, ground := Ground.data }], guard := none }) (v := ?_) rfl (by kernel_rfl) (by kernel_rfl) (by kernel_rfl) (fun _ _ _ h => h) (Or.inl ⟨by rfl, ?_⟩) hHeld ?_
    rotate_left
    · intro w_ hSw
      go_simp
      try with_reducible rfl
    try simp only [Act.put, List.setIfInBounds_toArray, List.set_cons_zero, List.set_cons_succ]
    refine wpAnyH_take (i := 30) (oi := { dst := some 114, op := Op.move (Operand.tmp 113), type := 4, pos := "law.go:352", after := #[{ on := 29, ground := Ground.data }, { on := 21, ground := Ground.chain }], guard := none }) (v := ?_) rfl (by kernel_rfl) (by kernel_rfl) (by kernel_rfl) (fun _ _ _ h => h) (Or.inl ⟨by rfl, ?_⟩) hHeld ?_
    rotate_left
    · intro w_ hSw
      go_simp
      try with_reducible rfl
    try simp only [Act.put, List.setIfInBounds_toArray, List.set_cons_zero, List.set_cons_succ]
    refine wpAnyH_take (i := 31) (oi := { dst := some 115, op := Op.move (Operand.tmp 7), type := 42, pos := "law.go:352", after := #[{ on := 30, ground := Ground.guard }], guard := some (30, true) }) (v := ?_) rfl (by kernel_rfl) (by kernel_rfl) (by kernel_rfl) (fun _ _ _ h => h) (Or.inl ⟨by rfl, ?_⟩) hHeld ?_
    rotate_left
    · intro w_ hSw
      go_simp
      try with_reducible rfl
    try simp only [Act.put, List.setIfInBounds_toArray, List.set_cons_zero, List.set_cons_succ]
    refine wpAnyH_take (i := 34) (oi := { dst := some 118, op := Op.move (Operand.tmp 1), type := 3, pos := "law.go:352", after := #[{ on := 30, ground := Ground.guard }], guard := some (30, true) }) (v := ?_) rfl (by kernel_rfl) (by kernel_rfl) (by kernel_rfl) (fun _ _ _ h => h) (Or.inl ⟨by rfl, ?_⟩) hHeld ?_
    rotate_left
    · intro w_ hSw
      go_simp
      try with_reducible rfl
    try simp only [Act.put, List.setIfInBounds_toArray, List.set_cons_zero, List.set_cons_succ]
    refine wpAnyH_ready (rs := [32]) (by kernel_rfl) (by simp) ?_
    refine AllReadyH.cons (o := { dst := some 116, op := Op.call { callee := Callee.value (Operand.func 20), args := #[Operand.tmp 115], argTypes := #[42] }, type := 41, pos := "law.go:352", after := #[{ on := 31, ground := Ground.data }, { on := 30, ground := Ground.chain }, { on := 30, ground := Ground.guard }], guard := some (30, true) }) rfl (fun K hK => ?_) AllReadyH.nil
    rw [if_pos (by rfl)]
    go_simp
    go_at_call 20
    refine (HMA.out _ hB9).mono ?_
    rintro e w10 ⟨A10, c10, rfl, hb10⟩
    dsimp only
    refine hK.out _ _ (by first | exact HSW.out _ (hB9.trans (hb10.mono hB9.size)) | exact HSW.out _ hB9) (fun hHeld => ?_)
    clear hK K
    try simp only [Act.put, List.setIfInBounds_toArray, List.set_cons_zero, List.set_cons_succ]
    refine wpAnyH_take (i := 33) (oi := { dst := some 117, op := Op.call { callee := Callee.builtin Builtin.len, args := #[Operand.tmp 116], argTypes := #[41] }, type := 3, pos := "law.go:352", after := #[{ on := 32, ground := Ground.data }, { on := 30, ground := Ground.guard }], guard := some (30, true) }) (v := ?_) rfl (by kernel_rfl) (by kernel_rfl) (by kernel_rfl) (fun _ _ _ h => h) (Or.inl ⟨by rfl, ?_⟩) hHeld ?_
    rotate_left
    · intro w_ hSw
      go_simp
      try with_reducible rfl
    try simp only [Act.put, List.setIfInBounds_toArray, List.set_cons_zero, List.set_cons_succ]
    refine wpAnyH_take (i := 35) (oi := { dst := some 119, op := Op.binOp BinOp.eql 3 (Operand.tmp 117) (Operand.tmp 118) 3, type := 4, pos := "law.go:352", after := #[{ on := 33, ground := Ground.data }, { on := 34, ground := Ground.data }, { on := 30, ground := Ground.guard }], guard := some (30, true) }) (v := ?_) rfl (by kernel_rfl) (by kernel_rfl) (by kernel_rfl) (fun _ _ _ h => h) (Or.inl ⟨by rfl, ?_⟩) hHeld ?_
    rotate_left
    · intro w_ hSw
      go_simp
      try with_reducible rfl
    try simp only [Act.put, List.setIfInBounds_toArray, List.set_cons_zero, List.set_cons_succ]
    refine wpAnyH_take (i := 36) (oi := { dst := some 120, op := Op.pick (Operand.tmp 114) (Operand.tmp 119) (Operand.const (Value.bool false)), type := 4, pos := "law.go:352", after := #[{ on := 30, ground := Ground.data }, { on := 35, ground := Ground.data }], guard := none }) (v := ?_) rfl (by kernel_rfl) (by kernel_rfl) (by kernel_rfl) (fun _ _ _ h => h) (Or.inl ⟨by rfl, ?_⟩) hHeld ?_
    rotate_left
    · intro w_ hSw
      go_simp
      try with_reducible rfl
    try simp only [Act.put, List.setIfInBounds_toArray, List.set_cons_zero, List.set_cons_succ]
    refine wpAnyH_take (i := 37) (oi := { dst := some 4, op := Go.Op.assign (Go.Operand.tmp 120), type := 4, pos := "law.go:352", after := #[{ on := 36, ground := Go.Ground.data }, { on := 32, ground := Go.Ground.chain }, { on := 0, ground := Go.Ground.phase }, { on := 1, ground := Go.Ground.phase }, { on := 2, ground := Go.Ground.phase }, { on := 3, ground := Go.Ground.phase }, { on := 4, ground := Go.Ground.phase }, { on := 5, ground := Go.Ground.phase }, { on := 6, ground := Go.Ground.phase }, { on := 7, ground := Go.Ground.phase }, { on := 8, ground := Go.Ground.phase }, { on := 9, ground := Go.Ground.phase }, { on := 10, ground := Go.Ground.phase }, { on := 11, ground := Go.Ground.phase }, { on := 12, ground := Go.Ground.phase }, { on := 13, ground := Go.Ground.phase }, { on := 14, ground := Go.Ground.phase }, { on := 15, ground := Go.Ground.phase }, { on := 16, ground := Go.Ground.phase }, { on := 17, ground := Go.Ground.phase }, { on := 18, ground := Go.Ground.phase }, { on := 19, ground := Go.Ground.phase }, { on := 20, ground := Go.Ground.phase }, { on := 21, ground := Go.Ground.phase }, { on := 22, ground := Go.Ground.phase }, { on := 23, ground := Go.Ground.phase }, { on := 24, ground := Go.Ground.phase }, { on := 25, ground := Go.Ground.phase }, { on := 26, ground := Go.Ground.phase }, { on := 27, ground := Go.Ground.phase }, { on := 28, ground := Go.Ground.phase }, { on := 29, ground := Go.Ground.phase }, { on := 30, ground := Go.Ground.phase }, { on := 31, ground := Go.Ground.phase }, { on := 32, ground := Go.Ground.phase }, { on := 33, ground := Go.Ground.phase }, { on := 34, ground := Go.Ground.phase }, { on := 35, ground := Go.Ground.phase }, { on := 36, ground := Go.Ground.phase }], guard := none }) (v := ?_) rfl (by kernel_rfl) (by kernel_rfl) (by kernel_rfl) (fun _ _ _ h => h) (Or.inl ⟨by rfl, ?_⟩) hHeld ?_
    rotate_left
    · intro w_ hSw
      go_simp
      try with_reducible rfl
    try simp only [Act.put, List.setIfInBounds_toArray, List.set_cons_zero, List.set_cons_succ]
    refine wpAnyH_done (by kernel_rfl) ?_ _
    have HF := Hidden.mk (HBL.out.trans ((hB9.trans (hb10.mono hB9.size)).mono HBL.out.size))
    clear hrow9 hB9 hb10 HSW HBY HMA
    go_wp2_with fail
    go_ret
    exact ⟨rfl, HF.out⟩
  · have hno : Ik (imgI img i) to_ = none := by
      unfold Ik imgI
      by_cases hn : to_ < 0
      · rw [if_pos hn]
      · rw [if_neg hn, if_neg (by omega)]
    have HBK := Hidden.mk (uback_no to_ HS.out.hp HS.out.ud t0 t1 hno)
    have HP := Hidden.mk HS.out.hp
    clear hno HS
    go_wp2_with fail
    refine HBK.out.mono ?_
    rintro e w4 ⟨rfl, hb4⟩
    have HP4 := Hidden.mk (HP.out.below hb4)
    have HERR := Hidden.mk (err_some 5 5 w4 (HG.out.below HG.out.lt HP4.out.bel))
    rw [beq_self_eq_true] at HERR
    clear hb4 HBK HP
    by_cases h1 : to_ < 1
    · have d0 : decide (to_ < 1) = true := by simpa using h1
      clear h1 hin
      go_wp2_with fail
      refine HERR.out.mono ?_
      rintro e w5 ⟨rfl, hb5⟩
      have HF := Hidden.mk (HP4.out.below hb5).bel
      clear hb5 HERR HP4
      go_wp2_with fail
      go_ret
      exact ⟨rfl, HF.out⟩
    · have d0 : decide (to_ < 1) = false := by simpa using h1
      have d1 : decide (((i : Int) + 1) ≤ to_) = true := by simp; omega
      have d1' : decide (((i + 1 : Nat) : Int) ≤ to_) = true := by simp; omega
      clear h1 hin
      go_wp2_with fail
      refine HERR.out.mono ?_
      rintro e w5 ⟨rfl, hb5⟩
      have HF := Hidden.mk (HP4.out.below hb5).bel
      clear hb5 HERR HP4
      go_wp2_with fail
      go_ret
      exact ⟨rfl, HF.out⟩
end Go.Proofs.YtnceheienlekaaaGreatDoor
