/- Contracts and plain laws, put together: UndoBack2. -/
import Derived.Test.YtijcclpnkfmpnaaGreatUndoBackFrameM5
import Derived.Test.YtijcclpnkfmpnaaGreatUndoBackFrameM6
import Derived.BigQuiet
/- UndoBack: the walk. -/
namespace Go.Proofs.YtijcclpnkfmpnaaGreat
open Go.RowKit Go.Maps Go.ChangeMaps Go.Shelf

def Six (w : World) (a : Nat) (v0 v1 v2 v3 v4 v5 : Value) : Prop := w.cell? ⟨a, 0, none⟩ = some v0 ∧ w.cell? ⟨a, 1, none⟩ = some v1 ∧ w.cell? ⟨a, 2, none⟩ = some v2 ∧ w.cell? ⟨a, 3, none⟩ = some v3 ∧ w.cell? ⟨a, 4, none⟩ = some v4 ∧ w.cell? ⟨a, 5, none⟩ = some v5
theorem six_cells (w : World) (v0 v1 v2 v3 v4 v5 : Value) (T : TypeId) : Six (w.alloc (.cells #[v0, v1, v2, v3, v4, v5] T)) w.heap.size v0 v1 v2 v3 v4 v5 := by
  unfold Six
  simp only [World.cell?]
  rw [heap_alloc_new w _]
  exact ⟨rfl, rfl, rfl, rfl, rfl, rfl⟩
theorem six_kept {w0 w w' : World} {F F' : Nat → Prop} {h a : Nat} {l : Bytes} {v0 v1 v2 v3 v4 v5 : Value} (hs : Six w a v0 v1 v2 v3 v4 v5) (hn : ¬ F a ∧ a < w.heap.size) (hm : HpM w0 w w' F F' h l) : Six w' a v0 v1 v2 v3 v4 v5 := by
  unfold Six at hs ⊢
  simp only [World.cell?] at hs ⊢
  rw [hm.kp.block a hn.2 hn.1]
  exact hs
/-- what holds at each round -/
structure UbR (w wr : World) (F : Nat → Prop) (u h mb last : Nat) (l : Bytes) (I : Nat → Option Bytes) (img : Nat → Bytes) (gi : Nat) (M : List Nat) (mv : Value) : Prop where
  st : UbSt w wr F u h mb last l I img gi M mv
  ml : MkL I M
  ln : M.length ≤ last
theorem toldL_le (D : List Chg) (j : Nat) : toldL (D.take j) ≤ toldL D := by
  have : toldL D = toldL (D.take j) + toldL (D.drop j) := by
    unfold toldL; rw [← List.sum_append, ← List.map_append, List.take_append_drop]
  omega
theorem UbR.below {w wr wr' : World} {F : Nat → Prop} {u h mb last gi : Nat} {l : Bytes} {I : Nat → Option Bytes} {img : Nat → Bytes} {M : List Nat} {mv : Value} (hs : UbR w wr F u h mb last l I img gi M mv) (hb : Below wr.heap.size wr wr') : UbR w wr' F u h mb last l I img gi M mv := ⟨hs.st.below hb, hs.ml, hs.ln⟩
theorem map_ncell (M : List Nat) : (M.map fun i : Nat => (Value.int .i64 (i : Int))) = M.flatMap ncell := by
  induction M with
  | nil => rfl
  | cons x M ih => rw [List.map_cons, List.flatMap_cons, ih]; rfl
theorem UbR.marks {w wr : World} {F : Nat → Prop} {u h mb last gi : Nat} {l : Bytes} {I : Nat → Option Bytes} {img : Nat → Bytes} {M : List Nat} {mv : Value} (hs : UbR w wr F u h mb last l I img gi M mv) (hl : last ≤ 1000) :
    Calls Tryz.prog 20 #[.pointer (some ⟨u, 0, none⟩)] wr fun e w' => ∃ A c, e = .returned (.slice A M.length c) ∧ RdX ncell 1 w' A M ∧ Below wr.heap.size wr w' :=
  (umarks_ok hs.st.hp hs.st.ud hl).mono fun e w' ⟨v, S, h1, h2, h3, h4, h5⟩ => by
    have hS := hs.ml.eq h2 h3
    rw [hS, map_ncell] at h4
    obtain ⟨A, c, rfl, -, -⟩ := own_split h4
    exact ⟨A, c, h1, own_rdX3 (f := ncell) (fun _ => rfl) rfl h4, h5⟩
set_option maxRecDepth 100000 in
set_option maxHeartbeats 4000000 in
theorem undoBack_walk (A : Option Addr) (n c : Nat) (b : Bytes) (OA : Option Addr) (oc : Nat) (L : List OpX) (BA : Option Addr) (bc : Nat) (Z : List Int) (w : World) (hn : b.length = n) (hnc : n ≤ c) (hrd : Rd w A b) (hL : RdX ocells 6 w OA L) (hLo : ∀ x ∈ L, OpOk w x) (hZ : RdX icell 1 w BA Z) (hzb : ∀ z ∈ Z, -9223372036854775808 ≤ z ∧ z ≤ 9223372036854775807) :
    Calls Tryz.prog 3 #[.slice A n c, .slice OA L.length oc, .slice BA Z.length bc] w fun e w' => e = .returned (.bool true) ∧ Below w.heap.size w w' := by
  have HLD := Hidden.mk (loaded_ok A n c b w hn hnc hrd)
  have HGD := Hidden.mk (loadL_good b)
  have HL := Hidden.mk (And.intro hL (And.intro hLo (And.intro hZ hzb)))
  obtain ⟨i0', hi0, hz0, hz1, hz2⟩ := info_parts int_infoC
  have HI := Hidden.mk (And.intro hi0 (And.intro hz0 (And.intro hz1 hz2)))
  have hms := mk_imgs 100 (by decide)
  rw [show ((100 : Nat) : Int) = 100 from rfl] at hms
  generalize loadL b = l0 at *
  clear hn hnc hrd hL hLo hZ hzb hi0 hz0 hz1 hz2
  go_enter Tryz.func3, Tryz.ntmps3
  go_wp2_with fail
  refine HLD.out.mono ?_
  rintro e w1 ⟨h, F1, p, off, c', rfl, -, hp1, -, -⟩
  have HU := Hidden.mk (unew_ok hp1)
  clear hp1 HLD
  go_wp2_with fail
  refine HU.out.mono ?_
  rintro e w2 ⟨u, mb, rfl, hu2, hp2⟩
  have HM := Hidden.mk (umark_ok hp2 hu2 (by omega))
  rw [show ((0 + 1 : Nat) : Int) = 1 from rfl] at HM
  clear hp2 hu2 HU
  go_wp2_with fail
  refine HM.out.mono ?_
  rintro e w3 ⟨rfl, hu3, hp3, -⟩
  have HBN := Hidden.mk (uback_no 2 hp3 hu3 (by omega) (by omega) (by unfold Ik markI; simp))
  have H3 := Hidden.mk (And.intro hp3 hu3)
  clear hp3 hu3 HM
  go_wp2_with fail
  refine HBN.out.mono ?_
  rintro e w4 ⟨rfl, hb4⟩
  have H4 := Hidden.mk (And.intro (H3.out.1.below hb4) (H3.out.2.below hb4))
  clear hb4 HBN H3
  have hal4 := (Below.refl w4.heap.size w4).alloc (Nat.le_refl _) (.cells (Array.replicate 100 (.slice none 0 0)) 22)
  have H5 : Hidden (Hp w (w4.alloc (.cells (Array.replicate 100 (.slice none 0 0)) 22)) F1 h l0 ∧ UdH w (w4.alloc (.cells (Array.replicate 100 (.slice none 0 0)) 22)) F1 u h mb (0 + 1) (markI (fun _ => none) (0 + 1) l0) ∧ UbI w (w4.alloc (.cells (Array.replicate 100 (.slice none 0 0)) 22)) F1 w4.heap.size 0 (fun _ => [])) :=
    ⟨H4.out.1.below hal4, H4.out.2.below hal4, UbI.made H4.out.1.bel.size H4.out.1.flt _⟩
  have HBY := Hidden.mk (hbytes_ok _ _ F1 h l0 H5.out.1)
  clear hal4
  go_upto_region 9 with (fail)
  clear hms
  generalize w4.alloc (.cells (Array.replicate 100 (.slice none 0 0)) 22) = w5 at *
  generalize w4.heap.size = gi at *
  clear H4
  go_wp2_with fail
  refine HBY.out.mono ?_
  rintro e w6 ⟨g6, cap6, rfl, hg6, hrow6, hb6⟩
  have hib6 : UbI w w6 F1 gi 0 (fun _ => []) := H5.out.2.2.keep (fun k _ _ h1 _ _ => hb6.block k (Array.getElem?_eq_some_iff.1 h1).1) (fun _ h => .inl h)
  have hfr6 : w6.frozen? ⟨gi, 1, none⟩ = false := by
    obtain ⟨cur, h0, -⟩ := hib6.blk
    exact frozen_of_row _ _ 1 _ _ h0
  obtain ⟨vc, hvc⟩ : ∃ v, w6.cell? ⟨gi, 1, none⟩ = some v := by
    obtain ⟨cur, h0, h1, -⟩ := hib6.blk
    exact ⟨cur[1]'(by omega), by simp only [World.cell?]; rw [h0]; simp⟩
  have hs7 := UbSt.mark0 (mv := .slice none 0 0) (M := []) HGD.out (fun k b e => by cases e) hib6 (World.ownsRow_nil _ _ _ _) (fun q hq => by cases hq) (H5.out.1.below hb6) (H5.out.2.1.below hb6) hrow6 (fun hk => by have := H5.out.1.flt _ hk; omega) (by omega)
  have HS7 := Hidden.mk hs7
  rw [Nat.zero_add] at HS7
  clear hib6 hs7 hrow6 hb6 hg6 HBY H5
  go_upto_region 10 with (fail)
  generalize w6.setCell ⟨gi, 1, none⟩ (.slice (some ⟨g6, 0, none⟩) l0.length cap6) = w7 at *
  clear hfr6 hvc
  obtain ⟨hi0, hz0, hz1, hz2⟩ := HI.out
  have hB7 := HS7.out.hp.bel
  go_wp2_with (at_builtin; refine wpList_append_lies _ rfl (.tmp 54) (.tmp 55) _ rfl w.heap.size 3 i0' _ 1 8 Tryz.underlying24 hi0 hz0 hz1 hz2 rfl (by decide) (.slice none 0 0) 0 [] rfl (own_below (World.ownsRow_nil _ _ _ _) ((Below.refl _ _).alloc (Nat.le_refl _) _)) ⟨(w7).heap.size, 0, none⟩ 1 1 [.int .i64 1] rfl rfl (World.news_of_block (cs := #[.int .i64 1]) (t := 3) (fr := (0, 0)) (heap_alloc_new (w7) _)) (by simp [Value.oneCell']) (by omega) (by simp only [maxLen]; omega) (by omega) (by have hz_ := hB7.size; rw [World.size_alloc]; omega) ((w7).heap.size + 1) (by simp) ?_; intro g8 cap8 w8 hown8 hg8 hat8 hlt8)
  have hgW := grown_trans' ((Below.refl w7.heap.size w7).alloc (Nat.le_refl _) _) hg8
  have HST : Hidden (UbR w w8 F1 u h mb 1 l0 (markI (fun _ => none) 1 l0) (fun k => if k = 1 then l0 else []) gi [1] (.slice (some ⟨g8, 0, none⟩) (0 + 1) cap8)) := ⟨HS7.out.app hgW (by simpa [ncell] using hown8) (fun q hq hf => by
    obtain rfl : g8 = q := by simpa [Value.ownBlock] using hq
    rcases hat8 with h' | h'
    · cases h'
    · have := HS7.out.hp.flt _ hf; omega), mark_L (M := []) (last := 0) ⟨List.Pairwise.nil, fun k => by simp⟩ (fun k hk => absurd rfl hk), by simp⟩
  clear hgW hown8 hg8 hat8 hlt8 hi0 hz0 hz1 hz2 hB7 HS7 HGD
  go_loopg [12, 13, 14] 30 (fun q s12 mv s14 wr => ∃ (i last : Nat) (F : Nat → Prop) (l : Bytes) (I : Nat → Option Bytes) (img : Nat → Bytes) (M : List Nat), i ≤ 30 ∧ i ≤ L.length ∧ q = 30 - i ∧ s14 = .int .i64 (i : Int) ∧ s12 = .int .i64 (last : Int) ∧ last ≤ i + 1 ∧ Hidden (UbR w wr F u h mb last l I img gi M mv))
  case atStart => exact ⟨0, 1, F1, l0, _, _, [1], by omega, by omega, rfl, rfl, rfl, by omega, HST⟩
  case round =>
    obtain ⟨i, last, F, l, I, img, M, hi, hiL, rfl, rfl, rfl, hla, hst⟩ := hrel
    have HS := Hidden.mk hst.out
    clear hst HST
    obtain ⟨Am, cm, rfl, -, -⟩ := own_split HS.out.st.mo
    by_cases hlt : i < L.length
    · by_cases h30 : i < 30
      · have d0 : decide ((i : Int) < L.length) = true := decide_eq_true (by omega)
        have d1 : decide ((i : Int) < 30) = true := decide_eq_true (by omega)
        have i0 : (0 : Int) ≤ i := by omega
        have i1 : (i : Int) < L.length := by omega
        have HB := Hidden.mk HS.out.st.hp.bel
        obtain ⟨pp, oo, rfl, hcx⟩ := HL.out.1.below HB.out i hlt
        have HOK := Hidden.mk ((HL.out.2.1 L[i] (List.getElem_mem hlt)).below HB.out)
        have x0 := hcx 0 _ rfl
        have x1 := hcx 1 _ rfl
        have x2 := hcx 2 _ rfl
        have x3 := hcx 3 _ rfl
        have x4 := hcx 4 _ rfl
        have x5 := hcx 5 _ rfl
        rw [Nat.add_zero] at x0
        generalize L[i] = x at *
        obtain ⟨wt, hd, at_, ln, nm, bA, bcap, bd⟩ := x
        dsimp only at x0 x1 x2 x3 x4 x5
        clear hcx
        go_upto_block 2 with (fail)
        have hal := (Below.refl wr.heap.size wr).alloc (Nat.le_refl _) (.cells #[.int .i64 wt, .int .i64 hd, .int .i64 at_, .int .i64 ln, sv nm, .slice bA bd.length bcap] 37)
        have HO := Hidden.mk (six_cells wr (.int .i64 wt) (.int .i64 hd) (.int .i64 at_) (.int .i64 ln) (sv nm) (.slice bA bd.length bcap) 37)
        have HS2 : Hidden (UbR w _ F u h mb last l I img gi M (.slice Am M.length cm)) := ⟨⟨HS.out.st.below hal, HS.out.ml, HS.out.ln⟩⟩
        have HOK1 := Hidden.mk (HOK.out.below hal)
        have HLT : Hidden (wr.heap.size < (wr.alloc (.cells #[.int .i64 wt, .int .i64 hd, .int .i64 at_, .int .i64 ln, sv nm, .slice bA bd.length bcap] 37)).heap.size) := ⟨by simp⟩
        generalize wr.alloc (.cells #[.int .i64 wt, .int .i64 hd, .int .i64 at_, .int .i64 ln, sv nm, .slice bA bd.length bcap] 37) = wo at *
        have HNF : Hidden (¬ F wr.heap.size ∧ wr.heap.size < wo.heap.size) := ⟨fun hk => by have := HS.out.st.hp.flt _ hk; omega, HLT.out⟩
        generalize wr.heap.size = av at *
        clear HLT hal HS HOK HB x0 x1 x2 x3 x4 x5
        go_cut [12, 13] (fun s12 s13 wx => ∃ (last : Nat) (F : Nat → Prop) (l : Bytes) (I : Nat → Option Bytes) (img : Nat → Bytes) (M : List Nat), s12 = .int .i64 (last : Int) ∧ last ≤ i + 2 ∧ Hidden (UbR w wx F u h mb last l I img gi M s13))
        case first =>
          have hdr := (Below.refl wo.heap.size wo).drew
          have HD : Hidden (UbR w wo.drew F u h mb last l I img gi M (.slice Am M.length cm)) := ⟨⟨HS2.out.st.below hdr, HS2.out.ml, HS2.out.ln⟩⟩
          have HOK2 := Hidden.mk (HOK1.out.below hdr)
          have HOD : Hidden (Six wo.drew av (.int .i64 wt) (.int .i64 hd) (.int .i64 at_) (.int .i64 ln) (sv nm) (.slice bA bd.length bcap)) := ⟨HO.out⟩
          have HN : Hidden (¬ F av ∧ av < wo.drew.heap.size) := ⟨HNF.out⟩
          have HH := Hidden.mk (uheap_ok HD.out.st.ud)
          clear hdr HOK1 HNF
          by_cases e1 : wt = 1
          · skip
            as_aux_lemma =>
            subst e1
            have HC := Hidden.mk (halloc_any ln at_ HD.out.st.hp)
            have HR := Hidden.mk (stepR_alloc HD.out.st.good ln at_)
            clear HOK2
            generalize allocL l ln at_ = l' at *
            generalize allocH l ln at_ = ah at *
            generalize errV (allocE l ln at_) = ev at *
            go_upto_region 25 with (fail)
            go_region_held3 (fun W => W.cell? ⟨av, 3, none⟩ = some (.int .i64 ln) ∧ W.cell? ⟨av, 2, none⟩ = some (.int .i64 at_)) (first | exact ⟨HO.out.2.2.2.1, HO.out.2.2.1⟩ | exact ⟨hO9.2.2.2.1, hO9.2.2.1⟩)
              (first
                | (go_at_call 11; refine HH.out.mono ?_; rintro e wq ⟨rfl, rfl⟩)
                | (go_at_call 12; refine HC.out.mono ?_; rintro e w9 ⟨rfl, F9, hm9⟩; have hO9 := six_kept HOD.out HN.out hm9))
            have HF := Hidden.mk (UbR.mk (HD.out.st.moved hm9 HR.out) HD.out.ml HD.out.ln)
            clear HD HH HC HR HO HOD HN hm9 hO9
            go_wp2_with fail
            go_meet
            exact ⟨last, _, _, I, img, M, rfl, by omega, HF⟩
          by_cases e2 : wt = 2
          · skip
            as_aux_lemma =>
            subst e2
            have HC := Hidden.mk (hfree_any hd HD.out.st.hp)
            have HR := Hidden.mk (stepR_free HD.out.st.good hd)
            clear HOK2
            generalize freeL l hd = l' at *
            generalize errV (freeE l hd) = ev at *
            go_upto_region 27 with (fail)
            go_region_held3 (fun W => W.cell? ⟨av, 1, none⟩ = some (.int .i64 hd)) (first | exact HO.out.2.1 | exact hO9.2.1)
              (first
                | (go_at_call 11; refine HH.out.mono ?_; rintro e wq ⟨rfl, rfl⟩)
                | (go_at_call 13; refine HC.out.mono ?_; rintro e w9 ⟨rfl, F9, hm9⟩; have hO9 := six_kept HOD.out HN.out hm9))
            have HF := Hidden.mk (UbR.mk (HD.out.st.moved hm9 HR.out) HD.out.ml HD.out.ln)
            clear HD HH HC HR HO HOD HN hm9 hO9
            go_wp2_with fail
            go_meet
            exact ⟨last, _, _, I, img, M, rfl, by omega, HF⟩
          by_cases e3 : wt = 3
          · skip
            as_aux_lemma =>
            subst e3
            have HC := Hidden.mk (hwrite_any hd at_ bA bd.length bcap bd HD.out.st.hp HD.out.st.good rfl (Nat.le_trans HOK2.out.cap HOK2.out.le) HOK2.out.rd)
            have HR := Hidden.mk (stepR_write HD.out.st.good hd at_ bd)
            clear HOK2
            generalize writeL l hd at_ bd = l' at *
            generalize errV (someE l hd at_ bd.length) = ev at *
            go_upto_region 29 with (fail)
            go_region_held3 (fun W => W.cell? ⟨av, 1, none⟩ = some (.int .i64 hd) ∧ W.cell? ⟨av, 2, none⟩ = some (.int .i64 at_) ∧ W.cell? ⟨av, 5, none⟩ = some (.slice bA bd.length bcap)) (first | exact ⟨HO.out.2.1, HO.out.2.2.1, HO.out.2.2.2.2.2⟩ | exact ⟨hO9.2.1, hO9.2.2.1, hO9.2.2.2.2.2⟩)
              (first
                | (go_at_call 11; refine HH.out.mono ?_; rintro e wq ⟨rfl, rfl⟩)
                | (go_at_call 14; refine HC.out.mono ?_; rintro e w9 ⟨rfl, hm9⟩; have hO9 := six_kept HOD.out HN.out hm9))
            have HF := Hidden.mk (UbR.mk (HD.out.st.moved hm9 HR.out) HD.out.ml HD.out.ln)
            clear HD HH HC HR HO HOD HN hm9 hO9
            go_wp2_with fail
            go_meet
            exact ⟨last, _, _, I, img, M, rfl, by omega, HF⟩
          by_cases e4 : wt = 4
          · skip
            as_aux_lemma =>
            subst e4
            have HC := Hidden.mk (rset_any nm hd HD.out.st.hp HD.out.st.good HOK2.out.name)
            have HR := Hidden.mk (stepR_set HD.out.st.good nm hd)
            clear HOK2
            generalize setL l nm hd = l' at *
            generalize decide (setE l nm hd = 0 ∧ (placeF l nm 8).1 < 0) = ah at *
            generalize errV (setE l nm hd) = ev at *
            go_upto_region 31 with (fail)
            go_region_held3 (fun W => W.cell? ⟨av, 4, none⟩ = some (sv nm) ∧ W.cell? ⟨av, 1, none⟩ = some (.int .i64 hd)) (first | exact ⟨HO.out.2.2.2.2.1, HO.out.2.1⟩ | exact ⟨hO9.2.2.2.2.1, hO9.2.1⟩)
              (first
                | (go_at_call 11; refine HH.out.mono ?_; rintro e wq ⟨rfl, rfl⟩)
                | (go_at_call 15; refine HC.out.mono ?_; rintro e w9 ⟨rfl, F9, hm9⟩; have hO9 := six_kept HOD.out HN.out hm9))
            have HF := Hidden.mk (UbR.mk (HD.out.st.moved hm9 HR.out) HD.out.ml HD.out.ln)
            clear HD HH HC HR HO HOD HN hm9 hO9
            go_wp2_with fail
            go_meet
            exact ⟨last, _, _, I, img, M, rfl, by omega, HF⟩
          by_cases e5 : wt = 5
          · skip
            as_aux_lemma =>
            subst e5
            have HC := Hidden.mk (runset_any nm HD.out.st.hp HD.out.st.good HOK2.out.name)
            have HR := Hidden.mk (stepR_unset HD.out.st.good nm)
            clear HOK2
            generalize unL l nm = l' at *
            generalize errV (unE l nm) = ev at *
            go_upto_region 33 with (fail)
            go_region_held3 (fun W => W.cell? ⟨av, 4, none⟩ = some (sv nm)) (first | exact HO.out.2.2.2.2.1 | exact hO9.2.2.2.2.1)
              (first
                | (go_at_call 11; refine HH.out.mono ?_; rintro e wq ⟨rfl, rfl⟩)
                | (go_at_call 16; refine HC.out.mono ?_; rintro e w9 ⟨rfl, F9, hm9⟩; have hO9 := six_kept HOD.out HN.out hm9))
            have HF := Hidden.mk (UbR.mk (HD.out.st.moved hm9 HR.out) HD.out.ml HD.out.ln)
            clear HD HH HC HR HO HOD HN hm9 hO9
            go_wp2_with fail
            go_meet
            exact ⟨last, _, _, I, img, M, rfl, by omega, HF⟩
          by_cases e8 : wt = 8
          · skip
            as_aux_lemma =>
            subst e8
            have HC := Hidden.mk (mall_any HS2.out.st.hp HS2.out.st.good)
            have HR := Hidden.mk (stepR_moved (all_done HS2.out.st.good).1)
            have HH2 := Hidden.mk (uheap_ok HS2.out.st.ud)
            clear HOK2 HD HH HO HOD HN
            generalize allL l = l' at *
            generalize allN l = ah at *
            go_wp2_with fail
            refine HH2.out.mono ?_
            rintro e wq ⟨rfl, rfl⟩
            clear HH2
            go_wp2_with fail
            refine HC.out.mono ?_
            rintro e w9 ⟨rfl, F9, hm9⟩
            have HF := Hidden.mk (UbR.mk (HS2.out.st.moved hm9 HR.out) HS2.out.ml HS2.out.ln)
            clear HC HR hm9 HS2
            go_wp2_with fail
            go_meet
            exact ⟨last, _, _, I, img, M, rfl, by omega, HF⟩
          · skip
            as_aux_lemma =>
            have r1 : (wt == 1) = false := beq_false_of_ne e1
            have r2 : (wt == 2) = false := beq_false_of_ne e2
            have r3 : (wt == 3) = false := beq_false_of_ne e3
            have r4 : (wt == 4) = false := beq_false_of_ne e4
            have r5 : (wt == 5) = false := beq_false_of_ne e5
            have r8 : (wt == 8) = false := beq_false_of_ne e8
            clear e1 e2 e3 e4 e5 e8 HOK2 HD HH HO HOD HN
            have HM := Hidden.mk (umark_ok HS2.out.st.hp HS2.out.st.ud (by omega))
            obtain ⟨m, hm⟩ : ∃ m, last + 1 = m := ⟨_, rfl⟩
            rw [hm] at HM
            have s1 : IntKind.i64.wrap ((last : Int) + 1) = (m : Int) := by rw [IntWalk.i64_in _ (by omega)]; omega
            have HLM := Hidden.mk hm
            have hM := HS2.out.ln
            have m0 : (0 : Int) ≤ m := by omega
            have m1 : (m : Int) < 100 := by omega
            have mm0 : ((m : Int) != (m : Int)) = false := bne_self_eq_false _
            have mm1 : ((m : Int) == (m : Int)) = true := beq_self_eq_true _
            have hm100 : m < 100 := by omega
            clear hm
            go_wp2_with fail
            refine HM.out.mono ?_
            rintro e w4 ⟨rfl, hu4, hp4, hk4⟩
            have H4 := Hidden.mk (And.intro hu4 (And.intro hp4 hk4))
            have HBY := Hidden.mk (hbytes_ok _ _ F h l hp4)
            clear hu4 hp4 hk4 HM
            go_wp2_with fail
            refine HBY.out.mono ?_
            rintro e w5 ⟨g5, cap5, rfl, hg5, hrow5, hb5⟩
            have hkT : ∀ k cur T, wo.heap[k]? = some (.cells cur T (0, 0)) → (T = 5 ∨ T = 22 ∨ T = 3) → ¬ F k → w5.heap[k]? = wo.heap[k]? := fun k cur T h1 hT _ => by
              have hlt := (Array.getElem?_eq_some_iff.1 h1).1
              refine (hb5.block k (Nat.lt_of_lt_of_le hlt H4.out.2.2.size)).trans (H4.out.2.2.block k hlt fun e => ?_)
              have := HS2.out.st.ud.typesB k e cur T h1
              rcases hT with h' | h' | h'
              · exact this.1 h'
              · exact this.2.1 h'
              · exact this.2.2 h'
            have hib5 : UbI w w5 F gi last img := HS2.out.st.ib.keep (fun k cur T h1 h2 h3 => hkT k cur T h1 (h2.imp id .inl) h3) (fun _ h => .inl h)
            have hfr : w5.frozen? ⟨gi, m, none⟩ = false := by
              obtain ⟨cur, h0, -⟩ := hib5.blk
              exact frozen_of_row _ _ m _ _ h0
            obtain ⟨vc, hvc⟩ : ∃ v, w5.cell? ⟨gi, m, none⟩ = some v := by
              obtain ⟨cur, h0, h1, -⟩ := hib5.blk
              exact ⟨cur[m]'(by omega), by simp only [World.cell?]; rw [h0]; simp⟩
            have HS6 := Hidden.mk (HS2.out.st.mark (H4.out.2.1.below hb5) (by rw [HLM.out]; exact H4.out.1.below hb5) hkT hrow5 (fun hk => by have := H4.out.2.1.flt _ hk; omega) (by have := HLM.out; omega))
            rw [HLM.out] at HS6
            have HML := Hidden.mk (mark_L (l := l) HS2.out.ml HS2.out.st.ud.top)
            rw [HLM.out] at HML
            clear hkT hib5 hrow5 hb5 hg5 HBY H4 HS2
            go_upto_region 23 with (fail)
            generalize w5.setCell ⟨gi, m, none⟩ (.slice (some ⟨g5, 0, none⟩) l.length cap5) = w6 at *
            clear hfr hvc
            obtain ⟨hi0, hz0, hz1, hz2⟩ := HI.out
            have hown6 := HS6.out.mo
            have hB6 := HS6.out.hp.bel
            go_wp2_with (at_builtin; refine wpList_append_lies _ rfl (.tmp 85) (.tmp 87) _ rfl w.heap.size 3 i0' _ 1 8 Tryz.underlying24 hi0 hz0 hz1 hz2 rfl (by decide) (.slice Am M.length cm) M.length (M.flatMap ncell) rfl (own_below hown6 ((Below.refl _ _).alloc (Nat.le_refl _) _)) ⟨(w6).heap.size, 0, none⟩ 1 1 [.int .i64 (m : Int)] rfl rfl (World.news_of_block (cs := #[.int .i64 (m : Int)]) (t := 3) (fr := (0, 0)) (heap_alloc_new (w6) _)) (by simp [Value.oneCell']) (by omega) (by simp only [maxLen]; omega) (by omega) (by have hz_ := hB6.size; rw [World.size_alloc]; omega) ((w6).heap.size + 1) (by simp) ?_; intro g8 cap8 w8 hown8 hg8 hat8 hlt8)
            have hgW := grown_trans' ((Below.refl w6.heap.size w6).alloc (Nat.le_refl _) _) hg8
            have HF := Hidden.mk (UbR.mk (HS6.out.app (M' := M ++ [m]) hgW (by simpa [ncell] using hown8) (fun q hq hf => by
              obtain rfl : g8 = q := by simpa [Value.ownBlock] using hq
              rcases hat8 with h' | h'
              · exact HS6.out.mf _ h' hf
              · have := HS6.out.hp.flt _ hf; omega)) HML.out (by have := HLM.out; rw [List.length_append, List.length_singleton]; omega))
            clear hgW hown8 hg8 hat8 hlt8 hi0 hz0 hz1 hz2 hown6 hB6 HS6 HML
            go_meet
            exact ⟨m, F, l, _, _, _, rfl, by have := HLM.out; omega, HF⟩
        case rest =>
        clear HS2 HO HOK1 HNF hla
        clear last F l I img M Am cm
        obtain ⟨last, F, l, I, img, M, rfl, hla, hst⟩ := hcut
        have HS := Hidden.mk hst.out
        clear hst
        obtain ⟨Am, cm, rfl, -, -⟩ := own_split HS.out.st.mo
        have hMl := HS.out.ln
        generalize wc = wx at *
        by_cases hb : i < Z.length
        · have d2 : decide ((Z.length : Int) ≤ i) = false := decide_eq_false (by omega)
          have d2n : decide (Z.length ≤ i) = false := decide_eq_false (by omega)
          have j1 : (i : Int) < Z.length := by omega
          obtain ⟨zp, zo, rfl, hcz⟩ := HL.out.2.2.1.below HS.out.st.hp.bel i hb
          have z0 := hcz 0 _ rfl
          rw [Nat.add_zero, Nat.mul_one] at z0
          have HZ := Hidden.mk (HL.out.2.2.2 Z[i] (List.getElem_mem hb))
          generalize Z[i] = z at *
          clear hcz
          obtain ⟨q, hq⟩ : ∃ q, (Ik I z).isSome = q := ⟨_, rfl⟩
          have HQ := Hidden.mk hq
          clear hq
          have HAL : Hidden (inZ M z M.length = q) := ⟨(inZ_all HS.out.ml z).trans HQ.out⟩
          go_upto_block 3 with (fail)
          go_cut [18] (fun s wx' => s = .bool q ∧ wx' = wx)
          case first =>
            as_aux_lemma =>
            have HM := Hidden.mk (own_rdX3 (f := ncell) (fun _ => rfl) rfl HS.out.st.mo)
            clear HS HZ HL HQ z0
            go_wp2_with fail
            go_loopg [18, 19] M.length (fun q' s i' wr => ∃ k : Nat, k ≤ M.length ∧ q' = M.length - k ∧ s = .bool (inZ M z k) ∧ i' = .int .i64 (k : Int) ∧ wr = wx)
            case atStart => exact ⟨0, by omega, rfl, by simp [inZ], rfl, rfl⟩
            case round =>
              obtain ⟨k, hk, rfl, rfl, rfl, hwr⟩ := hrel
              subst hwr
              by_cases hk1 : k < M.length
              · have c0 : decide ((k : Int) < M.length) = true := decide_eq_true (by omega)
                obtain ⟨mp, mo, rfl, hcx⟩ := HM.out k hk1
                have y0 := hcx 0 _ rfl
                rw [Nat.add_zero, Nat.mul_one] at y0
                have k0 : (0 : Int) ≤ k := by omega
                have k1 : (k : Int) < M.length := by omega
                have hml : M.length ≤ 40 := by omega
                have s1 : IntKind.i64.wrap ((k : Int) + 1) = (k : Int) + 1 := IntWalk.i64_in _ (by omega)
                have HX := Hidden.mk (inZ_succ M z k hk1)
                generalize M[k] = mk at *
                clear hcx
                generalize inZ M z k = b0 at *
                cases b0 with
                | true =>
                  go_wp2_with fail
                  go_roundg (M.length - (k + 1))
                  case measure => omega
                  case rel => exact ⟨k + 1, by omega, rfl, by rw [HX.out]; rfl, by go_num, rfl⟩
                | false =>
                  go_wp2_with fail
                  go_roundg (M.length - (k + 1))
                  case measure => omega
                  case rel => exact ⟨k + 1, by omega, rfl, by rw [HX.out]; simp, by go_num, rfl⟩
              · obtain rfl : k = M.length := by omega
                have c0 : decide ((M.length : Int) < M.length) = false := decide_eq_false (by omega)
                rw [HAL.out]
                go_wp2_with fail
                go_meet
                exact ⟨rfl, rfl⟩
          case rest =>
          obtain ⟨rfl, hwx⟩ := hcut
          rw [hwx]
          clear hwx HAL
          cases q with
          | false =>
            as_aux_lemma =>
            have hI : Ik I z = none := by
              cases h : Ik I z with
              | none => rfl
              | some b => have := HQ.out; rw [h] at this; cases this
            have HCN := Hidden.mk (uchanges_no z HS.out.st.ud HZ.out.1 HZ.out.2 hI)
            have s1 : IntKind.i64.wrap ((i : Int) + 1) = (i : Int) + 1 := IntWalk.i64_in _ (by omega)
            have HI2 := Hidden.mk hI
            clear hI z0
            go_wp2_with fail
            refine HCN.out.mono ?_
            rintro e w2 ⟨rfl, hb2⟩
            have HS2 := Hidden.mk (HS.out.below hb2)
            have HBN := Hidden.mk (uback_no z HS2.out.st.hp HS2.out.st.ud HZ.out.1 HZ.out.2 HI2.out)
            clear hb2 HCN HS
            go_wp2_with fail
            refine HBN.out.mono ?_
            rintro e w3 ⟨rfl, hb3⟩
            have HS3 := Hidden.mk (HS2.out.below hb3)
            have HMK := Hidden.mk (HS3.out.marks (by omega))
            clear hb3 HBN HS2
            go_wp2_with fail
            refine HMK.out.mono ?_
            rintro e w4 ⟨A4, c4, rfl, hr4, hb4⟩
            have HS4 := Hidden.mk (HS3.out.below hb4)
            have HIE := Hidden.mk (sameInts_eq A4 Am c4 cm M.length M w4 rfl (by omega) hr4 (own_rdX3 (f := ncell) (fun _ => rfl) rfl HS4.out.st.mo))
            clear hr4 hb4 HMK HS3
            go_wp2_with fail
            refine HIE.out.mono ?_
            rintro e w5 ⟨rfl, hb5⟩
            have HS5 := Hidden.mk (HS4.out.below hb5)
            clear hb5 HIE HS4
            go_wp2_with fail
            go_roundg (30 - (i + 1))
            case measure => omega
            case rel => exact ⟨i + 1, last, F, l, I, img, M, by omega, by omega, rfl, by go_num, rfl, by omega, HS5⟩
          | true =>
            obtain ⟨b0, hI⟩ : ∃ b, Ik I z = some b := Option.isSome_iff_exists.1 HQ.out
            obtain ⟨k, rfl, hIk⟩ := Ik_mem hI
            obtain ⟨hbi, hbl, hbg⟩ := HS.out.st.il k b0 hIk
            obtain ⟨hk1, hk2⟩ := HS.out.st.ud.top k (by rw [hIk]; simp)
            have hrb : rightB b0.length = true := by rw [hbl]; exact HS.out.st.hp.len
            have hb64 : b0.length ≤ 6400 := by have := rightB_true.1 hrb; omega
            have HCH := Hidden.mk (uchanges_ok (k : Int) b0 HS.out.st.hp HS.out.st.ud HZ.out.1 HZ.out.2 hI hbl)
            have HBQ := Hidden.mk (And.intro hbi (And.intro hbl (And.intro hrb (And.intro hbg hI))))
            have HLM := Hidden.mk (diffL_mem b0 l hbl)
            have HTD : Hidden (toldL (diffL b0 l) = cntD l b0 l.length) := ⟨by rw [told_all b0 l hbl, cntD_symm, hbl]⟩
            have htl : toldL (diffL b0 l) ≤ 6400 := by rw [HTD.out]; exact Nat.le_trans (cntD_le l b0 _) (by omega)
            have k0 : (0 : Int) ≤ k := by omega
            have k1 : (k : Int) < 100 := by omega
            generalize diffL b0 l = D at *
            clear HQ z0 hI hIk hbi hbl hrb hbg
            go_wp2_with fail
            refine HCH.out.mono ?_
            rintro e w2 ⟨v2, rfl, hown2, hb2⟩
            obtain ⟨A2, c2, rfl, hc2, hcm2, hrd2⟩ := hown2.rd
            simp only [maxLen] at hcm2
            have HS2 := Hidden.mk (And.intro (HS.out.below hb2) hrd2.rdg)
            have HBY := Hidden.mk (hbytes_ok _ _ F h l HS2.out.1.st.hp)
            clear hown2 hb2 hrd2 HCH HS
            go_wp2_with fail
            refine HBY.out.mono ?_
            rintro e w3 ⟨g3, cap3, rfl, hg3, hrow3, hb3⟩
            have HS3 := Hidden.mk (HS2.out.1.below hb3)
            have HRD : Hidden (RdG w3 (A2) D) := ⟨fun i hi => by
              obtain ⟨g, off, Ao, An, co, cn, e1, e2⟩ := HS2.out.2 i hi
              exact ⟨g, off, Ao, An, co, cn, e1, e2.below hb3⟩⟩
            obtain ⟨gw, cw, yw, hroww, -⟩ := HS3.out.st.ib.cell k hk1 hk2
            rw [← HBQ.out.1] at yw hroww
            have HRO := Hidden.mk (And.intro hrow3 hroww)
            have hcw := hroww.le.1
            have hc3 := hrow3.le.1
            clear hrow3 hroww hb3 hg3 HBY HS2
            go_upto_block 5 with (fail)
            clear yw
            go_cut [24] (fun s wx' => s = .int .i64 (toldL D : Int) ∧ Hidden (Below w3.heap.size w3 wx'))
            case first =>
              as_aux_lemma =>
              clear HS3 HZ HL
              go_wp2_with fail
              go_loopg [24, 25] D.length (fun q' s i' wr => ∃ j : Nat, j ≤ D.length ∧ q' = D.length - j ∧ s = .int .i64 (toldL (D.take j) : Int) ∧ i' = .int .i64 (j : Int) ∧ Hidden (Below w3.heap.size w3 wr))
              case atStart => exact ⟨0, by omega, rfl, rfl, rfl, ⟨Below.refl _ _⟩⟩
              case round =>
                obtain ⟨j, hj, rfl, rfl, rfl, hst⟩ := hrel
                have HB := Hidden.mk hst.out
                clear hst
                by_cases hj1 : j < D.length
                · have c0 : decide ((j : Int) < D.length) = true := decide_eq_true (by omega)
                  obtain ⟨gl, offl, Ao, An, co, cn, rfl, hcc⟩ := HRD.out j hj1
                  obtain ⟨jj, r, hch⟩ := HLM.out D[j] (List.getElem_mem hj1)
                  have hTS := toldL_succ D j hj1
                  have hT0 := toldL_le D j
                  have hT1 := toldL_le D (j + 1)
                  have HCV : Hidden (∀ W, Below wr.heap.size wr W → W.cell? ⟨gl, offl + j * 3, none⟩ = some (.int .i64 (jj : Int)) ∧ W.cell? ⟨gl, offl + j * 3 + 1, none⟩ = some (.slice Ao r co) ∧ W.cell? ⟨gl, offl + j * 3 + 2, none⟩ = some (.slice An r cn) ∧ (convert 22 9 (.slice (some ⟨g3, jj, none⟩) r (cap3 - jj))).run Tryz.prog W = .ok (sv D[j].new) W ∧ (convert 22 9 (.slice An r cn)).run Tryz.prog W = .ok (sv D[j].new) W ∧ (convert 22 9 (.slice (some ⟨gw, jj, none⟩) r (cw - jj))).run Tryz.prog W = .ok (sv D[j].old) W ∧ (convert 22 9 (.slice Ao r co)).run Tryz.prog W = .ok (sv D[j].old) W) := ⟨fun W hW => by
                    have hB := HB.out.trans (hW.mono HB.out.size)
                    have hc := hcc.below hB
                    have f0 := hc.at_
                    have f1 := hc.old
                    have f2 := hc.new
                    rw [hch.at_] at f0
                    rw [hch.old_len] at f1
                    rw [hch.new_len HBQ.out.2.1] at f2
                    have hhi := hch.hi
                    have e1 := row_cut (HRO.out.1.below hB HRO.out.1.lt) (j := jj) (r := r) (by have := HBQ.out.2.1; omega)
                    have e2 := row_cut (HRO.out.2.below hB HRO.out.2.lt) (j := jj) (r := r) hhi
                    rw [← hch.new] at e1
                    rw [← hch.old] at e2
                    exact ⟨f0, f1, f2, e1, conv_text W An r cn _ (hch.new_len HBQ.out.2.1) hc.rdN, e2, conv_text W Ao r co _ hch.old_len hc.rdO⟩⟩
                  rw [hch.new_len HBQ.out.2.1] at hTS
                  have hhi := hch.hi
                  have hpos := hch.pos
                  have hl0 := HBQ.out.2.1
                  have s1 : IntKind.i64.wrap ((toldL (D.take j) : Int) + r) = (toldL (D.take (j + 1)) : Int) := by rw [IntWalk.i64_in _ (by omega)]; omega
                  have s2 : IntKind.i64.wrap ((j : Int) + 1) = (j : Int) + 1 := IntWalk.i64_in _ (by omega)
                  have s3 : IntKind.i64.wrap ((jj : Int) + r) = (jj : Int) + r := IntWalk.i64_in _ (by omega)
                  have j0 : (0 : Int) ≤ j := by omega
                  have j2 : (j : Int) < D.length := by omega
                  have hs1 := run_cut g3 0 l.length cap3 jj (jj + r) (by omega) (by omega) (by omega)
                  have hs2 := run_cut gw 0 b0.length cw jj (jj + r) (by omega) (by omega) (by omega)
                  simp only [Int.natCast_add, Nat.zero_add, Nat.add_sub_cancel_left] at hs1 hs2
                  obtain ⟨tj1, htj1⟩ : ∃ t, toldL (D.take (j + 1)) = t := ⟨_, rfl⟩
                  have HTE := Hidden.mk htj1
                  rw [htj1] at s1 hTS hT1
                  have HTS := Hidden.mk hTS
                  clear htj1
                  generalize toldL (D.take j) = tj at *
                  generalize D[j].new = X at *
                  generalize D[j].old = Y at *
                  have eX : (X == X) = true := beq_self_eq_true X
                  have eY : (Y == Y) = true := beq_self_eq_true Y
                  have eX' : (X != X) = false := bne_self_eq_false X
                  have eY' : (Y != Y) = false := bne_self_eq_false Y
                  have z2 := (HCV.out wr (Below.refl _ _)).2.2.1
                  clear hcc hch hl0
                  go_upto_region 54 with (fail)
                  clear z2
                  go_region_held3 (fun W => W.cell? ⟨gl, offl + j * 3, none⟩ = some (.int .i64 (jj : Int)) ∧ W.cell? ⟨gl, offl + j * 3 + 1, none⟩ = some (.slice Ao r co) ∧ W.cell? ⟨gl, offl + j * 3 + 2, none⟩ = some (.slice An r cn) ∧ (convert 22 9 (.slice (some ⟨g3, jj, none⟩) r (cap3 - jj))).run Tryz.prog W = .ok (sv X) W ∧ (convert 22 9 (.slice An r cn)).run Tryz.prog W = .ok (sv X) W ∧ (convert 22 9 (.slice (some ⟨gw, jj, none⟩) r (cw - jj))).run Tryz.prog W = .ok (sv Y) W ∧ (convert 22 9 (.slice Ao r co)).run Tryz.prog W = .ok (sv Y) W) (first | exact HCV.out _ (Below.refl _ _).drew | exact HCV.out _ (Below.refl _ _)) (fail)
                  have HF := Hidden.mk (HB.out.drew)
                  clear HCV HB
                  go_wp2_with fail
                  go_roundg (D.length - (j + 1))
                  case measure => omega
                  case rel => exact ⟨j + 1, by omega, rfl, by rw [HTE.out, HTS.out, Int.natCast_add], by go_num, HF⟩
                · obtain rfl : j = D.length := by omega
                  have c0 : decide ((D.length : Int) < D.length) = false := decide_eq_false (by omega)
                  rw [List.take_length]
                  have HF := Hidden.mk HB.out
                  go_wp2_with fail
                  go_meet
                  exact ⟨rfl, HF⟩
            case rest =>
            obtain ⟨rfl, hst⟩ := hcut
            have HB4 := Hidden.mk hst.out
            clear hst HRD HLM
            have HS4 := Hidden.mk (HS3.out.below HB4.out)
            have HR4 : Hidden (Row wc 5 g3 cap3 l ∧ Row wc 5 gw cw b0) := ⟨HRO.out.1.below HB4.out HRO.out.1.lt, HRO.out.2.below HB4.out HRO.out.2.lt⟩
            clear HRO HS3 HB4
            generalize wc = w4 at *
            go_upto_block 7 with (fail)
            go_cut [26] (fun s wx' => s = .int .i64 (toldL D : Int) ∧ Hidden (Below w4.heap.size w4 wx'))
            case first =>
              as_aux_lemma =>
              clear HS4 HZ HL
              go_wp2_with fail
              go_loopg [26, 27] l.length (fun q' s i' wr => ∃ j : Nat, j ≤ l.length ∧ q' = l.length - j ∧ s = .int .i64 (cntD l b0 j : Int) ∧ i' = .int .i64 (j : Int) ∧ Hidden (Below w4.heap.size w4 wr))
              case atStart => exact ⟨0, by omega, rfl, rfl, rfl, ⟨Below.refl _ _⟩⟩
              case round =>
                obtain ⟨j, hj, rfl, rfl, rfl, hst⟩ := hrel
                have HB := Hidden.mk hst.out
                clear hst
                by_cases hj1 : j < l.length
                · have c0 : decide ((j : Int) < l.length) = true := decide_eq_true (by omega)
                  have hl0 := HBQ.out.2.1
                  have hj2 : j < b0.length := by omega
                  have y0 := (HR4.out.1.below HB.out HR4.out.1.lt).cell j hj1
                  have y1 := (HR4.out.2.below HB.out HR4.out.2.lt).cell j hj2
                  have HC : Hidden (cntD l b0 (j + 1) = cntD l b0 j + if l[j] = b0[j] then 0 else 1) := ⟨by
                    show cntD l b0 j + _ = _
                    rw [List.getElem?_eq_getElem hj1, List.getElem?_eq_getElem hj2]
                    simp⟩
                  have hcl := cntD_le l b0 j
                  generalize l[j] = px at *
                  generalize b0[j] = qx at *
                  generalize cntD l b0 j = cj at *
                  have s1 : IntKind.i64.wrap ((cj : Int) + 1) = (cj : Int) + 1 := IntWalk.i64_in _ (by omega)
                  have s2 : IntKind.i64.wrap ((j : Int) + 1) = (j : Int) + 1 := IntWalk.i64_in _ (by omega)
                  have j0 : (0 : Int) ≤ j := by omega
                  have j2 : (j : Int) < l.length := by omega
                  have j3 : (j : Int) < b0.length := by omega
                  clear hl0
                  by_cases hpq : px = qx
                  · subst hpq
                    rw [if_pos rfl] at HC
                    have g1 : ((px.toNat : Int) != (px.toNat : Int)) = false := bne_self_eq_false _
                    have g2 : ((px.toNat : Int) == (px.toNat : Int)) = true := beq_self_eq_true _
                    go_wp2_with fail
                    go_quiet (fail)
                    go_wp2_with fail
                    go_roundg (l.length - (j + 1))
                    case measure => omega
                    case rel => exact ⟨j + 1, by omega, rfl, by rw [HC.out]; rfl, by go_num, ⟨below_drewN HB.out _⟩⟩
                  · rw [if_neg hpq] at HC
                    have g2 : ((px.toNat : Int) == (qx.toNat : Int)) = false := by rw [bv_beq]; simpa using hpq
                    have g1 : ((px.toNat : Int) != (qx.toNat : Int)) = true := by rw [bne, g2]; rfl
                    clear hpq
                    go_wp2_with fail
                    go_quiet (fail)
                    go_wp2_with fail
                    go_roundg (l.length - (j + 1))
                    case measure => omega
                    case rel => exact ⟨j + 1, by omega, rfl, by rw [HC.out]; go_num, by go_num, ⟨below_drewN HB.out _⟩⟩
                · obtain rfl : j = l.length := by omega
                  have c0 : decide ((l.length : Int) < l.length) = false := decide_eq_false (by omega)
                  rw [← HTD.out]
                  have HF := Hidden.mk HB.out
                  go_wp2_with fail
                  go_meet
                  exact ⟨rfl, HF⟩
            case rest =>
            obtain ⟨rfl, hst⟩ := hcut
            have HB5 := Hidden.mk hst.out
            clear hst
            have HS5 := Hidden.mk (HS4.out.below HB5.out)
            clear HR4 HS4 HB5 HTD
            generalize wc = w5 at *
            have HBK := Hidden.mk (uback_ok (k : Int) b0 HS5.out.st.hp HS5.out.st.ud HZ.out.1 HZ.out.2 HBQ.out.2.2.2.2 HBQ.out.2.2.1)
            generalize toldL D = td at *
            have tt0 : ((td : Int) != (td : Int)) = false := bne_self_eq_false _
            have tt1 : ((td : Int) == (td : Int)) = true := beq_self_eq_true _
            go_wp2_with fail
            refine HBK.out.mono ?_
            rintro e w6 ⟨rfl, F6, hu6, hm6, -⟩
            have HS6 := Hidden.mk (HS5.out.st.back HBQ.out.2.2.2.2 hu6 hm6)
            have HML := Hidden.mk (leftL_all HS5.out.ml (k : Int))
            have HLE : Hidden (∀ j, (leftL M (k : Int) j).length ≤ M.length) := ⟨fun j => Nat.le_trans (List.length_filter_le _ _) (by rw [List.length_take]; omega)⟩
            have HM6 := Hidden.mk (own_rdX3 (f := ncell) (fun _ => rfl) rfl HS6.out.mo)
            generalize cutI I (k : Int) = I6 at *
            clear hu6 hm6 HBK HS5
            go_upto_block 9 with (fail)
            go_cut [28] (fun s wx' => Hidden (UbSt w wx' F6 u h mb last b0 I6 img gi (leftL M (k : Int) M.length) s))
            case first =>
              as_aux_lemma =>
              clear HZ HL
              go_wp2_with fail
              go_loopg [28, 29] M.length (fun q' s i' wr => ∃ j : Nat, j ≤ M.length ∧ q' = M.length - j ∧ i' = .int .i64 (j : Int) ∧ Hidden (Below w6.heap.size w6 wr ∧ wr.ownsRow w6.heap.size 3 1 s (leftL M (k : Int) j).length ((leftL M (k : Int) j).flatMap ncell)))
              case atStart => exact ⟨0, by omega, rfl, rfl, ⟨Below.refl _ _, World.ownsRow_nil _ _ _ _⟩⟩
              case round =>
                obtain ⟨j, hj, rfl, rfl, hst⟩ := hrel
                have HB := Hidden.mk hst.out
                clear hst
                by_cases hj1 : j < M.length
                · have c0 : decide ((j : Int) < M.length) = true := decide_eq_true (by omega)
                  obtain ⟨mp, mo, rfl, hcx⟩ := (HM6.out.below HB.out.1) j hj1
                  have y0 := hcx 0 _ rfl
                  rw [Nat.add_zero, Nat.mul_one] at y0
                  obtain ⟨A8, c8, rfl, -, -⟩ := own_split HB.out.2
                  have s2 : IntKind.i64.wrap ((j : Int) + 1) = (j : Int) + 1 := IntWalk.i64_in _ (by omega)
                  have j0 : (0 : Int) ≤ j := by omega
                  have j2 : (j : Int) < M.length := by omega
                  have HY : Hidden ((M[j] : Int) ≤ (k : Int) → leftL M (k : Int) (j + 1) = leftL M (k : Int) j ++ [M[j]]) := ⟨leftL_yes M _ j hj1⟩
                  have HNo : Hidden (¬ (M[j] : Int) ≤ (k : Int) → leftL M (k : Int) (j + 1) = leftL M (k : Int) j) := ⟨leftL_no M _ j hj1⟩
                  have hle := HLE.out j
                  generalize M[j] = mk at *
                  clear hcx
                  by_cases hmk : (mk : Int) ≤ (k : Int)
                  · have e1 : decide ((mk : Int) ≤ (k : Int)) = true := decide_eq_true hmk
                    have e1n : decide (mk ≤ k) = true := decide_eq_true (by omega)
                    have HL1 := Hidden.mk (HY.out hmk)
                    clear HY HNo hmk HLE
                    generalize leftL M (k : Int) j = LL at *
                    obtain ⟨hi0, hz0, hz1, hz2⟩ := HI.out
                    have hownL := HB.out.2
                    have hBL := HB.out.1
                    have hLb : LL.length ≤ 40 := by omega
                    go_wp2_with (at_builtin; refine wpList_append_lies _ rfl (.tmp 287) (.tmp 292) _ rfl w6.heap.size 3 i0' _ 1 8 Tryz.underlying24 hi0 hz0 hz1 hz2 rfl (by decide) (.slice A8 LL.length c8) LL.length (LL.flatMap ncell) rfl (own_below hownL ((Below.refl _ _).alloc (Nat.le_refl _) _)) ⟨(wr).heap.size, 0, none⟩ 1 1 [.int .i64 (mk : Int)] rfl rfl (World.news_of_block (cs := #[.int .i64 (mk : Int)]) (t := 3) (fr := (0, 0)) (heap_alloc_new (wr) _)) (by simp [Value.oneCell']) (by omega) (by simp only [maxLen]; omega) (by omega) (by have hz_ := hBL.size; rw [World.size_alloc]; omega) ((wr).heap.size + 1) (by simp) ?_; intro g9 cap9 w9 hown9 hg9 hat9 hlt9)
                    have hgW := grown_trans' ((Below.refl wr.heap.size wr).alloc (Nat.le_refl _) _) hg9
                    have HF : Hidden (Below w6.heap.size w6 w9 ∧ w9.ownsRow w6.heap.size 3 1 (.slice (some ⟨g9, 0, none⟩) (LL.length + 1) cap9) (leftL M (k : Int) (j + 1)).length ((leftL M (k : Int) (j + 1)).flatMap ncell)) := ⟨HB.out.1.grown hgW HB.out.1.size (fun q hq => (hownL.lt q hq).1), by rw [HL1.out]; simpa [ncell] using hown9⟩
                    clear hgW hown9 hg9 hat9 hlt9 hi0 hz0 hz1 hz2 hownL hBL HL1 HB
                    go_roundg (M.length - (j + 1))
                    case measure => omega
                    case rel => exact ⟨j + 1, by omega, rfl, by go_num, HF⟩
                  · have e1 : decide ((mk : Int) ≤ (k : Int)) = false := decide_eq_false hmk
                    have e1n : decide (mk ≤ k) = false := decide_eq_false (by omega)
                    have HL1 := Hidden.mk (HNo.out hmk)
                    clear HY HNo hmk HLE
                    go_wp2_with fail
                    go_roundg (M.length - (j + 1))
                    case measure => omega
                    case rel => exact ⟨j + 1, by omega, rfl, by go_num, by rw [HL1.out]; exact HB⟩
                · obtain rfl : j = M.length := by omega
                  have c0 : decide ((M.length : Int) < M.length) = false := decide_eq_false (by omega)
                  have HF := Hidden.mk ((HS6.out.below HB.out.1).left (own_base HB.out.2 HS6.out.hp.bel.size) (fun q hq hf => by
                    have h1 := (HB.out.2.lt q hq).1
                    have h2 := HS6.out.hp.flt q hf
                    omega))
                  clear HB
                  go_wp2_with fail
                  go_meet
                  exact HF
            case rest =>
            as_aux_lemma =>
            have HS7 := Hidden.mk hcut.out
            clear hcut HS6 HM6
            obtain ⟨A7, c7, rfl, -, -⟩ := own_split HS7.out.mo
            generalize wc = w7x at *
            obtain ⟨gx, cx, yx, hrx, -⟩ := HS7.out.ib.cell k hk1 hk2
            rw [← HBQ.out.1] at yx hrx
            have HCX : Hidden (∀ W, Below w7x.heap.size w7x W → W.cell? ⟨gi, k, none⟩ = some (.slice (some ⟨gx, 0, none⟩) b0.length cx) ∧ (convert 22 9 (.slice (some ⟨gx, 0, none⟩) b0.length cx)).run Tryz.prog W = .ok (sv b0) W) := ⟨fun W hW => ⟨(hW.cell (p := ⟨gi, k, none⟩) (block_lt_of_cell yx)).trans yx, conv_text W (some ⟨gx, 0, none⟩) b0.length cx b0 rfl (hrx.below hW hrx.lt).rd⟩⟩
            have HBD : Hidden (Below w7x.heap.size w7x w7x.drew) := ⟨(Below.refl _ _).drew⟩
            have HBY := Hidden.mk (hbytes_ok _ _ F6 h b0 (HS7.out.below HBD.out).hp)
            have eB : (b0 == b0) = true := beq_self_eq_true b0
            have eB' : (b0 != b0) = false := bne_self_eq_false b0
            have hll := HLE.out M.length
            generalize leftL M (k : Int) M.length = LM at *
            clear yx hrx HLE HI
            go_upto_region 75 with (fail)
            refine wp_region_held_drew (S := fun W => W.cell? ⟨gi, k, none⟩ = some (.slice (some ⟨gx, 0, none⟩) b0.length cx) ∧ (convert 22 9 (.slice (some ⟨gx, 0, none⟩) b0.length cx)).run Tryz.prog W = .ok (sv b0) W) (by kernel_rfl) (HCX.out _ HBD.out) (fun hHeld => ?_)
            refine wpAnyH_take (i := 0) (oi := { dst := some 295, op := Op.move (Operand.tmp 7), type := 25, pos := "law.go:271", after := #[], guard := none }) (v := ?_) rfl (by kernel_rfl) (by kernel_rfl) (by kernel_rfl) (fun _ _ _ h => h) (Or.inl ⟨by rfl, ?_⟩) hHeld ?_
            rotate_left
            · rintro w_ ⟨hSa, hSb⟩
              go_simp
              try with_reducible rfl
            try simp only [Act.put, List.setIfInBounds_toArray, List.set_cons_zero, List.set_cons_succ]
            refine wpAnyH_take (i := 3) (oi := { dst := some 298, op := Op.move (Operand.tmp 11), type := 34, pos := "law.go:271", after := #[], guard := none }) (v := ?_) rfl (by kernel_rfl) (by kernel_rfl) (by kernel_rfl) (fun _ _ _ h => h) (Or.inl ⟨by rfl, ?_⟩) hHeld ?_
            rotate_left
            · rintro w_ ⟨hSa, hSb⟩
              go_simp
              try with_reducible rfl
            try simp only [Act.put, List.setIfInBounds_toArray, List.set_cons_zero, List.set_cons_succ]
            refine wpAnyH_take (i := 4) (oi := { dst := some 299, op := Op.move (Operand.tmp 17), type := 3, pos := "law.go:271", after := #[], guard := none }) (v := ?_) rfl (by kernel_rfl) (by kernel_rfl) (by kernel_rfl) (fun _ _ _ h => h) (Or.inl ⟨by rfl, ?_⟩) hHeld ?_
            rotate_left
            · rintro w_ ⟨hSa, hSb⟩
              go_simp
              try with_reducible rfl
            try simp only [Act.put, List.setIfInBounds_toArray, List.set_cons_zero, List.set_cons_succ]
            refine wpAnyH_take (i := 5) (oi := { dst := some 300, op := Op.indexAddr 34 (Operand.tmp 298) (Operand.tmp 299), type := 0, pos := "law.go:271", after := #[{ on := 3, ground := Ground.data }, { on := 4, ground := Ground.data }], guard := none }) (v := ?_) rfl (by kernel_rfl) (by kernel_rfl) (by kernel_rfl) (fun _ _ _ h => h) (Or.inl ⟨by rfl, ?_⟩) hHeld ?_
            rotate_left
            · rintro w_ ⟨hSa, hSb⟩
              go_simp
              try with_reducible rfl
            try simp only [Act.put, List.setIfInBounds_toArray, List.set_cons_zero, List.set_cons_succ]
            refine wpAnyH_take (i := 6) (oi := { dst := some 301, op := Op.load 22 (Operand.tmp 300), type := 22, pos := "law.go:271", after := #[{ on := 5, ground := Ground.data }], guard := none }) (v := ?_) rfl (by kernel_rfl) (by kernel_rfl) (by kernel_rfl) (fun _ _ _ h => h) (Or.inl ⟨by rfl, ?_⟩) hHeld ?_
            rotate_left
            · rintro w_ ⟨hSa, hSb⟩
              go_simp
              try with_reducible rfl
            try simp only [Act.put, List.setIfInBounds_toArray, List.set_cons_zero, List.set_cons_succ]
            refine wpAnyH_take (i := 7) (oi := { dst := some 302, op := Op.convert 22 9 (Operand.tmp 301), type := 9, pos := "law.go:271", after := #[{ on := 6, ground := Ground.data }], guard := none }) (v := ?_) rfl (by kernel_rfl) (by kernel_rfl) (by kernel_rfl) (fun _ _ _ h => h) (Or.inl ⟨by rfl, ?_⟩) hHeld ?_
            rotate_left
            · rintro w_ ⟨hSa, hSb⟩
              go_simp
              try with_reducible rfl
            try simp only [Act.put, List.setIfInBounds_toArray, List.set_cons_zero, List.set_cons_succ]
            refine wpAnyH_ready (rs := [1]) (by kernel_rfl) (by simp) ?_
            refine AllReadyH.cons (o := { dst := some 296, op := Op.call { callee := Callee.value (Operand.func 10), args := #[Operand.tmp 295], argTypes := #[25] }, type := 22, pos := "law.go:271", after := #[{ on := 0, ground := Ground.data }], guard := none }) rfl (fun K hK => ?_) AllReadyH.nil
            rw [if_pos (by rfl)]
            go_simp
            go_at_call 10
            refine HBY.out.mono ?_
            rintro e w9 ⟨g9, cap9, rfl, hg9, hrow9, hb9⟩
            have hcv9 := conv_text w9 (some ⟨g9, 0, none⟩) b0.length cap9 b0 rfl hrow9.rd
            dsimp only
            refine hK.out _ _ (HCX.out _ (HBD.out.trans (hb9.mono HBD.out.size))) (fun hHeld => ?_)
            clear hK K
            try simp only [Act.put, List.setIfInBounds_toArray, List.set_cons_zero, List.set_cons_succ]
            refine wpAnyH_ready (rs := [2]) (by kernel_rfl) (by simp) ?_
            refine AllReadyH.cons (o := { dst := some 297, op := Op.convert 22 9 (Operand.tmp 296), type := 9, pos := "law.go:271", after := #[{ on := 1, ground := Ground.data }], guard := none }) rfl (fun K hK => ?_) AllReadyH.nil
            rw [if_pos (by rfl)]
            go_simp
            refine hK.out _ _ hHeld (fun hHeld => ?_)
            clear hK K
            try simp only [Act.put, List.setIfInBounds_toArray, List.set_cons_zero, List.set_cons_succ]
            refine wpAnyH_take (i := 8) (oi := { dst := some 303, op := Op.binOp BinOp.neq 9 (Operand.tmp 297) (Operand.tmp 302) 9, type := 4, pos := "law.go:271", after := #[{ on := 2, ground := Ground.data }, { on := 7, ground := Ground.data }], guard := none }) (v := ?_) rfl (by kernel_rfl) (by kernel_rfl) (by kernel_rfl) (fun _ _ _ h => h) (Or.inl ⟨by rfl, ?_⟩) hHeld ?_
            rotate_left
            · rintro w_ ⟨hSa, hSb⟩
              go_simp
              try with_reducible rfl
            try simp only [Act.put, List.setIfInBounds_toArray, List.set_cons_zero, List.set_cons_succ]
            refine wpAnyH_done (by kernel_rfl) ?_ _
            have HS9 := Hidden.mk (UbR.mk (HS7.out.below (HBD.out.trans (hb9.mono HBD.out.size))) HML.out (Nat.le_trans hll hMl))
            have HMK := Hidden.mk (HS9.out.marks (by omega))
            have s1 : IntKind.i64.wrap ((i : Int) + 1) = (i : Int) + 1 := IntWalk.i64_in _ (by omega)
            clear hg9 hrow9 hb9 hcv9 HBY HCX HBD HS7 HML
            go_wp2_with fail
            refine HMK.out.mono ?_
            rintro e w10 ⟨A10, c10, rfl, hr10, hb10⟩
            have HS10 := Hidden.mk (HS9.out.below hb10)
            have HIE := Hidden.mk (sameInts_eq A10 A7 c10 c7 LM.length LM w10 rfl (by omega) hr10 (own_rdX3 (f := ncell) (fun _ => rfl) rfl HS10.out.st.mo))
            clear hr10 hb10 HMK HS9
            go_wp2_with fail
            refine HIE.out.mono ?_
            rintro e w11 ⟨rfl, hb11⟩
            have HS11 := Hidden.mk (HS10.out.below hb11)
            clear hb11 HIE HS10
            go_wp2_with fail
            go_roundg (30 - (i + 1))
            case measure => omega
            case rel => exact ⟨i + 1, last, F6, b0, I6, img, LM, by omega, by omega, rfl, by go_num, rfl, by omega, HS11⟩
        · --{{
          have d2 : decide ((Z.length : Int) ≤ i) = true := decide_eq_true (by omega)
          have s1 : IntKind.i64.wrap ((i : Int) + 1) = (i : Int) + 1 := IntWalk.i64_in _ (by omega)
          go_wp2_with fail
          go_roundg (30 - (i + 1))
          case measure => omega
          case rel => exact ⟨i + 1, last, F, l, I, img, M, by omega, by omega, rfl, by go_num, rfl, by omega, HS⟩
      · --{{
        have d0 : decide ((i : Int) < L.length) = true := decide_eq_true (by omega)
        have d1 : decide ((i : Int) < 30) = false := decide_eq_false (by omega)
        have HF := Hidden.mk HS.out.st.hp.bel
        clear HS
        go_wp2_with fail
        go_ret
        exact ⟨rfl, HF.out⟩
    · --{{
      have d0 : decide ((i : Int) < L.length) = false := decide_eq_false (by omega)
      have HF := Hidden.mk HS.out.st.hp.bel
      clear HS
      go_wp2_with fail
      go_ret
      exact ⟨rfl, HF.out⟩
end Go.Proofs.YtijcclpnkfmpnaaGreat
