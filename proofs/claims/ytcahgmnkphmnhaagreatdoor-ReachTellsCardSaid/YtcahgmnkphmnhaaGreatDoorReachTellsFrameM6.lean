/- Contracts and plain laws, put together: RefWy2, RefWy3, Told, Told2, Told3, ReachTells1. -/
import Derived.Test.YtcahgmnkphmnhaaGreatDoorReachTellsFrameM5
import Derived.Test.YtcahgmnkphmnhaaGreatDoorReachTellsFrameM3
import Derived.Test.YtcahgmnkphmnhaaGreatDoorReachTellsFrameM1
import Derived.LaidEql
import Derived.Stop.Asserts
import Derived.RowKitTokens
import Derived.Deep.DeepCutAuto
import Derived.Deep.CutBlock
/- The reference on ways: Ways, the walk. -/
namespace Go.Proofs.YtcahgmnkphmnhaaGreatDoor
open Go.RowKit

theorem row_info : (Tryz.prog.info? 27).map (fun i => (i.zero, i.size, i.bytes)) = some (some (.slice none 0 0), 1, 24) := by kernel_rfl
theorem mk_introws (n : Nat) (hn : n ≤ 100000) (w : World) :
    (Instr.makeSlice 29 (.int .i64 n) (.int .i64 n)).run Tryz.prog w = .ok (.slice (some ⟨w.heap.size, 0, none⟩) n n) (w.alloc (.cells (Array.replicate n (.slice none 0 0)) 27)) := by
  obtain ⟨i0, hi0, hz0, hz1, hz2⟩ := info_parts row_info
  have hr := run_make (P := Tryz.prog) w 29 27 i0 _ Tryz.underlying29 hi0 hz0 .i64 .i64 n n (by omega) (by omega) (by rw [hz2]; omega) (by omega)
  simp only [Int.toNat_natCast, hz1, Nat.mul_one] at hr
  have hcells : madeCells (Value.slice none 0 0).cells n = Array.replicate n (.slice none 0 0) := by
    apply Array.ext'
    rw [show (Value.slice none 0 0).cells = #[Value.slice none 0 0] from rfl, toList_madeCells_one]
    simp
  rw [hcells] at hr
  exact hr
theorem ncell_len (x : Nat) : (ncell x).length = 1 := rfl
theorem ncell_one (L : List Nat) : ∀ u ∈ L.flatMap ncell, u.oneCell' = true := by
  intro u hu
  obtain ⟨x, _, h⟩ := List.mem_flatMap.1 hu
  simp only [ncell, List.mem_cons, List.not_mem_nil, or_false] at h
  subst h; rfl
theorem IsWay.hE {l : Bytes} (hg : Good l) {p : List Nat} {y : Nat} (h : IsWay l p y) : hE l (y : Int) = 0 := by
  cases h with
  | root hr => exact rootsH_mem hg hr
  | step _ hy => exact refsL_mem (y := 0) hy
/-- the passes, step by step -/
def hands (k : Nat) : List Nat := (List.range k).map (· + 1)
theorem hands_succ (k : Nat) : hands (k + 1) = hands k ++ [k + 1] := by unfold hands; rw [List.range_succ, List.map_append]; rfl
def atH (l : Bytes) (V : WV) (k : Nat) : WV × Bool := (hands k).foldl (stepH l) (V, false)
theorem atH_succ (l : Bytes) (V : WV) (k : Nat) : atH l V (k + 1) = stepH l (atH l V k) (k + 1) := by unfold atH; rw [hands_succ, List.foldl_append]; rfl
theorem atH_ok {l : Bytes} (hg : Good l) {V : WV} (h : VOk l V) (k : Nat) : VOk l (atH l V k).1 := (pass_foldH hg (hands k) (V, false) True ⟨h, .inl ⟨rfl, trivial⟩⟩).ok
def atV (x : Nat) (s : WV × Bool) (R : List Nat) (i : Nat) : WV × Bool := (R.take i).foldl (stepV x) s
theorem atV_succ (x : Nat) (s : WV × Bool) (R : List Nat) (i : Nat) (hi : i < R.length) : atV x s R (i + 1) = stepV x (atV x s R i) R[i] := by unfold atV; rw [List.take_succ_eq_append_getElem hi, List.foldl_append]; rfl
theorem foldV_ok {l : Bytes} (hg : Good l) {x : Nat} : ∀ (L : List Nat) (s : WV × Bool), VOk l s.1 → s.1 x ≠ [] → (∀ y ∈ L, y ∈ refsL l (x : Int)) → VOk l (L.foldl (stepV x) s).1 ∧ (L.foldl (stepV x) s).1 x = s.1 x
  | [], s, h, _, _ => ⟨h, rfl⟩
  | y :: L, s, h, hx, hL => by
    obtain ⟨h1, -, h3⟩ := h.step hg hx (hL y (List.mem_cons_self ..))
    obtain ⟨h4, h5⟩ := foldV_ok hg L (stepV x s y) h1 (by rw [h3]; exact hx) (fun z hz => hL z (List.mem_cons_of_mem _ hz))
    exact ⟨h4, h5.trans h3⟩
theorem atV_ok {l : Bytes} (hg : Good l) {x : Nat} {s : WV × Bool} (h : VOk l s.1) (hx : s.1 x ≠ []) (i : Nat) : VOk l (atV x s (refsL l (x : Int)) i).1 ∧ (atV x s (refsL l (x : Int)) i).1 x = s.1 x :=
  foldV_ok hg _ s h hx fun y hy => List.mem_of_mem_take hy
theorem VOk.len {l : Bytes} {V : WV} (h : VOk l V) (y : Nat) : (V y).length ≤ 41 := Nat.le_trans (h.bd y) (cntV_le V 41)
def mesV (V : WV) (b : Bool) : Nat := match b with | true => sumV V 41 + 1 | false => 0
structure WyOk (l : Bytes) (V : WV) (b : Bool) : Prop where
  ok : VOk l V
  fin : b = false → ∀ y, V y = wayOf (fromW l) y
theorem WyOk.next {l : Bytes} (hg : Good l) {V : WV} (h : WyOk l V true) : WyOk l (atH l V 40).1 (atH l V 40).2 ∧ mesV (atH l V 40).1 (atH l V 40).2 < mesV V true := by
  obtain ⟨h1, h2, h3⟩ := pass_is hg h.ok
  have e : passV l V = atH l V 40 := rfl
  rw [e] at h1 h2 h3
  cases hb : (atH l V 40).2 with
  | true => exact ⟨⟨h1, fun e => by cases e⟩, by have := h2 hb; unfold mesV; dsimp only; omega⟩
  | false =>
    obtain ⟨h4, h5⟩ := h3 hb
    exact ⟨⟨h1, fun _ y => by rw [h4]; exact h5 y⟩, by unfold mesV; dsimp only; omega⟩
/-- the roots so far -/
def partV (S : List Nat) : WV := fun q => if q ∈ S then [q] else []
theorem partV_succ (S : List Nat) (k : Nat) (hk : k < S.length) : vset (partV (S.take k)) S[k] [S[k]] = partV (S.take (k + 1)) := by
  funext q
  unfold vset partV
  rw [List.take_succ_eq_append_getElem hk]
  simp only [List.mem_append, List.mem_singleton]
  by_cases e : q = S[k]
  · subst e; rw [if_pos rfl, if_pos (.inr rfl)]
  · rw [if_neg e]
    by_cases hm : q ∈ S.take k
    · rw [if_pos hm, if_pos (.inl hm)]
    · rw [if_neg hm, if_neg (fun h => h.elim hm e)]
set_option maxRecDepth 100000 in
set_option maxHeartbeats 2000000 in
theorem ways_any (p off n c : Nat) (l : Bytes) (w : World) (hn : l.length = n) (hg : Good l) (hnc : n ≤ c) (hrd : Rd w (some ⟨p, off, none⟩) l) :
    Calls Tryz.prog 10 #[.slice (some ⟨p, off, none⟩) n c] w fun e w' => ∃ gw, e = .returned (.slice (some ⟨gw, 0, none⟩) 41 41) ∧ WvB w w' gw (wayOf (fromW l)) ∧ Below w.heap.size w w' := by
  obtain ⟨i0', hi0, hz0, hz1, hz2⟩ := info_parts int_infoC
  have HI := Hidden.mk (And.intro hi0 (And.intro hz0 (And.intro hz1 hz2)))
  have hr : rightB n = true := by rw [← hn]; exact hg.len
  have HRO : Hidden (∀ W, Below w.heap.size w W → Calls Tryz.prog 38 #[.slice (some ⟨p, off, none⟩) n c] W fun e w' => ∃ v, e = .returned v ∧ w'.ownsRow W.heap.size 76 2 v (rootsL l).length ((rootsL l).flatMap rcells) ∧ Below W.heap.size W w') := ⟨fun W hW => refRoots_ok p off n c l W hn hr hnc (hrd.below hW)⟩
  have HRF : Hidden (∀ (k : Nat) (W : World), Below w.heap.size w W → k < 40 → hasE (rawE l k) = true → Calls Tryz.prog 9 #[.slice (some ⟨p, off, none⟩) n c, .int .i64 ((k : Int) + 1)] W fun e w' => ∃ v, e = .returned v ∧ w'.ownsRow W.heap.size 3 1 v (refsL l ((k : Int) + 1)).length ((refsL l ((k : Int) + 1)).flatMap ncell) ∧ Below W.heap.size W w') := ⟨fun k W hW hk hh => rrefs_ok p off n c l k W hn hg hnc (hrd.below hW) hk hh⟩
  have hR8 : (rootsL l).length ≤ 8 := rootsF_len _ _
  have HRH : Hidden (rootsH l = (rootsL l).map (·.2)) := ⟨rfl⟩
  have HRB : Hidden (∀ x ∈ rootsH l, x < 41) := ⟨fun x hx => by have := hE_nat (rootsH_mem hg hx); omega⟩
  have HG := Hidden.mk hg
  have hmk := mk_introws 41 (by omega) w
  rw [show ((41 : Nat) : Int) = 41 from rfl] at hmk
  have HW0 := Hidden.mk (WvB.made w)
  have hal := (Below.refl w.heap.size w).alloc (Nat.le_refl _) (.cells (Array.replicate 41 (.slice none 0 0)) 27)
  have HB0 := Hidden.mk hal
  generalize hgr : Array.replicate 41 (Value.slice none 0 0) = gr at *
  generalize rootsL l = R at *
  clear hn hg hrd hr hal hi0 hz0 hz1 hz2 hgr
  go_enter Tryz.func10, Tryz.ntmps10
  go_wp2_with fail
  clear hmk
  generalize w.alloc (.cells gr 27) = wA at *
  generalize hgw : w.heap.size = gw at HW0 ⊢
  refine (HRO.out wA HB0.out).mono ?_
  rintro e w1 ⟨v1, rfl, hown1, hb1⟩
  obtain ⟨A1, c1, rfl, -, -⟩ := own_split hown1
  have HR := Hidden.mk (own_rdX3 (f := rcells) (fun _ => rfl) rfl hown1)
  have HB1 := Hidden.mk (HB0.out.trans (hb1.mono HB0.out.size))
  have HW1 := Hidden.mk (HW0.out.below hb1)
  generalize hm : R.length = m at *
  have HM := Hidden.mk hm
  have HGW := Hidden.mk hgw
  clear hown1 hb1 HRO HW0 HB0 hm hgw
  go_wp2_with fail
  go_loopg [5] m (fun q i wr => ∃ k : Nat, k ≤ m ∧ q = m - k ∧ i = .int .i64 (k : Int) ∧ Hidden (WvB w wr gw (partV ((R.map (·.2)).take k)) ∧ Below w.heap.size w wr ∧ RdX rcells 2 wr A1 R))
  case atStart =>
    refine ⟨0, by omega, rfl, rfl, ⟨?_, HB1.out, HR.out⟩⟩
    have e : partV ((R.map (·.2)).take 0) = fun _ => [] := by funext q; simp [partV]
    rw [e]; exact HW1.out
  case round =>
    obtain ⟨k, hk, rfl, rfl, hst⟩ := hrel
    by_cases hlt : k < m
    · have hkR : k < R.length := by rw [HM.out]; exact hlt
      obtain ⟨pb, ob, rfl, hcx⟩ := hst.out.2.2 k hkR
      have x1 := hcx 1 _ rfl
      have hk' : k < (R.map (·.2)).length := by simpa using hkR
      have HPS := Hidden.mk (partV_succ (R.map (·.2)) k hk')
      have h41 : R[k].2 < 41 := HRB.out _ (by rw [HRH.out]; exact List.mem_map.2 ⟨_, List.getElem_mem hkR, rfl⟩)
      have he : (R.map (·.2))[k] = R[k].2 := by simp
      rw [he] at HPS
      obtain ⟨Ac, cc, g0, gf, -, -⟩ := hst.out.1.cell R[k].2 h41
      have HST := Hidden.mk hst.out
      generalize hq0 : R[k].2 = q0 at *
      have i0 : (0 : Int) ≤ k := by omega
      have i1 : (k : Int) < m := by omega
      have j0 : (0 : Int) ≤ q0 := by omega
      have j1 : (q0 : Int) < 41 := by omega
      have s3 : IntKind.i64.wrap ((k : Int) + 1) = (k : Int) + 1 := IntWalk.i64_in _ (by omega)
      have hald : Below wr.heap.size wr (wr.alloc (.cells #[.int .i64 (q0 : Int)] 3)) := (Below.refl wr.heap.size wr).alloc (Nat.le_refl _) _
      have HWA := Hidden.mk (hst.out.1.below hald)
      obtain ⟨A2, c2, y0, yf, -, -⟩ := HWA.out.cell q0 h41
      have hnew : RdX ncell 1 (wr.alloc (.cells #[.int .i64 (q0 : Int)] 3)) (some ⟨wr.heap.size, 0, none⟩) [q0] := own_rdX3 (f := ncell) (fun _ => rfl) rfl (own_one wr (.int .i64 (q0 : Int)))
      have hset := (HWA.out.set (c := 1) h41 hnew (by simp))
      rw [HPS.out] at hset
      have HNEW := Hidden.mk (hset.below (Below.refl _ _).drew)
      have HBN := Hidden.mk (((HST.out.2.1.trans (hald.mono HST.out.2.1.size)).setCell (p := ⟨gw, q0, none⟩) (by rw [← HGW.out]; exact Nat.le_refl _) (.slice (some ⟨wr.heap.size, 0, none⟩) 1 1)).drew)
      have HRN : Hidden (RdX rcells 2 (((wr.alloc (.cells #[.int .i64 (q0 : Int)] 3)).setCell ⟨gw, q0, none⟩ (.slice (some ⟨wr.heap.size, 0, none⟩) 1 1)).drew) (some ⟨pb, ob, none⟩) R) := ⟨by
        have h1 := HST.out.2.2.below hald
        refine h1.block (fun ad e hlt => ?_)
        obtain rfl := Option.some.inj e
        refine Below.heap_setCell _ _ _ _ ?_
        dsimp only
        intro e2
        obtain ⟨oA, oc, cur, h0, h3, h4⟩ := HWA.out.blk
        have h6 := (hald.cell (block_lt_of_cell x1)).trans x1
        simp only [World.cell?] at h6
        rw [e2, h0] at h6
        dsimp only at h6
        have hlt2 := (Array.getElem?_eq_some_iff.1 h6).1
        rw [(h4 _ (by omega)).1] at h6
        cases h6⟩
      have KX : Hidden (∀ W, Below wr.heap.size wr W → W.cell? ⟨pb, ob + k * 2 + 1, none⟩ = some (.int .i64 (q0 : Int))) := ⟨fun W hW => (hW.cell (block_lt_of_cell x1)).trans x1⟩
      have x1d := KX.out wr.drew (Below.refl _ _).drew
      have x1e : (((wr.alloc (.cells #[.int .i64 (q0 : Int)] 3)).setCell ⟨gw, q0, none⟩ (.slice (some ⟨wr.heap.size, 0, none⟩) 1 1)).drew).cell? ⟨pb, ob + k * 2 + 1, none⟩ = some (.int .i64 (q0 : Int)) := by
        obtain ⟨b', o', e', hc'⟩ := HRN.out k hkR
        injection e' with e1
        injection e1 with e2 e3
        subst e2 e3
        have := hc' 1 _ rfl
        rw [hq0] at this
        exact this
      clear hcx hst he hk' hald hnew hset g0 gf hq0
      go_wp2_with fail
      go_region_held3 (fun W => W.cell? ⟨pb, ob + k * 2 + 1, none⟩ = some (.int .i64 (q0 : Int))) (first | exact x1d | exact KX.out _ (((Below.refl wr.heap.size wr).drew).alloc (Nat.le_refl _) _) | exact KX.out _ (((Below.refl wr.heap.size wr).alloc (Nat.le_refl _) _).drew) | exact x1e) (first | (go_simp))
      clear y0 yf x1 x1d x1e KX
      go_wp2_with fail
      go_roundg (m - (k + 1))
      case measure => omega
      case rel => exact ⟨k + 1, by omega, rfl, by go_num, ⟨HNEW.out, HBN.out, HRN.out⟩⟩
    · obtain rfl : m = k := by omega
      have hT := hst.out.1
      rw [List.take_of_length_le (by rw [List.length_map, HM.out]; exact Nat.le_refl _), ← HRH.out] at hT
      have HS0 : Hidden (WyOk l (startV l) true ∧ WvB w wr gw (startV l) ∧ Below w.heap.size w wr) := ⟨⟨VOk.start HG.out, fun e => by cases e⟩, hT, hst.out.2.1⟩
      clear hT hst HR HW1 HB1 HRH
      go_wp2_with fail
      go_loopg [6] (mesV (startV l) true) (fun q b wr => ∃ (V : WV) (bb : Bool), q = mesV V bb ∧ b = .bool bb ∧ Hidden (WyOk l V bb ∧ WvB w wr gw V ∧ Below w.heap.size w wr))
      case atStart => exact ⟨_, true, rfl, rfl, HS0⟩
      case round =>
        obtain ⟨V, bb, rfl, rfl, hst⟩ := hrel
        generalize wr = wb at *
        cases bb with
        | false =>
          have hV : V = wayOf (fromW l) := funext fun y => hst.out.1.fin rfl y
          have hw := hst.out.2.1
          rw [hV] at hw
          have HF := Hidden.mk (And.intro hw hst.out.2.2)
          clear hst hV hw
          go_wp2_with fail
          go_ret
          exact ⟨_, rfl, HF.out.1, HF.out.2⟩
        | true =>
          have HN := Hidden.mk (hst.out.1.next HG.out)
          have HST := Hidden.mk hst.out
          clear hst HS0
          go_wp2_with fail
          go_loopg [6, 7] 40 (fun q a hh wq => ∃ k : Nat, k ≤ 40 ∧ q = 40 - k ∧ hh = .int .i64 ((k : Int) + 1) ∧ a = .bool (atH l V k).2 ∧ Hidden (WvB w wq gw (atH l V k).1 ∧ Below w.heap.size w wq))
          case atStart => exact ⟨0, by omega, rfl, rfl, rfl, ⟨HST.out.2.1, HST.out.2.2⟩⟩
          case round =>
            obtain ⟨k, hk, rfl, rfl, rfl, hsq⟩ := hrel
            generalize wr = wq at *
            have HVK := Hidden.mk (atH_ok HG.out HST.out.1.ok k)
            have HSU := Hidden.mk (atH_succ l V k)
            by_cases hlt : k < 40
            · have c0 : decide ((k : Int) + 1 ≤ 40) = true := decide_eq_true (by omega)
              have c0' : decide (k + 1 ≤ 40) = true := decide_eq_true (by omega)
              have c0'' : decide (k < 40) = true := decide_eq_true hlt
              have s1 : IntKind.i64.wrap ((k : Int) + 1 + 1) = (k : Int) + 1 + 1 := IntWalk.i64_in _ (by omega)
              have j0 : (0 : Int) ≤ (k : Int) + 1 := by omega
              have j1 : (k : Int) + 1 < 41 := by omega
              obtain ⟨A2, c2, y0, -, hr2, hc2⟩ := hsq.out.1.cell (k + 1) (by omega)
              have HSQ := Hidden.mk hsq.out
              generalize hs : atH l V k = s at *
              obtain ⟨V1, b1⟩ := s
              dsimp only at *
              by_cases hnil : V1 (k + 1) = []
              · have HSS : Hidden (atH l V (k + 1) = (V1, b1)) := ⟨by rw [HSU.out]; unfold stepH; rw [if_pos hnil]⟩
                have e0 : (V1 (k + 1)).length = 0 := by rw [hnil]; rfl
                rw [e0] at y0
                clear hsq hnil e0 hs hr2 hc2
                go_wp2_with fail
                go_roundg (40 - (k + 1))
                case measure => omega
                case rel => exact ⟨k + 1, by omega, rfl, by go_num, by rw [HSS.out], ⟨by rw [HSS.out]; exact HSQ.out.1, HSQ.out.2⟩⟩
              · have hway := HVK.out.way (k + 1) hnil
                have hEk : hE l ((k : Int) + 1) = 0 := hway.hE HG.out
                obtain ⟨k', hk', ek', hh', -⟩ := hE_zero hEk
                obtain rfl : k' = k := by omega
                have HRFK := Hidden.mk (HRF.out k' wq HSQ.out.2 hlt hh')
                have hn41 : (V1 (k' + 1)).length ≤ 41 := HVK.out.len _
                have hnp : 0 < (V1 (k' + 1)).length := List.length_pos_iff.2 hnil
                have HSS : Hidden (atH l V (k' + 1) = atV (k' + 1) (V1, b1) (refsL l ((k' : Int) + 1)) (refsL l ((k' : Int) + 1)).length) := ⟨by
                  rw [HSU.out]; unfold stepH atV; rw [if_neg hnil, List.take_length]; rfl⟩
                have HAV : Hidden (∀ i, VOk l (atV (k' + 1) (V1, b1) (refsL l ((k' : Int) + 1)) i).1 ∧ (atV (k' + 1) (V1, b1) (refsL l ((k' : Int) + 1)) i).1 (k' + 1) = V1 (k' + 1)) := ⟨fun i => atV_ok HG.out HVK.out hnil i⟩
                have HYR : Hidden (∀ y ∈ refsL l ((k' : Int) + 1), y < 41) := ⟨fun y hy => by have := hE_nat (refsL_mem (y := 0) hy); omega⟩
                have HRL : Hidden ((refsL l ((k' : Int) + 1)).length ≤ 100000) := ⟨by
                  unfold refsL
                  have h1 := refsB_len l (readL l ((k' : Int) + 1) 0 (min (gL l ((k' : Int) + 1)) (gT l ((k' : Int) + 1)))) _ (Nat.le_refl _)
                  rw [List.take_length] at h1
                  refine Nat.le_trans h1 ?_
                  unfold readL
                  split
                  · rename_i hz
                    have := some_in HG.out hz
                    simp; omega
                  · simp⟩
                have e0 : (((V1 (k' + 1)).length : Int) == 0) = false := by simp; exact hnil
                have e0' : ((V1 (k' + 1)).length == 0) = false := by simp; exact hnil
                have e0'' : decide (V1 (k' + 1) = []) = false := decide_eq_false hnil
                generalize refsL l ((k' : Int) + 1) = RL at *
                clear hsq hs hway hEk ek' hh' hr2 hc2
                go_wp2_with fail
                refine HRFK.out.mono ?_
                rintro e w5 ⟨v8, rfl, hown5, hb5⟩
                obtain ⟨A8, c8, rfl, -, -⟩ := own_split hown5
                have HO5 := Hidden.mk hown5
                have HW5 := Hidden.mk (And.intro (HSQ.out.1.below hb5) (HSQ.out.2.trans (hb5.mono HSQ.out.2.size)))
                have HGQ : Hidden (gw < wq.heap.size) := ⟨HSQ.out.1.lt⟩
                clear hown5 hb5 HRFK y0 e0 e0' e0''
                go_wp2_with fail
                go_loopg [6, 9] RL.length (fun q a ii wp => ∃ i : Nat, i ≤ RL.length ∧ q = RL.length - i ∧ ii = .int .i64 (i : Int) ∧ a = .bool (atV (k' + 1) (V1, b1) RL i).2 ∧ Hidden (WvB w wp gw (atV (k' + 1) (V1, b1) RL i).1 ∧ Below w.heap.size w wp ∧ wp.ownsRow wq.heap.size 3 1 (.slice A8 RL.length c8) RL.length (RL.flatMap ncell)))
                case atStart => exact ⟨0, by omega, rfl, rfl, rfl, ⟨HW5.out.1, HW5.out.2, HO5.out⟩⟩
                case round =>
                  obtain ⟨i, hi, rfl, rfl, rfl, hsp⟩ := hrel
                  generalize wr = wp at *
                  by_cases hit : i < RL.length
                  · obtain ⟨pb2, ob2, hA8, hcx2⟩ := (own_rdX3 (f := ncell) (fun _ => rfl) rfl hsp.out.2.2) i hit
                    have y0 : wp.cell? ⟨pb2, ob2 + i, none⟩ = some (.int .i64 (RL[i] : Int)) := by simpa using hcx2 0 _ rfl
                    have h41 := HYR.out RL[i] (List.getElem_mem hit)
                    have HVS := Hidden.mk (atV_succ (k' + 1) (V1, b1) RL i hit)
                    obtain ⟨hVt, htk⟩ := HAV.out i
                    have hty41 := hVt.len RL[i]
                    obtain ⟨A2, c2, x0, -, hr2, hc2⟩ := hsp.out.1.cell (k' + 1) (by omega)
                    rw [htk] at x0 hr2 hc2
                    have HSP := Hidden.mk hsp.out
                    have HYC : Hidden (∀ W, Below wp.heap.size wp W → W.cell? ⟨pb2, ob2 + i, none⟩ = some (.int .i64 (RL[i] : Int))) := ⟨fun W hW => (hW.cell (block_lt_of_cell y0)).trans y0⟩
                    have HR2 := Hidden.mk (And.intro hr2 hc2)
                    have HTK := Hidden.mk htk
                    generalize RL[i] = y at *
                    generalize hat : atV (k' + 1) (V1, b1) RL i = t at *
                    obtain ⟨V2, b2⟩ := t
                    dsimp only at *
                    generalize hnx : V1 (k' + 1) = X at *
                    generalize hZ : V2 y = Z at *
                    have HZ := Hidden.mk hZ
                    have i0 : (0 : Int) ≤ i := by omega
                    have i1 : (i : Int) < RL.length := by omega
                    have y0i : (0 : Int) ≤ y := by omega
                    have y1i : (y : Int) < 41 := by omega
                    have s4 : IntKind.i64.wrap ((i : Int) + 1) = (i : Int) + 1 := IntWalk.i64_in _ (by have := HRL.out; omega)
                    obtain ⟨hi0, hz0, hz1, hz2⟩ := HI.out
                    subst hA8
                    clear hcx2 hsp hat hnx hZ hVt htk hr2 hc2
                    by_cases hzn : Z = []
                    · subst hzn
                      have HTT : Hidden (stepV (k' + 1) (V2, b2) y = (vset V2 y (X ++ [y]), true)) := ⟨by unfold stepV; dsimp only; rw [if_pos (.inl HZ.out), HTK.out]⟩
                      go_wp2_with (first | (at_builtin; refine wpList_append_src _ rfl (.tmp 54) (.tmp 58) _ rfl wp.heap.size 3 i0' _ 1 8 Tryz.underlying27 hi0 hz0 hz1 hz2 rfl (by decide) (.slice none 0 0) 0 [] rfl (World.ownsRow_nil _ _ _ _) A2 X.length c2 (X.flatMap ncell) rfl (Src.of_rdX ncell_len (by omega) rfl HR2.out.1) (ncell_one X) (by simp only [maxLen]; omega) (by omega) (Nat.le_refl _) ?_; intro v8 w8 hown8 hg8 hat8; rw [Nat.zero_add, List.nil_append] at hown8; have hB8 : Below wp.heap.size wp w8 := (Below.refl _ _).grown hg8 (Nat.le_refl _) (fun k hk => by simp [Value.ownBlock] at hk); have yc8 := HYC.out w8 hB8) | (at_builtin; refine wpList_append_lies _ rfl (.tmp 60) (.tmp 65) _ rfl wp.heap.size 3 i0' _ 1 8 Tryz.underlying27 hi0 hz0 hz1 hz2 rfl (by decide) v8 X.length (X.flatMap ncell) rfl (own_below hown8 ((Below.refl _ _).alloc (Nat.le_refl _) _)) ⟨(w8).heap.size, 0, none⟩ 1 1 [.int .i64 (y : Int)] rfl rfl (World.news_of_block (cs := #[.int .i64 (y : Int)]) (t := 3) (fr := (0, 0)) (heap_alloc_new (w8) _)) (by simp [Value.oneCell']) (by omega) (by simp only [maxLen]; omega) (by omega) (by have hz_ := hB8.size; rw [World.size_alloc]; omega) ((w8).heap.size + 1) (by simp) ?_; intro g9 cap9 w9 hown9 hg9 hat9 hlt9; have hgW := grown_trans' ((Below.refl w8.heap.size w8).alloc (Nat.le_refl _) _) hg9; have hB9 : Below wp.heap.size wp w9 := hB8.grown hgW hB8.size (fun q hq => (hown8.lt q hq).1); have yc9 := HYC.out w9 hB9; obtain ⟨Ax, cx, z0, zf, hrx, hcx⟩ := (HSP.out.1.below hB9).cell y h41; rw [HZ.out] at z0 hrx hcx))
                      have hownN : w9.ownsRow wp.heap.size 3 1 (.slice (some ⟨g9, 0, none⟩) (X.length + 1) cap9) (X.length + 1) ((X ++ [y]).flatMap ncell) := by
                        rw [List.flatMap_append]; simpa [ncell] using hown9
                      have hrN := own_rdX3 (f := ncell) (fun _ => rfl) (show (X ++ [y]).length = X.length + 1 by simp) hownN
                      have hcN : (X ++ [y]).length ≤ cap9 := by
                        obtain ⟨_, _, e, h1, -⟩ := own_split hownN
                        injection e with _ _ e3
                        rw [← e3] at h1; simpa using h1
                      have hWN := (HSP.out.1.below hB9).set (c := cap9) h41 hrN hcN
                      rw [show (X ++ [y]).length = X.length + 1 by simp] at hWN
                      have hBN := (HSP.out.2.1.trans (hB9.mono HSP.out.2.1.size)).setCell (p := ⟨gw, y, none⟩) (by rw [← HGW.out]; exact Nat.le_refl _) (.slice (some ⟨g9, 0, none⟩) (X.length + 1) cap9)
                      have hON : (w9.setCell ⟨gw, y, none⟩ (.slice (some ⟨g9, 0, none⟩) (X.length + 1) cap9)).ownsRow wq.heap.size 3 1 (.slice (some ⟨pb2, ob2, none⟩) RL.length c8) RL.length (RL.flatMap ncell) := ownsRow_block (own_below HSP.out.2.2 hB9) fun q hq => Below.heap_setCell _ _ _ _ (by have := (HSP.out.2.2.lt q hq).1; have := HGQ.out; dsimp only; omega)
                      have HF : Hidden (WvB w (w9.setCell ⟨gw, y, none⟩ (.slice (some ⟨g9, 0, none⟩) (X.length + 1) cap9)) gw (stepV (k' + 1) (V2, b2) y).1 ∧ Below w.heap.size w (w9.setCell ⟨gw, y, none⟩ (.slice (some ⟨g9, 0, none⟩) (X.length + 1) cap9)) ∧ (w9.setCell ⟨gw, y, none⟩ (.slice (some ⟨g9, 0, none⟩) (X.length + 1) cap9)).ownsRow wq.heap.size 3 1 (.slice (some ⟨pb2, ob2, none⟩) RL.length c8) RL.length (RL.flatMap ncell)) := ⟨by rw [HTT.out]; exact hWN, hBN, hON⟩
                      clear hownN hrN hcN hWN hBN hON hown8 hg8 hat8 hB8 yc8 hown9 hg9 hat9 hlt9 hgW hB9 yc9 z0 zf hrx hcx hi0 hz0 hz1 hz2
                      go_roundg (RL.length - (i + 1))
                      case measure => omega
                      case rel => exact ⟨i + 1, by omega, rfl, by go_num, by rw [HVS.out, HTT.out], ⟨by rw [HVS.out]; exact HF.out.1, HF.out.2.1, HF.out.2.2⟩⟩
                    · have e1 : ((Z.length : Int) == 0) = false := by simp; exact hzn
                      have e1' : (Z.length == 0) = false := by simp; exact hzn
                      have e1'' : decide (Z = []) = false := decide_eq_false hzn
                      go_wp2_with (first | (at_builtin; refine wpList_append_src _ rfl (.tmp 54) (.tmp 58) _ rfl wp.heap.size 3 i0' _ 1 8 Tryz.underlying27 hi0 hz0 hz1 hz2 rfl (by decide) (.slice none 0 0) 0 [] rfl (World.ownsRow_nil _ _ _ _) A2 X.length c2 (X.flatMap ncell) rfl (Src.of_rdX ncell_len (by omega) rfl HR2.out.1) (ncell_one X) (by simp only [maxLen]; omega) (by omega) (Nat.le_refl _) ?_; intro v8 w8 hown8 hg8 hat8; rw [Nat.zero_add, List.nil_append] at hown8; have hB8 : Below wp.heap.size wp w8 := (Below.refl _ _).grown hg8 (Nat.le_refl _) (fun k hk => by simp [Value.ownBlock] at hk); have yc8 := HYC.out w8 hB8) | (at_builtin; refine wpList_append_lies _ rfl (.tmp 60) (.tmp 65) _ rfl wp.heap.size 3 i0' _ 1 8 Tryz.underlying27 hi0 hz0 hz1 hz2 rfl (by decide) v8 X.length (X.flatMap ncell) rfl (own_below hown8 ((Below.refl _ _).alloc (Nat.le_refl _) _)) ⟨(w8).heap.size, 0, none⟩ 1 1 [.int .i64 (y : Int)] rfl rfl (World.news_of_block (cs := #[.int .i64 (y : Int)]) (t := 3) (fr := (0, 0)) (heap_alloc_new (w8) _)) (by simp [Value.oneCell']) (by omega) (by simp only [maxLen]; omega) (by omega) (by have hz_ := hB8.size; rw [World.size_alloc]; omega) ((w8).heap.size + 1) (by simp) ?_; intro g9 cap9 w9 hown9 hg9 hat9 hlt9; have hgW := grown_trans' ((Below.refl w8.heap.size w8).alloc (Nat.le_refl _) _) hg9; have hB9 : Below wp.heap.size wp w9 := hB8.grown hgW hB8.size (fun q hq => (hown8.lt q hq).1); have yc9 := HYC.out w9 hB9; obtain ⟨Ax, cx, z0, zf, hrx, hcx⟩ := (HSP.out.1.below hB9).cell y h41; rw [HZ.out] at z0 hrx hcx))
                      have hownN : w9.ownsRow wp.heap.size 3 1 (.slice (some ⟨g9, 0, none⟩) (X.length + 1) cap9) (X.length + 1) ((X ++ [y]).flatMap ncell) := by
                        rw [List.flatMap_append]; simpa [ncell] using hown9
                      have hrN := own_rdX3 (f := ncell) (fun _ => rfl) (show (X ++ [y]).length = X.length + 1 by simp) hownN
                      have hcN : (X ++ [y]).length ≤ cap9 := by
                        obtain ⟨_, _, e, h1, -⟩ := own_split hownN
                        injection e with _ _ e3
                        rw [← e3] at h1; simpa using h1
                      have hLS := less_any (some ⟨g9, 0, none⟩) Ax (X.length + 1) Z.length cap9 cx (X ++ [y]) Z w9 (by simp) rfl (by omega) (by omega) hrN hrx
                      have HLS := Hidden.mk hLS
                      clear hLS
                      by_cases hlw : lessW (X ++ [y]) Z = true
                      · rw [hlw] at HLS
                        have HTT : Hidden (stepV (k' + 1) (V2, b2) y = (vset V2 y (X ++ [y]), true)) := ⟨by unfold stepV; dsimp only; rw [if_pos (.inr (by rw [HTK.out, HZ.out]; exact hlw)), HTK.out]⟩
                        refine HLS.out.mono ?_
                        rintro e w10 ⟨rfl, hb10⟩
                        have hB10 := hB9.trans (hb10.mono hB9.size)
                        have yc10 := HYC.out w10 hB10
                        obtain ⟨Ay, cy, z1, zf1, -, -⟩ := (HSP.out.1.below hB10).cell y h41
                        clear yc8 yc9 z0 zf e1 e1' e1'' hlw
                        go_wp2_with fail
                        have hWN := (HSP.out.1.below hB10).set (c := cap9) h41 (hrN.below hb10) hcN
                        rw [show (X ++ [y]).length = X.length + 1 by simp] at hWN
                        have hBN := (HSP.out.2.1.trans (hB10.mono HSP.out.2.1.size)).setCell (p := ⟨gw, y, none⟩) (by rw [← HGW.out]; exact Nat.le_refl _) (.slice (some ⟨g9, 0, none⟩) (X.length + 1) cap9)
                        have hON : (w10.setCell ⟨gw, y, none⟩ (.slice (some ⟨g9, 0, none⟩) (X.length + 1) cap9)).ownsRow wq.heap.size 3 1 (.slice (some ⟨pb2, ob2, none⟩) RL.length c8) RL.length (RL.flatMap ncell) := ownsRow_block (own_below HSP.out.2.2 hB10) fun q hq => Below.heap_setCell _ _ _ _ (by have := (HSP.out.2.2.lt q hq).1; have := HGQ.out; dsimp only; omega)
                        have HF : Hidden (WvB w (w10.setCell ⟨gw, y, none⟩ (.slice (some ⟨g9, 0, none⟩) (X.length + 1) cap9)) gw (stepV (k' + 1) (V2, b2) y).1 ∧ Below w.heap.size w (w10.setCell ⟨gw, y, none⟩ (.slice (some ⟨g9, 0, none⟩) (X.length + 1) cap9)) ∧ (w10.setCell ⟨gw, y, none⟩ (.slice (some ⟨g9, 0, none⟩) (X.length + 1) cap9)).ownsRow wq.heap.size 3 1 (.slice (some ⟨pb2, ob2, none⟩) RL.length c8) RL.length (RL.flatMap ncell)) := ⟨by rw [HTT.out]; exact hWN, hBN, hON⟩
                        clear hownN hrN hcN hWN hBN hON hown8 hg8 hat8 hB8 hown9 hg9 hat9 hlt9 hgW hB9 hb10 hB10 yc10 z1 zf1 hrx hcx hi0 hz0 hz1 hz2
                        go_roundg (RL.length - (i + 1))
                        case measure => omega
                        case rel => exact ⟨i + 1, by omega, rfl, by go_num, by rw [HVS.out, HTT.out], ⟨by rw [HVS.out]; exact HF.out.1, HF.out.2.1, HF.out.2.2⟩⟩
                      · have hlf : lessW (X ++ [y]) Z = false := by simpa using hlw
                        rw [hlf] at HLS
                        have HTT : Hidden (stepV (k' + 1) (V2, b2) y = (V2, b2)) := ⟨by
                          unfold stepV; dsimp only; rw [if_neg]
                          rintro (h1 | h1)
                          · rw [HZ.out] at h1; exact hzn h1
                          · rw [HTK.out, HZ.out] at h1; exact hlw h1⟩
                        refine HLS.out.mono ?_
                        rintro e w10 ⟨rfl, hb10⟩
                        have hB10 := hB9.trans (hb10.mono hB9.size)
                        have HF : Hidden (WvB w w10 gw (stepV (k' + 1) (V2, b2) y).1 ∧ Below w.heap.size w w10 ∧ w10.ownsRow wq.heap.size 3 1 (.slice (some ⟨pb2, ob2, none⟩) RL.length c8) RL.length (RL.flatMap ncell)) := ⟨by rw [HTT.out]; exact HSP.out.1.below hB10, HSP.out.2.1.trans (hB10.mono HSP.out.2.1.size), own_below HSP.out.2.2 hB10⟩
                        clear yc8 yc9 z0 zf e1 e1' e1'' hlw hlf hownN hrN hcN hown8 hg8 hat8 hB8 hown9 hg9 hat9 hlt9 hgW hB9 hb10 hB10 hrx hcx hi0 hz0 hz1 hz2
                        go_wp2_with fail
                        go_roundg (RL.length - (i + 1))
                        case measure => omega
                        case rel => exact ⟨i + 1, by omega, rfl, by go_num, by rw [HVS.out, HTT.out], ⟨by rw [HVS.out]; exact HF.out.1, HF.out.2.1, HF.out.2.2⟩⟩
                  · obtain rfl : i = RL.length := by omega
                    have HF : Hidden (WvB w wp gw (atV (k' + 1) (V1, b1) RL RL.length).1 ∧ Below w.heap.size w wp) := ⟨hsp.out.1, hsp.out.2.1⟩
                    have d8 : decide ((RL.length : Int) < RL.length) = false := decide_eq_false (by omega)
                    have HS2 : Hidden (atH l V (k' + 1) = atV (k' + 1) (V1, b1) RL RL.length) := ⟨HSS.out⟩
                    generalize atV (k' + 1) (V1, b1) RL RL.length = tN at *
                    obtain ⟨VN, bN⟩ := tN
                    dsimp only at *
                    clear hsp HSS
                    go_wp2_with fail
                    go_roundg (40 - (k' + 1))
                    case measure => omega
                    case rel => exact ⟨k' + 1, by omega, rfl, by go_num, by rw [HS2.out], ⟨by rw [HS2.out]; exact HF.out.1, HF.out.2⟩⟩
            · obtain rfl : k = 40 := by omega
              have HF : Hidden (WyOk l (atH l V 40).1 (atH l V 40).2 ∧ WvB w wq gw (atH l V 40).1 ∧ Below w.heap.size w wq) := ⟨HN.out.1, hsq.out.1, hsq.out.2⟩
              have HME := Hidden.mk HN.out.2
              clear hsq HVK HSU HN HST
              generalize atH l V 40 = sN at *
              obtain ⟨VN, bN⟩ := sN
              dsimp only at *
              go_wp2_with fail
              go_roundg (mesV VN bN)
              case measure => exact HME.out
              case rel => exact ⟨VN, bN, rfl, rfl, HF⟩
end Go.Proofs.YtcahgmnkphmnhaaGreatDoor
/- The reference: Live. -/
namespace Go.Proofs.YtcahgmnkphmnhaaGreatDoor
open Go.RowKit

def pickF (l : Bytes) (b : Bool) (k : Nat) : List Nat := ((List.range k).filter fun j => hasE (rawE l j) && ((fromW l (j + 1)).isSome == b)).map (· + 1)
theorem pickF_succ (l : Bytes) (b : Bool) (k : Nat) : pickF l b (k + 1) = pickF l b k ++ (if (hasE (rawE l k) && ((fromW l (k + 1)).isSome == b)) = true then [k + 1] else []) := by
  unfold pickF
  rw [List.range_succ, List.filter_append, List.map_append]
  congr 1
  cases h : (hasE (rawE l k) && ((fromW l (k + 1)).isSome == b)) <;> simp [h]
theorem pickF_len (l : Bytes) (b : Bool) (k : Nat) : (pickF l b k).length ≤ k := by
  unfold pickF; rw [List.length_map]
  have := List.length_filter_le (fun j => hasE (rawE l j) && ((fromW l (j + 1)).isSome == b)) (List.range k)
  rwa [List.length_range] at this
theorem pickF_up (l : Bytes) (b : Bool) (k : Nat) : (pickF l b k).Pairwise (· < ·) := by
  unfold pickF
  refine List.pairwise_map.2 ?_
  exact ((List.pairwise_lt_range (n := k)).filter _).imp fun h => by omega
theorem pickF_mem {l : Bytes} {b : Bool} {x : Nat} : x ∈ pickF l b 40 ↔ ∃ k, k < 40 ∧ hasE (rawE l k) = true ∧ (fromW l (k + 1)).isSome = b ∧ x = k + 1 := by
  unfold pickF
  simp only [List.mem_map, List.mem_filter, List.mem_range, Bool.and_eq_true, beq_iff_eq]
  constructor
  · rintro ⟨k, ⟨h1, h2, h3⟩, rfl⟩; exact ⟨k, h1, h2, h3, rfl⟩
  · rintro ⟨k, h1, h2, h3, rfl⟩; exact ⟨k, ⟨h1, h2, h3⟩, rfl⟩
theorem pick_live {l : Bytes} (hg : Good l) : pickF l true 40 = liveL l := by
  have hu := liveL_up l
  have hm : ∀ x, x ∈ liveL l ↔ (fromW l x).isSome = true := fun x => liveL_mem hg
  have hp : ∀ x, x ∈ pickF l true 40 ↔ (fromW l x).isSome = true := fun x => by
    rw [pickF_mem]
    constructor
    · rintro ⟨k, _, _, h, rfl⟩; exact h
    · intro h
      obtain ⟨k, h1, h2, h3, -⟩ := hE_zero (way_hE hg h)
      obtain rfl : x = k + 1 := by omega
      exact ⟨k, h1, h3, h, rfl⟩
  have hq := pickF_up l true 40
  generalize liveL l = S at *
  generalize pickF l true 40 = T at *
  exact up_ext hq hu fun x => (hp x).trans (hm x).symm
theorem pick_dead (l : Bytes) : pickF l false 40 = deadL l := by
  have hu := deadL_up l
  have hp : ∀ x, x ∈ pickF l false 40 ↔ x ∈ deadL l := fun x => by
    rw [pickF_mem, deadL_mem]
    constructor
    · rintro ⟨k, a, b, c, rfl⟩; exact ⟨k, a, b, by simpa using c, rfl⟩
    · rintro ⟨k, a, b, c, rfl⟩; exact ⟨k, a, b, by rw [c]; rfl, rfl⟩
  have hq := pickF_up l false 40
  generalize deadL l = S at *
  generalize pickF l false 40 = T at *
  exact up_ext hq hu hp
theorem way_len {l : Bytes} (hg : Good l) (x : Nat) : ((fromW l x).isSome = true ↔ 0 < (wayOf (fromW l) x).length) ∧ (wayOf (fromW l) x).length ≤ 41 := by
  obtain ⟨D, hD, -⟩ := fromW_ok hg
  have hm := (MinOk.at_ hg 41).len
  have hln : ∀ p, fromW l x = some p → p.length ≤ 40 := fun p hp => by
    have hnd : p.Nodup := by
      refine List.pairwise_iff_getElem.2 fun i j hi hj hij e' => ?_
      have h1 := hD.pre _ x p (Nat.le_refl _) hp i hi
      have h2 := hD.pre _ x p (Nat.le_refl _) hp j hj
      rw [e', h2] at h1
      have := congrArg List.length (Option.some.inj h1)
      simp at this; omega
    refine nodup_le1 hnd fun k hk => ?_
    obtain ⟨i, hi, rfl⟩ := List.getElem_of_mem hk
    exact hE_nat (hD.dh _ ((hD.dk _).1 (by rw [hD.pre _ x p (Nat.le_refl _) hp i hi]; rfl)))
  have hw := hD.ways x
  generalize fromW l = W at *
  unfold wayOf
  cases h : W x with
  | none => simp
  | some p =>
    obtain ⟨q, e, -⟩ := hw p h
    have := hln p h
    refine ⟨⟨fun _ => by rw [e]; simp, fun _ => rfl⟩, ?_⟩
    show p.length ≤ 41
    omega
set_option maxRecDepth 100000 in
set_option maxHeartbeats 1000000 in
theorem rlive_ok (p off n c : Nat) (l : Bytes) (w : World) (hn : l.length = n) (hg : Good l) (hnc : n ≤ c) (hrd : Rd w (some ⟨p, off, none⟩) l) :
    Calls Tryz.prog 14 #[.slice (some ⟨p, off, none⟩) n c] w fun e w' => ∃ v1 v2, e = .returned (.tuple #[v1, v2]) ∧ w'.ownsRow w.heap.size 3 1 v1 (liveL l).length ((liveL l).flatMap ncell) ∧ w'.ownsRow w.heap.size 3 1 v2 (deadL l).length ((deadL l).flatMap ncell) ∧ Below w.heap.size w w' := by
  obtain ⟨i0', hi0, hz0, hz1, hz2⟩ := info_parts int_infoC
  have HI := Hidden.mk (And.intro hi0 (And.intro hz0 (And.intro hz1 hz2)))
  have hbd := hg.bd
  have HWY := Hidden.mk (ways_any p off n c l w hn hg hnc hrd)
  have HENT : Hidden (∀ k : Nat, k < 40 → ∀ W, Below w.heap.size w W → Calls Tryz.prog 36 #[.slice (some ⟨p, off, none⟩) n c, .int .i64 ((k : Int) + 1)] W fun e w' => e = .returned (.tuple #[entR ((k : Int) + 1) (rawE l k), .bool (hasE (rawE l k))]) ∧ Below W.heap.size W w') := ⟨fun k hk W hW => refEntry_ok _ n c l k W hn (by omega) hnc (hrd.below hW) hk⟩
  have HWL : Hidden (∀ x, ((fromW l x).isSome = true ↔ 0 < (wayOf (fromW l) x).length) ∧ (wayOf (fromW l) x).length ≤ 41) := ⟨way_len hg⟩
  have HPS : Hidden (∀ b k, pickF l b (k + 1) = pickF l b k ++ (if (hasE (rawE l k) && ((fromW l (k + 1)).isSome == b)) = true then [k + 1] else [])) := ⟨pickF_succ l⟩
  have HPL : Hidden (∀ b k, (pickF l b k).length ≤ k) := ⟨pickF_len l⟩
  have HL1 : Hidden (pickF l true 40 = liveL l ∧ pickF l false 40 = deadL l ∧ pickF l true 0 = [] ∧ pickF l false 0 = []) := ⟨pick_live hg, pick_dead l, rfl, rfl⟩
  generalize liveL l = LV at *
  generalize deadL l = DD at *
  generalize pickF l = PF at *
  generalize fromW l = W at *
  clear hn hg hrd hi0 hz0 hz1 hz2 hbd
  go_enter Tryz.func14, Tryz.ntmps14
  go_wp2_with fail
  refine HWY.out.mono ?_
  rintro e w1 ⟨gw, rfl, hW1, hb1⟩
  have HW1 := Hidden.mk hW1
  have HB1 := Hidden.mk hb1
  clear hW1 hb1 HWY
  go_wp2_with fail
  go_loopg [5, 6, 7] 40 (fun q v5 v6 hh wr => ∃ k : Nat, k ≤ 40 ∧ q = 40 - k ∧ hh = .int .i64 ((k : Int) + 1) ∧ Hidden (Below w1.heap.size w1 wr ∧ wr.ownsRow w1.heap.size 3 1 v5 (PF true k).length ((PF true k).flatMap ncell) ∧ wr.ownsRow w1.heap.size 3 1 v6 (PF false k).length ((PF false k).flatMap ncell) ∧ ∀ q, v5.ownBlock = some q → v6.ownBlock ≠ some q))
  case atStart => exact ⟨0, by omega, rfl, rfl, ⟨Below.refl _ _, by rw [HL1.out.2.2.1]; exact World.ownsRow_nil _ _ _ _, by rw [HL1.out.2.2.2]; exact World.ownsRow_nil _ _ _ _, fun q hq => by cases hq⟩⟩
  case round =>
    obtain ⟨k, hk, rfl, rfl, hst⟩ := hrel
    by_cases hlt : k < 40
    · have c0 : decide ((k : Int) + 1 ≤ 40) = true := decide_eq_true (by omega)
      have c0' : decide (k + 1 ≤ 40) = true := decide_eq_true (by omega)
      have c0'' : decide (k < 40) = true := decide_eq_true hlt
      have s1 : IntKind.i64.wrap ((k : Int) + 1 + 1) = (k : Int) + 1 + 1 := IntWalk.i64_in _ (by omega)
      have j0 : (0 : Int) ≤ (k : Int) + 1 := by omega
      have j1 : (k : Int) + 1 < 41 := by omega
      have HE := Hidden.mk (HENT.out k hlt wr (HB1.out.trans (hst.out.1.mono HB1.out.size)))
      unfold entR entV at HE
      have HP1 := Hidden.mk (HPS.out true k)
      have HP0 := Hidden.mk (HPS.out false k)
      have hl1 := HPL.out true k
      have hl0 := HPL.out false k
      have HST := Hidden.mk hst.out
      have HWK := Hidden.mk (HWL.out (k + 1))
      generalize PF true k = P1 at *
      generalize PF false k = P0 at *
      generalize hasE (rawE l k) = hs at *
      generalize (rAt (rawE l k) : Int) = a1 at *
      generalize (rLen (rawE l k) : Int) = a2 at *
      generalize rTag (rawE l k) = a3 at *
      clear hst
      go_wp2_with fail
      refine HE.out.mono ?_
      rintro e w5 ⟨rfl, hb5⟩
      have hal := hb5.alloc hb5.size (.cells #[.int .i64 ((k : Int) + 1), .int .i64 a1, .int .i64 a2, .int .i64 a3] 68)
      have HB6 := Hidden.mk (HST.out.1.trans (hal.mono HST.out.1.size))
      have HO5 := Hidden.mk (own_below HST.out.2.1 hal)
      have HO6 := Hidden.mk (own_below HST.out.2.2.1 hal)
      have HSEP := Hidden.mk HST.out.2.2.2
      clear hb5 hal HST HE
      cases hs with
      | false =>
        have HS1 : Hidden (PF true (k + 1) = P1 ∧ PF false (k + 1) = P0) := ⟨by rw [HP1.out]; simp, by rw [HP0.out]; simp⟩
        clear HP1 HP0
        go_wp2_with fail
        go_roundg (40 - (k + 1))
        case measure => omega
        case rel => exact ⟨k + 1, by omega, rfl, by go_num, ⟨HB6.out, by rw [HS1.out.1]; exact HO5.out, by rw [HS1.out.2]; exact HO6.out, HSEP.out⟩⟩
      | true =>
        obtain ⟨hi0, hz0, hz1, hz2⟩ := HI.out
        obtain ⟨Ax, cx, x0, -, -, -⟩ := (HW1.out.below HB6.out).cell (k + 1) (by omega)
        generalize hX : (wayOf W (k + 1)).length = X at *
        cases hsm : (W (k + 1)).isSome with
        | true =>
          have hpos : 0 < X := HWK.out.1.1 hsm
          have d1 : decide (0 < X) = true := decide_eq_true hpos
          have d1' : decide ((0 : Int) < (X : Int)) = true := decide_eq_true (by omega)
          have HS1 : Hidden (PF true (k + 1) = P1 ++ [k + 1] ∧ PF false (k + 1) = P0) := ⟨by rw [HP1.out, hsm]; simp, by rw [HP0.out, hsm]; simp⟩
          clear HP1 HP0 HWK hsm hpos
          go_wp2_with (at_builtin; refine wpList_append_lies _ rfl (.tmp 31) (.tmp 33) _ rfl w1.heap.size 3 i0' _ 1 8 Tryz.underlying27 hi0 hz0 hz1 hz2 rfl (by decide) u5 P1.length (P1.flatMap ncell) rfl (own_below HO5.out ((Below.refl _ _).alloc (Nat.le_refl _) _)) ⟨w5.heap.size + 1, 0, none⟩ 1 1 [.int .i64 ((k : Int) + 1)] rfl rfl (World.news_of_block (cs := #[.int .i64 ((k : Int) + 1)]) (t := 3) (fr := (0, 0)) (by have hq_ := heap_alloc_new ((w5.alloc (.cells #[.int .i64 ((k : Int) + 1), .int .i64 a1, .int .i64 a2, .int .i64 a3] 68))) (.cells #[.int .i64 ((k : Int) + 1)] 3); rwa [World.size_alloc] at hq_)) (by simp [Value.oneCell']) (by omega) (by simp only [maxLen]; omega) (by omega) (by have hz_ := HB6.out.size; rw [World.size_alloc]; omega) (w5.heap.size + 1 + 1) (by simp) ?_; intro g8 cap8 w8 hown8 hg8 hat8 hlt8)
          have hgW := grown_trans' ((Below.refl (w5.alloc (.cells #[.int .i64 ((k : Int) + 1), .int .i64 a1, .int .i64 a2, .int .i64 a3] 68)).heap.size (w5.alloc (.cells #[.int .i64 ((k : Int) + 1), .int .i64 a1, .int .i64 a2, .int .i64 a3] 68))).alloc (Nat.le_refl _) _) hg8
          have hB8 : Below w1.heap.size w1 w8 := HB6.out.grown hgW HB6.out.size (fun q hq => (HO5.out.lt q hq).1)
          have hO6 := own_other HO6.out hgW fun q hq e => HSEP.out q e hq
          have hsz : (w5.alloc (.cells #[.int .i64 ((k : Int) + 1), .int .i64 a1, .int .i64 a2, .int .i64 a3] 68)).heap.size = w5.heap.size + 1 := by simp
          have HF : Hidden (Below w1.heap.size w1 w8 ∧ w8.ownsRow w1.heap.size 3 1 (.slice (some ⟨g8, 0, none⟩) (P1.length + 1) cap8) (P1 ++ [k + 1]).length ((P1 ++ [k + 1]).flatMap ncell) ∧ w8.ownsRow w1.heap.size 3 1 u6 P0.length (P0.flatMap ncell) ∧ ∀ q, (Value.slice (some ⟨g8, 0, none⟩) (P1.length + 1) cap8).ownBlock = some q → u6.ownBlock ≠ some q) := ⟨hB8, by rw [List.length_append, List.flatMap_append]; simpa [ncell] using hown8, hO6, fun q hq e => by
            have hq' : g8 = q := by simpa [Value.ownBlock] using hq
            subst hq'
            rcases hat8 with h8 | h8
            · exact HSEP.out _ h8 e
            · have := (HO6.out.lt _ e).2; omega⟩
          clear hgW hB8 hO6 hsz hown8 hg8 hat8 hlt8 hi0 hz0 hz1 hz2 x0
          go_roundg (40 - (k + 1))
          case measure => omega
          case rel => exact ⟨k + 1, by omega, rfl, by go_num, ⟨HF.out.1, by rw [HS1.out.1]; exact HF.out.2.1, by rw [HS1.out.2]; exact HF.out.2.2.1, HF.out.2.2.2⟩⟩
        | false =>
          have hz : X = 0 := by
            rcases Nat.eq_zero_or_pos X with h | h
            · exact h
            · have := HWK.out.1.2 h; rw [hsm] at this; cases this
          have HS1 : Hidden (PF true (k + 1) = P1 ∧ PF false (k + 1) = P0 ++ [k + 1]) := ⟨by rw [HP1.out, hsm]; simp, by rw [HP0.out, hsm]; simp⟩
          subst hz
          clear HP1 HP0 HWK hsm
          go_wp2_with (at_builtin; refine wpList_append_lies _ rfl (.tmp 36) (.tmp 38) _ rfl w1.heap.size 3 i0' _ 1 8 Tryz.underlying27 hi0 hz0 hz1 hz2 rfl (by decide) u6 P0.length (P0.flatMap ncell) rfl (own_below HO6.out ((Below.refl _ _).alloc (Nat.le_refl _) _)) ⟨w5.heap.size + 1, 0, none⟩ 1 1 [.int .i64 ((k : Int) + 1)] rfl rfl (World.news_of_block (cs := #[.int .i64 ((k : Int) + 1)]) (t := 3) (fr := (0, 0)) (by have hq_ := heap_alloc_new ((w5.alloc (.cells #[.int .i64 ((k : Int) + 1), .int .i64 a1, .int .i64 a2, .int .i64 a3] 68))) (.cells #[.int .i64 ((k : Int) + 1)] 3); rwa [World.size_alloc] at hq_)) (by simp [Value.oneCell']) (by omega) (by simp only [maxLen]; omega) (by omega) (by have hz_ := HB6.out.size; rw [World.size_alloc]; omega) (w5.heap.size + 1 + 1) (by simp) ?_; intro g8 cap8 w8 hown8 hg8 hat8 hlt8)
          have hgW := grown_trans' ((Below.refl (w5.alloc (.cells #[.int .i64 ((k : Int) + 1), .int .i64 a1, .int .i64 a2, .int .i64 a3] 68)).heap.size (w5.alloc (.cells #[.int .i64 ((k : Int) + 1), .int .i64 a1, .int .i64 a2, .int .i64 a3] 68))).alloc (Nat.le_refl _) _) hg8
          have hB8 : Below w1.heap.size w1 w8 := HB6.out.grown hgW HB6.out.size (fun q hq => (HO6.out.lt q hq).1)
          have hO5 := own_other HO5.out hgW fun q hq e => HSEP.out q hq e
          have hsz : (w5.alloc (.cells #[.int .i64 ((k : Int) + 1), .int .i64 a1, .int .i64 a2, .int .i64 a3] 68)).heap.size = w5.heap.size + 1 := by simp
          have HF : Hidden (Below w1.heap.size w1 w8 ∧ w8.ownsRow w1.heap.size 3 1 u5 P1.length (P1.flatMap ncell) ∧ w8.ownsRow w1.heap.size 3 1 (.slice (some ⟨g8, 0, none⟩) (P0.length + 1) cap8) (P0 ++ [k + 1]).length ((P0 ++ [k + 1]).flatMap ncell) ∧ ∀ q, u5.ownBlock = some q → (Value.slice (some ⟨g8, 0, none⟩) (P0.length + 1) cap8).ownBlock ≠ some q) := ⟨hB8, hO5, by rw [List.length_append, List.flatMap_append]; simpa [ncell] using hown8, fun q hq e => by
            have hq' : g8 = q := by simpa [Value.ownBlock] using e
            subst hq'
            rcases hat8 with h8 | h8
            · exact HSEP.out _ hq h8
            · have := (HO5.out.lt _ hq).2; omega⟩
          clear hgW hB8 hO5 hsz hown8 hg8 hat8 hlt8 hi0 hz0 hz1 hz2 x0
          go_roundg (40 - (k + 1))
          case measure => omega
          case rel => exact ⟨k + 1, by omega, rfl, by go_num, ⟨HF.out.1, by rw [HS1.out.1]; exact HF.out.2.1, by rw [HS1.out.2]; exact HF.out.2.2.1, HF.out.2.2.2⟩⟩
    · obtain rfl : k = 40 := by omega
      have hT := hst.out
      rw [HL1.out.1, HL1.out.2.1] at hT
      have HF := Hidden.mk (And.intro (own_base hT.2.1 HB1.out.size) (And.intro (own_base hT.2.2.1 HB1.out.size) (HB1.out.trans (hT.1.mono HB1.out.size))))
      clear hT hst
      go_wp2_with fail
      go_ret2
      exact ⟨_, _, rfl, HF.out⟩
end Go.Proofs.YtcahgmnkphmnhaaGreatDoor
/- The contracts of errors.As at a target that points to an api.Errno, of plain.Told and of vaultsame.Error. After the guide's worked example on errors.As at a concrete target. -/
namespace Go.Proofs.YtcahgmnkphmnhaaGreatDoor
open Go.RowKit Go.Extern.Stop Go.Stop Go.Extern

/-- errors.As(nil, target) -/
theorem as_nil (t : Value) (w : World) :
    Calls Tryz.prog 95 #[.nilIface, t] w fun e w' => e = .returned (.bool false) ∧ w' = w := by
  go_enter Tryz.func95, Tryz.ntmps95
  go_wp2
  go_ret
  exact ⟨rfl, rfl⟩

theorem rl_valueOfP (t : Addr) (w : World) : (ReflectliteValue.unpack (.iface 145 (.pointer (some t)))).run Tryz.prog w
    = .ok (.agg #[.pointer (some ⟨1, 145, none⟩), .pointer (some ⟨w.heap.size, 0, none⟩), .int .u64 150]) (w.alloc (.cells #[.pointer (some t)] 145)) := by kernel_rfl
theorem rl_typeP (a : Addr) (w : World) : (ReflectliteValue.methodAny (ReflectliteValue.valueError "reflectlite.Value.Type" 0) (fun t _ _ _ => ReflectliteType.toType t) #[.agg #[.pointer (some ⟨1, 145, none⟩), .pointer (some a), .int .u64 150]]).run Tryz.prog w
    = .ok (.iface 208 (.agg #[.pointer (some ⟨1, 145, none⟩)])) w := by kernel_rfl
theorem rl_kindP (w : World) : ((ReflectliteType.abiMethod fun t => (fun a : Nat => Value.int IntKind.u8 (a : Int)) <$> Rtype.kind t) #[.pointer (some ⟨1, 145, none⟩)]).run Tryz.prog w = .ok (.int .u8 22) w := by kernel_rfl
theorem rl_kindE (w : World) : ((ReflectliteType.abiMethod fun t => (fun a : Nat => Value.int IntKind.u8 (a : Int)) <$> Rtype.kind t) #[.pointer (some ⟨1, 79, none⟩)]).run Tryz.prog w = .ok (.int .u8 2) w := by kernel_rfl
theorem rl_m (z : Sem Value) (f : TypeId → Addr → Nat → Nat → Sem Value) (v : Value) :
    ReflectliteValue.method z f #[v] = (do match ← ReflectliteValue.parts v with | none => z | some (t, a, fl) => f t a fl (fl % 32)) := rfl
theorem rl_partsP (a : Addr) (w : World) : (ReflectliteValue.parts (.agg #[.pointer (some ⟨1, 145, none⟩), .pointer (some a), .int .u64 150])).run Tryz.prog w = .ok (some (145, a, 150)) w := by kernel_rfl
theorem rl_isNilP (a p : Addr) (W : World) (ha : W.cell? a = some (.pointer (some p))) :
    (ReflectliteValue.method (ReflectliteValue.valueError "reflectlite.Value.IsNil" 0) ReflectliteValue.isNil #[.agg #[.pointer (some ⟨1, 145, none⟩), .pointer (some a), .int .u64 150]]).run Tryz.prog W = .ok (.bool false) W := by
  rw [rl_m]
  simp only [Sem.run_bind, rl_partsP, Result.andThen]
  simp [ReflectliteValue.isNil, loadVar, isAgg, underlying, Tryz.underlying145, ha, Result.andThen]
theorem rl_elemP (w : World) : (ReflectliteType.method ReflectliteType.elem #[.agg #[.pointer (some ⟨1, 145, none⟩)]]).run Tryz.prog w = .ok (.iface 208 (.agg #[.pointer (some ⟨1, 79, none⟩)])) w := by kernel_rfl
theorem rl_implE (w : World) : (ReflectliteType.relation "Implements" ReflectliteType.implements_ #[.agg #[.pointer (some ⟨1, 79, none⟩)], .iface 208 (.agg #[.pointer (some ⟨1, 32, none⟩)])]).run Tryz.prog w = .ok (.bool true) w := by kernel_rfl
theorem rl_typeOfE (v : Value) (w : World) : (ReflectliteType.typeOf #[.iface 79 v]).run Tryz.prog w = .ok (.iface 208 (.agg #[.pointer (some ⟨1, 79, none⟩)])) w := by kernel_rfl
theorem rl_assignE (w : World) : (ReflectliteType.relation "AssignableTo" ReflectliteType.assignableTo #[.agg #[.pointer (some ⟨1, 79, none⟩)], .iface 208 (.agg #[.pointer (some ⟨1, 79, none⟩)])]).run Tryz.prog w = .ok (.bool true) w := by kernel_rfl
theorem rl_valueOfE (k : Int) (w : World) : (ReflectliteValue.unpack (.iface 79 (.int .i64 k))).run Tryz.prog w
    = .ok (.agg #[.pointer (some ⟨1, 79, none⟩), .pointer (some ⟨w.heap.size, 0, none⟩), .int .u64 130]) (w.alloc (.cells #[.int .i64 k] 79)) := by kernel_rfl
theorem rl_elemOfP (w : World) : (Rtype.elem? 145).run Tryz.prog w = .ok (some 79) w := by kernel_rfl
theorem rl_mkE (p : Addr) (w : World) : (ReflectliteValue.mk 79 p ReflectliteValue.flagAddr).run Tryz.prog w = .ok (.agg #[.pointer (some ⟨1, 79, none⟩), .pointer (some p), .int .u64 386]) w := by kernel_rfl
theorem rl_elemVP (a p : Addr) (W : World) (ha : W.cell? a = some (.pointer (some p))) :
    (ReflectliteValue.method (ReflectliteValue.valueError "reflectlite.Value.Elem" 0) ReflectliteValue.elem #[.agg #[.pointer (some ⟨1, 145, none⟩), .pointer (some a), .int .u64 150]]).run Tryz.prog W
      = .ok (.agg #[.pointer (some ⟨1, 79, none⟩), .pointer (some p), .int .u64 386]) W := by
  rw [rl_m]
  simp only [Sem.run_bind, rl_partsP, Result.andThen]
  simp [ReflectliteValue.elem, loadVar, isAgg, underlying, Tryz.underlying145, ha, Result.andThen, rl_elemOfP, rl_mkE]
theorem rl_s (v x : Value) : ReflectliteValue.set #[v, x] = (do
    let (some (dst, a, fl), some (src, b, _)) := (← ReflectliteValue.parts v, ← ReflectliteValue.parts x)
      | unsupported (.noEntry "extern/(internal/reflectlite.Value).Set.zeroValue")
    if fl / ReflectliteValue.flagAddr % 2 == 0 then unsupported (.noEntry "extern/(internal/reflectlite.Value).Set.unaddressable")
    let val ← loadVar src b
    if ← Rtype.directlyAssignable dst src then storeVar dst a val
    else if ← Rtype.implements dst src then
      if (← Rtype.kind src) == 20 then
        match val with
        | .nilIface => unsupported (.noEntry "extern/reflectlite: a nil value of one interface type handed on as a value of another")
        | _ => storeVar dst a val
      else storeVar dst a (.iface src val)
    else panicString ("reflectlite.Set: value of type " ++ (← Rtype.spelt src) ++ " is not assignable to type " ++ (← Rtype.spelt dst))
    pure (.tuple #[])) := rfl
theorem rl_partsEa (a : Addr) (w : World) : (ReflectliteValue.parts (.agg #[.pointer (some ⟨1, 79, none⟩), .pointer (some a), .int .u64 386])).run Tryz.prog w = .ok (some (79, a, 386)) w := by kernel_rfl
theorem rl_partsE (a : Addr) (w : World) : (ReflectliteValue.parts (.agg #[.pointer (some ⟨1, 79, none⟩), .pointer (some a), .int .u64 130])).run Tryz.prog w = .ok (some (79, a, 130)) w := by kernel_rfl
theorem rl_directE (w : World) : (Rtype.directlyAssignable 79 79).run Tryz.prog w = .ok true w := by kernel_rfl
theorem rl_setE (ta b : Addr) (k : Int) (old : Value) (W : World) (hb : W.cell? b = some (.int .i64 k)) (ht : W.cell? ta = some old) (hf : W.frozen? ta = false) :
    (ReflectliteValue.set #[.agg #[.pointer (some ⟨1, 79, none⟩), .pointer (some ta), .int .u64 386], .agg #[.pointer (some ⟨1, 79, none⟩), .pointer (some b), .int .u64 130]]).run Tryz.prog W
      = .ok (.tuple #[]) (W.setCell ta (.int .i64 k)) := by
  rw [rl_s]
  simp only [Sem.run_bind, rl_partsEa, rl_partsE, Result.andThen]
  simp [ReflectliteValue.flagAddr, loadVar, isAgg, underlying, Tryz.underlying79, hb, Result.andThen, rl_directE, storeVar, Value.cells, storeCells, Addr.add]
  rw [run_store Tryz.prog W ta _ _ (by rfl)]
  simp [ht, hf]

/-- what the row's condition gives: the variable errors.errorType -/
def HasType (w : World) : Prop := w.cell? ⟨0, 0, none⟩ = some (.iface 208 (.agg #[.pointer (some ⟨1, 32, none⟩)]))
theorem HasType.below {B : Nat} {w w' : World} (h : HasType w) (hB : 0 < B) (hb : Below B w w') : HasType w' := (hb.cell (p := ⟨0, 0, none⟩) hB).trans h
theorem HasType.lt {w : World} (h : HasType w) : 0 < w.heap.size := block_lt_of_cell h
end Go.Proofs.YtcahgmnkphmnhaaGreatDoor
/- The contracts of errors.As at a target that points to an api.Errno, of plain.Told and of vaultsame.Error. -/
namespace Go.Proofs.YtcahgmnkphmnhaaGreatDoor
open Go.RowKit Go.Extern.Stop Go.Stop Go.Extern

theorem rl_methKind (n : Nat) (h : Value) (w : World) : (Go.method (n + 1) 208 (.agg #[h]) "Kind").run Tryz.prog w = .ok (223, h) w := by kernel_rfl
theorem rl_methElem (n : Nat) (h : Value) (w : World) : (Go.method (n + 1) 208 (.agg #[h]) "Elem").run Tryz.prog w = .ok (235, .agg #[h]) w := by kernel_rfl
theorem rl_methImpl (n : Nat) (h : Value) (w : World) : (Go.method (n + 1) 208 (.agg #[h]) "Implements").run Tryz.prog w = .ok (236, .agg #[h]) w := by kernel_rfl
theorem rl_methAssign (n : Nat) (h : Value) (w : World) : (Go.method (n + 1) 208 (.agg #[h]) "AssignableTo").run Tryz.prog w = .ok (233, .agg #[h]) w := by kernel_rfl

set_option maxRecDepth 100000 in
set_option maxHeartbeats 4000000 in
theorem as_errno (k : Int) (t : Addr) (old : Value) (w : World) (hg : HasType w) (ht0 : w.cell? t = some old) (hf0 : w.frozen? t = false) :
    Calls Tryz.prog 95 #[.iface 79 (.int .i64 k), .iface 145 (.pointer (some t))] w fun ev w' => ev = .returned (.bool true) ∧ w' = ((((w.alloc (.cells #[.pointer (some t)] 145)).alloc (.cells #[.pointer (some ⟨1, 145, none⟩), .pointer (some ⟨w.heap.size, 0, none⟩), .int .u64 150] 179)).alloc (.cells #[.pointer (some ⟨1, 145, none⟩), .pointer (some ⟨w.heap.size, 0, none⟩), .int .u64 150] 179)).alloc (.cells #[.int .i64 k] 79)).setCell t (.int .i64 k) := by
  have h6 := @run_callFunc_extern Tryz.prog 127 _ (fun args => ReflectliteValue.unpack (args.getD 0 (.tuple #[]))) Tryz.func127 (by kernel_rfl) (by kernel_rfl) (by kernel_rfl) (by kernel_rfl)
  have h7 := @run_callFunc_extern Tryz.prog 128 _ (ReflectliteValue.methodAny (ReflectliteValue.valueError "reflectlite.Value.Type" 0) (fun t _ _ _ => ReflectliteType.toType t)) Tryz.func128 (by kernel_rfl) (by kernel_rfl) (by kernel_rfl) (by kernel_rfl)
  have h8 := @run_callFunc_extern Tryz.prog 129 _ (ReflectliteValue.method (ReflectliteValue.valueError "reflectlite.Value.IsNil" 0) ReflectliteValue.isNil) Tryz.func129 (by kernel_rfl) (by kernel_rfl) (by kernel_rfl) (by kernel_rfl)
  have h27 := @run_callFunc_extern Tryz.prog 223 _ (ReflectliteType.abiMethod fun t => do pure (.int .u8 (← Rtype.kind t))) Tryz.func223 (by kernel_rfl) (by kernel_rfl) (by kernel_rfl) (by kernel_rfl)
  have h37 := @run_callFunc_extern Tryz.prog 235 _ (ReflectliteType.method ReflectliteType.elem) Tryz.func235 (by kernel_rfl) (by kernel_rfl) (by kernel_rfl) (by kernel_rfl)
  have h38 := @run_callFunc_extern Tryz.prog 236 _ (ReflectliteType.relation "Implements" ReflectliteType.implements_) Tryz.func236 (by kernel_rfl) (by kernel_rfl) (by kernel_rfl) (by kernel_rfl)
  have h10 := @run_callFunc_extern Tryz.prog 151 _ ReflectliteType.typeOf Tryz.func151 (by kernel_rfl) (by kernel_rfl) (by kernel_rfl) (by kernel_rfl)
  have h35 := @run_callFunc_extern Tryz.prog 233 _ (ReflectliteType.relation "AssignableTo" ReflectliteType.assignableTo) Tryz.func233 (by kernel_rfl) (by kernel_rfl) (by kernel_rfl) (by kernel_rfl)
  have h11 := @run_callFunc_extern Tryz.prog 152 _ (ReflectliteValue.method (ReflectliteValue.valueError "reflectlite.Value.Elem" 0) ReflectliteValue.elem) Tryz.func152 (by kernel_rfl) (by kernel_rfl) (by kernel_rfl) (by kernel_rfl)
  have h12 := @run_callFunc_extern Tryz.prog 153 _ ReflectliteValue.set Tryz.func153 (by kernel_rfl) (by kernel_rfl) (by kernel_rfl) (by kernel_rfl)
  have tO := rl_typeOfE
  have aE := rl_assignE
  have vE := rl_valueOfE
  have f6 := rl_valueOfP
  have f7 := rl_typeP
  have mK := rl_methKind
  have mE := rl_methElem
  have mI := rl_methImpl
  have mA := rl_methAssign
  have kP := rl_kindP
  have kE := rl_kindE
  have eP := rl_elemP
  have iE := rl_implE
  have n8 := rl_isNilP ⟨w.heap.size, 0, none⟩ t ((w.alloc (.cells #[.pointer (some t)] 145)).alloc (.cells #[.pointer (some ⟨1, 145, none⟩), .pointer (some ⟨w.heap.size, 0, none⟩), .int .u64 150] 179)) (by simp)
  have hlt : 0 < w.heap.size := hg.lt
  unfold HasType at hg
  have hg2 : ((w.alloc (.cells #[.pointer (some t)] 145)).alloc (.cells #[.pointer (some ⟨1, 145, none⟩), .pointer (some ⟨w.heap.size, 0, none⟩), .int .u64 150] 179)).cell? ⟨0, 0, none⟩ = some (.iface 208 (.agg #[.pointer (some ⟨1, 32, none⟩)])) := by
    rw [World.cell?_alloc_lt _ _ ⟨0, 0, none⟩ (by simp), World.cell?_alloc_lt _ _ ⟨0, 0, none⟩ hlt]; exact hg
  have htl : t.block < w.heap.size := by
    rcases Nat.lt_or_ge t.block w.heap.size with h | h
    · exact h
    · simp [World.cell?, Array.getElem?_eq_none h] at ht0
  have el := rl_elemVP ⟨w.heap.size, 0, none⟩ t (((w.alloc (.cells #[.pointer (some t)] 145)).alloc (.cells #[.pointer (some ⟨1, 145, none⟩), .pointer (some ⟨w.heap.size, 0, none⟩), .int .u64 150] 179)).alloc (.cells #[.pointer (some ⟨1, 145, none⟩), .pointer (some ⟨w.heap.size, 0, none⟩), .int .u64 150] 179)) (by rw [World.cell?_alloc_lt _ _ ⟨w.heap.size, 0, none⟩ (by simp; omega)]; simp)
  have st := rl_setE t ⟨w.heap.size + 1 + 1 + 1, 0, none⟩ k old ((((w.alloc (.cells #[.pointer (some t)] 145)).alloc (.cells #[.pointer (some ⟨1, 145, none⟩), .pointer (some ⟨w.heap.size, 0, none⟩), .int .u64 150] 179)).alloc (.cells #[.pointer (some ⟨1, 145, none⟩), .pointer (some ⟨w.heap.size, 0, none⟩), .int .u64 150] 179)).alloc (.cells #[.int .i64 k] 79))
    (by rw [World.cell?_alloc_at _ _ _ _ (by simp)]; rfl)
    (by rw [World.cell?_alloc_lt _ _ t (by simp; omega), World.cell?_alloc_lt _ _ t (by simp; omega), World.cell?_alloc_lt _ _ t (by simp; omega), World.cell?_alloc_lt _ _ t htl]; exact ht0)
    (by rw [World.frozen?_alloc_old _ _ t (by simp; omega), World.frozen?_alloc_old _ _ t (by simp; omega), World.frozen?_alloc_old _ _ t (by simp; omega), World.frozen?_alloc_old _ _ t (Nat.ne_of_lt htl)]; exact hf0)
  go_enter Tryz.func95, Tryz.ntmps95
  go_wp2
  refine wp_loop_rounds 1 ?_
  rw [rounds_succ]
  go_wp2
  go_ret
  exact ⟨rfl, rfl⟩
end Go.Proofs.YtcahgmnkphmnhaaGreatDoor
/- The contracts of plain.Told and of vaultsame.Error. -/
namespace Go.Proofs.YtcahgmnkphmnhaaGreatDoor
open Go.RowKit

theorem told_nil (w : World) : Calls Tryz.prog 42 #[.nilIface] w fun e w' => e = .returned (.int .i64 0) ∧ w = w' := by
  go_enter Tryz.func42, Tryz.ntmps42
  go_wp2_with fail
  go_ret
  exact ⟨rfl, rfl⟩
theorem told_errno (k : Int) (w : World) (hg : HasType w) : Calls Tryz.prog 42 #[.iface 79 (.int .i64 k)] w fun e w' => e = .returned (.int .i64 k) ∧ Below w.heap.size w w' := by
  have hW : Below w.heap.size w (w.alloc (.cells #[.int .i64 0] 79)) := (Below.refl _ _).alloc (Nat.le_refl _) _
  have hg1 := hg.below hg.lt hW
  have HC := Hidden.mk (as_errno k ⟨w.heap.size, 0, none⟩ (.int .i64 0) _ hg1 (by simp) (by simp))
  clear hg1
  go_enter Tryz.func42, Tryz.ntmps42
  go_wp2_with fail
  refine HC.out.mono ?_
  rintro e w' ⟨rfl, hw'⟩
  have hB : Below w.heap.size w w' := by
    rw [hw']
    exact ((((hW.alloc hW.size _).alloc (by simp; omega) _).alloc (by simp; omega) _).alloc (by simp; omega) _).setCell (p := ⟨w.heap.size, 0, none⟩) (Nat.le_refl _) _
  have hc : w'.cell? ⟨w.heap.size, 0, none⟩ = some (.int .i64 k) := by
    rw [hw']
    refine World.cell?_setCell_same' _ _ _ ?_
    rw [(((((Below.refl _ (w.alloc (.cells #[.int .i64 0] 79))).alloc (Nat.le_refl _) _).alloc (by simp) _).alloc (by simp) _).alloc (by simp) _).cell (p := ⟨w.heap.size, 0, none⟩) (by simp)]
    simp
  clear hw' HC hW
  go_wp2_with fail
  go_ret
  exact ⟨rfl, hB⟩
theorem err_nil (x : Int) (w : World) : Calls Tryz.prog 12 #[.nilIface, .int .i64 x] w fun e w' => e = .returned (.bool ((0 : Int) == x)) ∧ Below w.heap.size w w' := by
  go_enter Tryz.func12, Tryz.ntmps12
  go_wp2_with fail
  refine (told_nil _).mono ?_
  rintro e w' ⟨rfl, rfl⟩
  go_wp2_with fail
  go_ret
  exact ⟨rfl, Below.refl _ _⟩
theorem err_some (k x : Int) (w : World) (hg : HasType w) : Calls Tryz.prog 12 #[.iface 79 (.int .i64 k), .int .i64 x] w fun e w' => e = .returned (.bool (k == x)) ∧ Below w.heap.size w w' := by
  go_enter Tryz.func12, Tryz.ntmps12
  go_wp2_with fail
  refine (told_errno k _ hg).mono ?_
  rintro e w' ⟨rfl, hb⟩
  go_wp2_with fail
  go_ret
  exact ⟨rfl, hb⟩
/-- .. of an error that is nil or a number -/
theorem err_any (n : Nat) (x : Int) (w : World) (hg : HasType w) : Calls Tryz.prog 12 #[errV n, .int .i64 x] w fun e w' => e = .returned (.bool ((n : Int) == x)) ∧ Below w.heap.size w w' := by
  unfold errV
  by_cases h : n = 0
  · rw [if_pos h, h]; exact err_nil x w
  · rw [if_neg h]; exact err_some n x w hg
end Go.Proofs.YtcahgmnkphmnhaaGreatDoor
/- ReachTells: the walk. -/
namespace Go.Proofs.YtcahgmnkphmnhaaGreatDoor
open Go.RowKit

def refsU (l : Bytes) (x : Int) : List Nat := if hE l x = 0 then refsL l x else []
def wayU (l : Bytes) (x : Int) : List Nat := if hE l x = 0 then wayOf (fromW l) x.toNat else []
def pathE (l : Bytes) (x : Int) : Nat := if hE l x ≠ 0 then hE l x else if wayU l x = [] then 5 else 0
section
variable {w0 w : World} {F : Nat → Prop} {h : Nat} {l : Bytes}
theorem refs_u (x : Int) (hp : Hp w0 w F h l) (hg : Good l) :
    Calls Tryz.prog 11 #[.pointer (some ⟨h, 0, none⟩), .int .i64 x] w fun e w' => ∃ A c, e = .returned (.tuple #[.slice A (refsU l x).length c, errV (hE l x)]) ∧ RdX ncell 1 w' A (refsU l x) ∧ Below w.heap.size w w' := by
  by_cases h0 : hE l x = 0
  · refine (reachRefs_ok x hp hg h0).mono ?_
    rintro e w' ⟨v, rfl, hown, hb⟩
    have e1 : refsU l x = refsL l x := by unfold refsU; rw [if_pos h0]
    rw [e1, h0]
    obtain ⟨A, c, rfl, -, -⟩ := own_split hown
    exact ⟨A, c, rfl, own_rdX3 (f := ncell) (fun _ => rfl) rfl hown, hb⟩
  · refine (reachRefs_no x hp h0).mono ?_
    rintro e w' ⟨rfl, hb⟩
    have e1 : refsU l x = [] := by unfold refsU; rw [if_neg h0]
    rw [e1]
    exact ⟨none, 0, rfl, fun i hi => absurd hi (by simp), hb⟩
theorem path_u (x : Int) (hp : Hp w0 w F h l) (hg : Good l) :
    Calls Tryz.prog 13 #[.pointer (some ⟨h, 0, none⟩), .int .i64 x] w fun e w' => ∃ A c, e = .returned (.tuple #[.slice A (wayU l x).length c, errV (pathE l x)]) ∧ RdX ncell 1 w' A (wayU l x) ∧ Below w.heap.size w w' := by
  by_cases h0 : hE l x = 0
  · obtain ⟨k, hk, e, -⟩ := hE_zero h0
    obtain ⟨y, rfl⟩ := Int.eq_ofNat_of_zero_le (show 0 ≤ x by omega)
    have e1 : wayU l (y : Int) = wayOf (fromW l) y := by unfold wayU; rw [if_pos h0, Int.toNat_natCast]
    cases hw : fromW l y with
    | none =>
      refine (path_none y hp hg h0 hw).mono ?_
      rintro e w' ⟨rfl, hb⟩
      have e2 : wayU l (y : Int) = [] := by rw [e1]; unfold wayOf; rw [hw]; rfl
      have e3 : pathE l (y : Int) = 5 := by unfold pathE; rw [if_neg (by simp [h0]), if_pos e2]
      rw [e2, e3]
      exact ⟨none, 0, rfl, fun i hi => absurd hi (by simp), hb⟩
    | some p =>
      refine (path_ok y p hp hg hw).mono ?_
      rintro e w' ⟨v, rfl, hown, hb⟩
      have e2 : wayU l (y : Int) = p := by rw [e1]; exact wayOf_some hw
      have hne : p ≠ [] := by
        obtain ⟨D, hD, -⟩ := fromW_ok hg
        obtain ⟨q, e, -⟩ := hD.ways y p hw
        rw [e]; simp
      have e3 : pathE l (y : Int) = 0 := by unfold pathE; rw [if_neg (by simp [h0]), if_neg (by rw [e2]; exact hne)]
      rw [e2, e3]
      obtain ⟨A, c, rfl, -, -⟩ := own_split hown
      exact ⟨A, c, rfl, own_rdX3 (f := ncell) (fun _ => rfl) rfl hown, hb⟩
  · refine (path_no x hp h0).mono ?_
    rintro e w' ⟨rfl, hb⟩
    have e1 : wayU l x = [] := by unfold wayU; rw [if_neg h0]
    have e3 : pathE l x = hE l x := by unfold pathE; rw [if_pos h0]
    rw [e1, e3]
    exact ⟨none, 0, rfl, fun i hi => absurd hi (by simp), hb⟩
end
theorem refsU_len {l : Bytes} (hg : Good l) (x : Int) : (refsU l x).length ≤ 100000 := by
  unfold refsU
  split
  · unfold refsL
    have h1 := refsB_len l (readL l x 0 (min (gL l x) (gT l x))) _ (Nat.le_refl _)
    rw [List.take_length] at h1
    refine Nat.le_trans h1 ?_
    unfold readL
    split
    · rename_i hz
      have := some_in hg hz
      simp; omega
    · simp
  · simp
theorem wayU_len {l : Bytes} (hg : Good l) (x : Int) : (wayU l x).length ≤ 100000 := by
  unfold wayU
  split
  · exact Nat.le_trans (way_len hg _).2 (by omega)
  · simp
set_option maxRecDepth 100000 in
set_option maxHeartbeats 1000000 in
theorem reachTells_walk (A : Option Addr) (n c : Nat) (b : Bytes) (x : Int) (w : World) (hg : HasType w) (hn : b.length = n) (hnc : n ≤ c) (hrd : Rd w A b) :
    Calls Tryz.prog 3 #[.slice A n c, .int .i64 x] w fun e w' => e = .returned (.bool true) ∧ Below w.heap.size w w' := by
  have HG := Hidden.mk hg
  have HLD := Hidden.mk (loaded_ok A n c b w hn hnc hrd)
  have HM := Hidden.mk (loadL_good b)
  generalize loadL b = m at *
  clear hg hn hnc hrd
  go_enter Tryz.func3, Tryz.ntmps3
  go_wp2_with fail
  refine HLD.out.mono ?_
  rintro e w1 ⟨h, F, p, off, c1, rfl, hc1, hp, hr, -⟩
  have HP := Hidden.mk hp
  have HR := Hidden.mk hr
  have HH := Hidden.mk (rhandle_any p off m.length c1 m x w1 rfl HM.out hc1 hr)
  have HRU := Hidden.mk (refsU_len HM.out x)
  have HWU := Hidden.mk (wayU_len HM.out x)
  have HPE : Hidden (pathE m x = if hE m x ≠ 0 then hE m x else if wayU m x = [] then 5 else 0) := ⟨rfl⟩
  clear hp hr HLD
  go_wp2_with fail
  refine HH.out.mono ?_
  rintro e w2 ⟨rfl, hb2⟩
  have HB2 := Hidden.mk hb2
  clear hb2 HH
  go_upto_if 35 with (fail)
  go_cut [8, 9, 10] (fun s8 s9 s10 wx => ∃ (A8 A9 : Option Addr) (c8 c9 : Nat), s8 = .slice A8 (refsU m x).length c8 ∧ s9 = .slice A9 (wayU m x).length c9 ∧ s10 = .int .i64 (pathE m x : Int) ∧ Hidden (RdX ncell 1 wx A8 (refsU m x) ∧ RdX ncell 1 wx A9 (wayU m x) ∧ Below w1.heap.size w1 wx))
  case first =>
    by_cases h0 : hE m x = 0
    · obtain ⟨k, hk, rfl, hh, -⟩ := hE_zero h0
      have e1 : refsU m ((k : Int) + 1) = refsL m ((k : Int) + 1) := by unfold refsU; rw [if_pos h0]
      have e2 : wayU m ((k : Int) + 1) = wayOf (fromW m) (k + 1) := by unfold wayU; rw [if_pos h0]; rfl
      have HRF := Hidden.mk (rrefs_ok p off m.length c1 m k w2 rfl HM.out hc1 (HR.out.below HB2.out) hk hh)
      have HWY : Hidden (∀ W, Below w1.heap.size w1 W → Calls Tryz.prog 10 #[.slice (some ⟨p, off, none⟩) m.length c1] W fun e w' => ∃ gw, e = .returned (.slice (some ⟨gw, 0, none⟩) 41 41) ∧ WvB W w' gw (wayOf (fromW m)) ∧ Below W.heap.size W w') := ⟨fun W hW => ways_any p off m.length c1 m W rfl HM.out hc1 (HR.out.below hW)⟩
      rw [← e1] at HRF
      have HE2 := Hidden.mk e2
      have HPE2 : Hidden (pathE m ((k : Int) + 1) = if wayU m ((k : Int) + 1) = [] then 5 else 0) := ⟨by rw [HPE.out, h0]; rfl⟩
      have q0 : ((hE m ((k : Int) + 1) : Int) == 0) = true := by rw [h0]; rfl
      have q0' : (hE m ((k : Int) + 1) == 0) = true := by rw [h0]; rfl
      have q0'' : decide ((hE m ((k : Int) + 1) : Int) = 0) = true := by rw [h0]; rfl
      have j0 : (0 : Int) ≤ (k : Int) + 1 := by omega
      have j1 : (k : Int) + 1 < 41 := by omega
      generalize refsU m ((k : Int) + 1) = RU at *
      generalize hWU : wayU m ((k : Int) + 1) = WU at *
      generalize pathE m ((k : Int) + 1) = PE at *
      clear h0 hh e1 e2 HPE hWU
      go_wp2_with fail
      refine HRF.out.mono ?_
      rintro e w3 ⟨v3, rfl, hown3, hb3⟩
      obtain ⟨A8, c8, rfl, -, -⟩ := own_split hown3
      have HR8 := Hidden.mk (own_rdX3 (f := ncell) (fun _ => rfl) rfl hown3)
      have HB3 := Hidden.mk (HB2.out.trans (hb3.mono HB2.out.size))
      clear hown3 hb3 HRF
      go_wp2_with fail
      refine (HWY.out w3 HB3.out).mono ?_
      rintro e w4 ⟨gw, rfl, hw4, hb4⟩
      have HB4 := Hidden.mk (HB3.out.trans (hb4.mono HB3.out.size))
      have HR8b := Hidden.mk (HR8.out.below hb4)
      obtain ⟨A9, c9, x9, -, hr9, -⟩ := hw4.cell (k + 1) (by omega)
      rw [← HE2.out] at x9 hr9
      have HR9 := Hidden.mk hr9
      clear hw4 hb4 hr9 HWY HR8 HB3 HE2
      by_cases hz : WU = []
      · subst hz
        have HPZ : Hidden (PE = 5) := ⟨by rw [HPE2.out, if_pos rfl]⟩
        have e0 : (([] : List Nat).length : Int) = 0 := rfl
        simp only [List.length_nil] at x9
        clear HPE2
        go_wp2_with fail
        go_meet
        exact ⟨A8, A9, c8, c9, rfl, rfl, by rw [HPZ.out]; rfl, ⟨HR8b.out, HR9.out, HB4.out⟩⟩
      · have HPZ : Hidden (PE = 0) := ⟨by rw [HPE2.out, if_neg hz]⟩
        have e0 : ((WU.length : Int) == 0) = false := by simp; exact hz
        have e0' : (WU.length == 0) = false := by simp; exact hz
        have e0'' : decide (WU = []) = false := decide_eq_false hz
        clear HPE2
        go_wp2_with fail
        go_meet
        exact ⟨A8, A9, c8, c9, rfl, rfl, by rw [HPZ.out]; exact congrArg (fun z : Nat => Value.int .i64 (z : Int)) (beq_iff_eq.1 q0'), ⟨HR8b.out, HR9.out, HB4.out⟩⟩
    · have e1 : refsU m x = [] := by unfold refsU; rw [if_neg h0]
      have e2 : wayU m x = [] := by unfold wayU; rw [if_neg h0]
      have e3 : pathE m x = hE m x := by rw [HPE.out, if_pos h0]
      have e0 : ((hE m x : Int) == 0) = false := by simp; exact h0
      have e0' : (hE m x == 0) = false := by simp; exact h0
      have e0'' : decide ((hE m x : Int) = 0) = false := decide_eq_false (by omega)
      have HE := Hidden.mk (And.intro e1 (And.intro e2 e3))
      clear e1 e2 e3 h0 HPE
      go_wp2_with fail
      go_meet
      exact ⟨none, none, 0, 0, by rw [HE.out.1]; rfl, by rw [HE.out.2.1]; rfl, by rw [HE.out.2.2], ⟨by rw [HE.out.1]; exact fun i hi => absurd hi (by simp), by rw [HE.out.2.1]; exact fun i hi => absurd hi (by simp), HB2.out⟩⟩
  case rest =>
  obtain ⟨A8, A9, c8, c9, rfl, rfl, rfl, hcc⟩ := hcut
  have HC := Hidden.mk hcc.out
  have HRFS : Hidden (∀ W, Hp w W F h m → Calls Tryz.prog 11 #[.pointer (some ⟨h, 0, none⟩), .int .i64 x] W fun e w' => ∃ A c, e = .returned (.tuple #[.slice A (refsU m x).length c, errV (hE m x)]) ∧ RdX ncell 1 w' A (refsU m x) ∧ Below W.heap.size W w') := ⟨fun W hW => refs_u x hW HM.out⟩
  have HPTH : Hidden (∀ W, Hp w W F h m → Calls Tryz.prog 13 #[.pointer (some ⟨h, 0, none⟩), .int .i64 x] W fun e w' => ∃ A c, e = .returned (.tuple #[.slice A (wayU m x).length c, errV (pathE m x)]) ∧ RdX ncell 1 w' A (wayU m x) ∧ Below W.heap.size W w') := ⟨fun W hW => path_u x hW HM.out⟩
  have HRLV : Hidden (∀ W, Below w1.heap.size w1 W → Calls Tryz.prog 14 #[.slice (some ⟨p, off, none⟩) m.length c1] W fun e w' => ∃ v1 v2, e = .returned (.tuple #[v1, v2]) ∧ w'.ownsRow W.heap.size 3 1 v1 (liveL m).length ((liveL m).flatMap ncell) ∧ w'.ownsRow W.heap.size 3 1 v2 (deadL m).length ((deadL m).flatMap ncell) ∧ Below W.heap.size W w') := ⟨fun W hW => rlive_ok p off m.length c1 m W rfl HM.out hc1 (HR.out.below hW)⟩
  have HLV : Hidden (∀ W, Hp w W F h m → Calls Tryz.prog 16 #[.pointer (some ⟨h, 0, none⟩)] W fun e w' => ∃ v, e = .returned v ∧ w'.ownsRow W.heap.size 3 1 v (liveL m).length ((liveL m).flatMap ncell) ∧ Below W.heap.size W w') := ⟨fun W hW => live_any hW HM.out⟩
  have HDD : Hidden (∀ W, Hp w W F h m → Calls Tryz.prog 17 #[.pointer (some ⟨h, 0, none⟩)] W fun e w' => ∃ v, e = .returned v ∧ w'.ownsRow W.heap.size 3 1 v (deadL m).length ((deadL m).flatMap ncell) ∧ Below W.heap.size W w') := ⟨fun W hW => dead_any hW HM.out⟩
  have hl40 : (liveL m).length ≤ 40 := by
    have hx : ∀ x, x ∈ liveL m → hE m (x : Int) = 0 := fun x hx => way_hE HM.out ((liveL_mem HM.out).1 hx)
    have hu := liveL_up m
    generalize liveL m = S at *
    exact nodup_le1 (hu.imp fun h => by omega) fun k hk => hE_nat (hx k hk)
  have hd40 : (deadL m).length ≤ 40 := Nat.le_trans (deadE_len _ _) (entsL_len _ _ 40)
  generalize refsU m x = RU at *
  generalize wayU m x = WU at *
  generalize pathE m x = PE at *
  generalize hE m x = HX at *
  generalize liveL m = LV at *
  generalize deadL m = DD at *
  have hru := HRU.out
  have hwu := HWU.out
  clear hcc HB2 HPE HRU HWU
  go_wp2_with fail
  refine (HRFS.out wc (HP.out.below HC.out.2.2)).mono ?_
  rintro e w3 ⟨A3, c3, rfl, hr3, hb3⟩
  have HB3 := Hidden.mk (HC.out.2.2.trans (hb3.mono HC.out.2.2.size))
  have HR3 := Hidden.mk (And.intro hr3 (And.intro (HC.out.1.below hb3) (HC.out.2.1.below hb3)))
  have HER := Hidden.mk (err_any HX HX w3 (HG.out.below HG.out.lt (HP.out.bel.trans (HB3.out.mono HP.out.bel.size))))
  rw [beq_self_eq_true] at HER
  clear hr3 hb3 HRFS HC
  go_wp2_with fail
  refine HER.out.mono ?_
  rintro e w4 ⟨rfl, hb4⟩
  have HB4 := Hidden.mk (HB3.out.trans (hb4.mono HB3.out.size))
  have HR4 := Hidden.mk (And.intro (HR3.out.1.below hb4) (And.intro (HR3.out.2.1.below hb4) (HR3.out.2.2.below hb4)))
  clear hb4 HER HB3 HR3
  go_wp2_with fail
  refine (HPTH.out w4 (HP.out.below HB4.out)).mono ?_
  rintro e w5 ⟨A5, c5, rfl, hr5, hb5⟩
  have HB5 := Hidden.mk (HB4.out.trans (hb5.mono HB4.out.size))
  have HR5 := Hidden.mk (And.intro (HR4.out.1.below hb5) (And.intro (HR4.out.2.1.below hb5) (And.intro (HR4.out.2.2.below hb5) hr5)))
  have HER := Hidden.mk (err_any PE PE w5 (HG.out.below HG.out.lt (HP.out.bel.trans (HB5.out.mono HP.out.bel.size))))
  rw [beq_self_eq_true] at HER
  clear hr5 hb5 HPTH HB4 HR4
  go_wp2_with fail
  refine HER.out.mono ?_
  rintro e w6 ⟨rfl, hb6⟩
  have HB6 := Hidden.mk (HB5.out.trans (hb6.mono HB5.out.size))
  have HR6 := Hidden.mk (And.intro (HR5.out.1.below hb6) (And.intro (HR5.out.2.1.below hb6) (And.intro (HR5.out.2.2.1.below hb6) (HR5.out.2.2.2.below hb6))))
  clear hb6 HER HB5 HR5
  go_wp2_with fail
  refine (HRLV.out w6 HB6.out).mono ?_
  rintro e w7 ⟨v1, v2, rfl, hown1, hown2, hb7⟩
  obtain ⟨A1, q1, rfl, -, -⟩ := own_split hown1
  obtain ⟨A2, q2, rfl, -, -⟩ := own_split hown2
  have HB7 := Hidden.mk (HB6.out.trans (hb7.mono HB6.out.size))
  have HR7 := Hidden.mk (And.intro (HR6.out.1.below hb7) (And.intro (HR6.out.2.1.below hb7) (And.intro (HR6.out.2.2.1.below hb7) (And.intro (HR6.out.2.2.2.below hb7) (And.intro (own_rdX3 (f := ncell) (fun _ => rfl) rfl hown1) (own_rdX3 (f := ncell) (fun _ => rfl) rfl hown2))))))
  have HS1 := Hidden.mk (sameInts_eq A3 A8 c3 c8 RU.length RU w7 rfl hru HR7.out.1 HR7.out.2.1)
  clear hown1 hown2 hb7 HRLV HB6 HR6
  go_wp2_with fail
  refine HS1.out.mono ?_
  rintro e w8 ⟨rfl, hb8⟩
  have HB8 := Hidden.mk (HB7.out.trans (hb8.mono HB7.out.size))
  have HR8 := Hidden.mk (And.intro (HR7.out.2.2.1.below hb8) (And.intro (HR7.out.2.2.2.1.below hb8) (And.intro (HR7.out.2.2.2.2.1.below hb8) (HR7.out.2.2.2.2.2.below hb8))))
  have HS2 := Hidden.mk (sameInts_eq A5 A9 c5 c9 WU.length WU w8 rfl hwu HR8.out.2.1 HR8.out.1)
  clear hb8 HS1 HB7 HR7
  go_wp2_with fail
  refine HS2.out.mono ?_
  rintro e w9 ⟨rfl, hb9⟩
  have HB9 := Hidden.mk (HB8.out.trans (hb9.mono HB8.out.size))
  have HR9 := Hidden.mk (And.intro (HR8.out.2.2.1.below hb9) (HR8.out.2.2.2.below hb9))
  clear hb9 HS2 HB8 HR8
  go_wp2_with fail
  refine (HLV.out w9 (HP.out.below HB9.out)).mono ?_
  rintro e w10 ⟨v10, rfl, hown10, hb10⟩
  obtain ⟨A10, c10, rfl, -, -⟩ := own_split hown10
  have HB10 := Hidden.mk (HB9.out.trans (hb10.mono HB9.out.size))
  have HS3 := Hidden.mk (sameInts_eq A10 A1 c10 q1 LV.length LV w10 rfl (by omega) (own_rdX3 (f := ncell) (fun _ => rfl) rfl hown10) (HR9.out.1.below hb10))
  have HR10 := Hidden.mk (HR9.out.2.below hb10)
  clear hown10 hb10 HLV HB9 HR9
  go_wp2_with fail
  refine HS3.out.mono ?_
  rintro e w11 ⟨rfl, hb11⟩
  have HB11 := Hidden.mk (HB10.out.trans (hb11.mono HB10.out.size))
  have HR11 := Hidden.mk (HR10.out.below hb11)
  clear hb11 HS3 HB10 HR10
  go_wp2_with fail
  refine (HDD.out w11 (HP.out.below HB11.out)).mono ?_
  rintro e w12 ⟨v12, rfl, hown12, hb12⟩
  obtain ⟨A12, c12, rfl, -, -⟩ := own_split hown12
  have HB12 := Hidden.mk (HB11.out.trans (hb12.mono HB11.out.size))
  have HS4 := Hidden.mk (sameInts_eq A12 A2 c12 q2 DD.length DD w12 rfl (by omega) (own_rdX3 (f := ncell) (fun _ => rfl) rfl hown12) (HR11.out.below hb12))
  clear hown12 hb12 HDD HB11 HR11
  go_wp2_with fail
  refine HS4.out.mono ?_
  rintro e w13 ⟨rfl, hb13⟩
  have HF := Hidden.mk (HP.out.bel.trans ((HB12.out.trans (hb13.mono HB12.out.size)).mono HP.out.bel.size))
  clear hb13 HS4 HB12
  go_wp2_with fail
  go_ret
  exact ⟨rfl, HF.out⟩
end Go.Proofs.YtcahgmnkphmnhaaGreatDoor
