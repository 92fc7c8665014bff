/- Contracts and plain laws, put together: TopEachStep1. -/
import Derived.Test.YtoieifphklodoaaGreatTopEachStepFrameM6
/- TopEachStep: the walk. -/
namespace Go.Proofs.YtoieifphklodoaaGreat
open Go.RowKit Go.Maps Go.ChangeMaps

def rcell (x : Nat × Nat) : List Value := [.slice (some ⟨x.1, 0, none⟩) 512 x.2]
theorem rowsV_flat (R : List (Nat × Nat)) : rowsV R = R.flatMap rcell := by
  unfold rowsV
  induction R with
  | nil => rfl
  | cons x r ih => rw [List.map_cons, List.flatMap_cons, ih]; rfl
theorem own_one (w : World) (b : Nat) (hb : b ≤ w.heap.size) (u : Value) (hu : u.oneCell' = true) : (w.alloc (.cells #[u] 33)).ownsRow b 33 1 (.slice (some ⟨w.heap.size, 0, none⟩) 1 1) 1 [u] :=
  ⟨rfl, .inr ⟨w.heap.size, 1, #[u], rfl, hb, heap_alloc_new w _, Nat.le_refl _, by simp [maxLen], rfl, rfl⟩⟩
theorem doS_six' {n : Nat} {s : Sto} {o : OpX} (h0 : (doS n s o).2 = 0) (h6 : o.what = 6) : (doS n s o).1.l = (doS n s o).1.K := by
  unfold doS at h0 ⊢
  rw [if_pos h6] at h0 ⊢
  by_cases hz : (cmS n s.st s.D s.l s.K).2 = 0
  · rw [if_pos hz]
  · rw [if_neg hz] at h0
    exact absurd h0 hz
set_option maxRecDepth 100000 in
set_option maxHeartbeats 8000000 in
theorem topEachStep_walk (OA : Option Addr) (oc : Nat) (L : List OpX) (KA : Option Addr) (kc : Nat) (keep : List Bool) (torn cut from_ : Int) (w : World) (hL : RdX ocells 6 w OA L) (hLo : ∀ x ∈ L, OpOk w x) (hk : RdB w KA keep) :
    Calls Tryz.prog 3 #[.slice OA L.length oc, .slice KA keep.length kc, .int .i64 torn, .int .i64 cut, .int .i64 from_] w fun e w' => e = .returned (.bool true) ∧ Below w.heap.size w w' := by
  obtain ⟨m, hm⟩ : ∃ m, L.length = m := ⟨_, rfl⟩
  obtain ⟨nk, hnk⟩ : ∃ m, keep.length = m := ⟨_, rfl⟩
  have HL := Hidden.mk (And.intro hL (And.intro hLo (And.intro hm (And.intro hnk hk))))
  rw [hm, hnk]
  clear hL hLo hm hnk hk
  go_enter Tryz.func3, Tryz.ntmps3
  go_wp2_with fail
  refine (one_ok w).mono ?_
  rintro e w1 ⟨rfl, hb1⟩
  have HB1 := Hidden.mk hb1
  clear hb1
  by_cases h12 : 12 < m
  · have d1 : decide ((12 : Int) < m) = true := by simp; omega
    have d1' : decide (12 < m) = true := by simpa using h12
    clear h12
    go_wp2_with fail
    go_ret
    exact ⟨rfl, HB1.out⟩
  have d1 : decide ((12 : Int) < m) = false := by simp; omega
  have d1' : decide (12 < m) = false := by simpa using h12
  by_cases hf0 : from_ < 0
  · have d2 : decide (from_ < 0) = true := by simpa using hf0
    clear h12 hf0
    go_wp2_with fail
    go_ret
    exact ⟨rfl, HB1.out⟩
  have d2 : decide (from_ < 0) = false := by simpa using hf0
  by_cases hf1 : 100 < from_
  · have d3 : decide (100 < from_) = true := by simpa using hf1
    clear h12 hf0 hf1
    go_wp2_with fail
    go_ret
    exact ⟨rfl, HB1.out⟩
  have d3 : decide (100 < from_) = false := by simpa using hf1
  obtain ⟨fr, rfl⟩ : ∃ fr : Nat, from_ = fr := ⟨from_.toNat, by omega⟩
  have hfr : fr ≤ 100 := by omega
  have hm12 : m ≤ 12 := by omega
  clear h12 hf0 hf1
  have hok := beg0_ok 64 (by decide) (by decide) 16 np64'
  have HOK := Hidden.mk hok
  have HSUC : Hidden (∀ k (hk : k < L.length), (runK 16 (beg0 64 16) L (k + 1)).1 = (doS 16 (runK 16 (beg0 64 16) L k).1 L[k]).1) := ⟨fun k hk => by rw [runK_succ 16 _ L k hk]⟩
  have HKS : Hidden (∀ k (hk : k < L.length), keptK 16 (beg0 64 16) L (k + 1) = keptK 16 (beg0 64 16) L k ++ (if (doS 16 (runK 16 (beg0 64 16) L k).1 L[k]).2 = 0 ∧ L[k].what = 6 then [(doS 16 (runK 16 (beg0 64 16) L k).1 L[k]).1.K] else [])) := ⟨fun k hk => keptK_succ 16 _ L k hk⟩
  have HRUN : Hidden (∀ k, (runK 16 (beg0 64 16) L k).1.st ≤ 2 + k) := ⟨fun k => runK_st 16 _ L k⟩
  have HTL : Hidden (∀ k, (keptK 16 (beg0 64 16) L k).length ≤ k + 1) := ⟨fun k => keptK_le 16 _ L k⟩
  have HLS : Hidden (∃ T, keptK 16 (beg0 64 16) L m = T ++ [(runK 16 (beg0 64 16) L m).1.K]) := ⟨keptK_last 16 _ L m⟩
  have HB0 : Hidden (runK 16 (beg0 64 16) L 0 = (beg0 64 16, 0) ∧ keptK 16 (beg0 64 16) L 0 = [(beg0 64 16).K]) := ⟨rfl, rfl⟩
  have HST : Hidden (∀ W, Below w.heap.size w W → Calls Tryz.prog 11 #[.int .i64 64, .slice OA m oc] W fun e w' => e = .returned (.tuple #[.int .i64 ((runK 16 (beg0 64 16) L m).2 : Int), .nilIface]) ∧ Below W.heap.size W w') := ⟨fun W hW => steps_ok 64 16 OA m oc L W HL.out.2.2.1 (by omega) (by decide) (by decide) np64' (HL.out.1.below hW) (fun x hx => (HL.out.2.1 x hx).below hW)⟩
  have HPL : Hidden (∀ (W : World) (x : Int), x ≤ 1000 → Below w.heap.size w W → Calls Tryz.prog 12 #[.int .i64 64, .slice OA m oc, .int .i64 x, .slice KA nk kc, .int .i64 torn, .int .i64 cut] W fun e w' => ∃ A1 c1 A2 c2 N, e = .returned (.tuple #[.slice A1 (entriesL N).length c1, .slice A2 (rootsL N).length c2, .nilIface]) ∧ N ∈ keptK 16 (beg0 64 16) L m ∧ (x = ((runK 16 (beg0 64 16) L m).2 : Int) → N = (runK 16 (beg0 64 16) L m).1.K) ∧ RdX ecells 4 w' A1 (entriesL N) ∧ RdX rcells 2 w' A2 (rootsL N) ∧ Below W.heap.size W w') := ⟨fun W x hx hW => by
    refine (play_ok 64 16 OA m oc L x KA nk kc keep torn cut W HL.out.2.2.1 (by omega) (by decide) (by decide) np64' (HL.out.1.below hW) (fun x hx => (HL.out.2.1 x hx).below hW) (by omega) HL.out.2.2.2.1 (HL.out.2.2.2.2.below hW)).mono ?_
    rintro e w1 ⟨v1, v2, st, N, rfl, hd, ho1, ho2, hb⟩
    obtain ⟨A1, c1, rfl, -, -⟩ := own_split ho1
    obtain ⟨A2, c2, rfl, -, -⟩ := own_split ho2
    have hin := play_kept hok x L (by rw [HL.out.2.2.1]; omega) keep torn (min 32 (max 0 cut)).toNat (by omega) hd
    rw [HL.out.2.2.1] at hin
    refine ⟨A1, c1, A2, c2, N, rfl, hin, fun hxm => ?_, own_rdX3 (f := ecells) (fun _ => rfl) rfl ho1, own_rdX3 (f := rcells) (fun _ => rfl) rfl ho2, hb⟩
    have h2 := play_stays hok L (by rw [HL.out.2.2.1]; omega) keep torn (min 32 (max 0 cut)).toNat (by omega)
    rw [← play_all hok L (by rw [HL.out.2.2.1]; omega) keep torn (min 32 (max 0 cut)).toNat, HL.out.2.2.1] at h2
    rw [hxm] at hd
    exact hd.uniq h2 (crsD_up _ _ _ _ _ _ _)⟩
  have hmany : (runK 16 (beg0 64 16) L m).2 ≤ 600 := by
    have h1 := runK_le hok L 2 (Nat.le_refl _) m (by rw [HL.out.2.2.1]; omega) (by omega)
    have h2 := cntC_le L m
    omega
  have HGD : Hidden (∀ x ∈ keptK 16 (beg0 64 16) L m, Good x) := ⟨keptK_good hok L (by rw [HL.out.2.2.1]; omega) m (by rw [HL.out.2.2.1]; omega)⟩
  obtain ⟨many, hmn⟩ : ∃ x, (runK 16 (beg0 64 16) L m).2 = x := ⟨_, rfl⟩
  rw [hmn] at HST HPL hmany
  clear hmn hok
  have HDN := Hidden.mk (dnewB 64 w1 (by decide) (by decide))
  go_wp2_with fail
  refine HDN.out.mono ?_
  rintro e w2 ⟨d, F0, rfl, hd⟩
  have HC := Hidden.mk (screate_ok 64 16 hd (by decide) (by decide) np64')
  clear hd HDN d1 d1' d2 d3
  go_wp2_with fail
  refine HC.out.mono ?_
  rintro e w3 ⟨s, p, h, gk, ck, F1, GH1, rfl, hmk⟩
  have HP3 : Hidden (PlSt w1 w3 F1 GH1 s p d h 64 16 (beg0 64 16)) := ⟨⟨hmk.dev, ⟨gk, ck, hmk.st⟩, HOK.out⟩⟩
  clear hmk HC
  have HBY := Hidden.mk HP3.out.bytes_
  rw [show (beg0 64 16).l.length = 512 from HOK.out.ll] at HBY
  go_wp2_with fail
  refine HP3.out.heap_.mono ?_
  rintro e w4 ⟨rfl, rfl⟩
  go_wp2_with fail
  refine HBY.out.mono ?_
  rintro e w4 ⟨g4, c4, rfl, hg4, hr4, hb4⟩
  have hal := (Below.refl w4.heap.size w4).alloc (Nat.le_refl _) (.cells #[.slice (some ⟨g4, 0, none⟩) 512 c4] 33)
  have HP5 : Hidden (PlSt w1 (w4.alloc (.cells #[.slice (some ⟨g4, 0, none⟩) 512 c4] 33)) F1 GH1 s p d h 64 16 (runK 16 (beg0 64 16) L 0).1) := ⟨by rw [HB0.out.1]; exact (HP3.out.below hb4).below hal⟩
  have HT5 : Hidden (StT w1 (w4.alloc (.cells #[.slice (some ⟨g4, 0, none⟩) 512 c4] 33)) F1 GH1 s p (.slice (some ⟨w4.heap.size, 0, none⟩) 1 1) (keptK 16 (beg0 64 16) L 0) [(g4, c4)]) := ⟨by
    rw [HB0.out.2]
    have hro := (HP3.out.fresh hg4 hr4).below hal
    obtain ⟨gk, ck, hs⟩ := HP3.out.st
    obtain ⟨l1, l2, l3⟩ := hs.lt
    have hsz := hb4.size
    have hsz0 := HP3.out.dev.bel.size
    refine ⟨rfl, own_one w4 _ (by omega) _ rfl, fun i h1 h2 => ?_, fun q hq => ?_, fun x hx => ?_⟩
    · have : i = 0 := by simp at h1; omega
      subst this
      exact hro
    · have e := Option.some.inj (show some w4.heap.size = some q from hq)
      subst e
      exact ⟨fun hf => by have := HP3.out.dev.flt _ hf; omega, fun hf => by have := hs.hp.flt _ hf; omega, by omega, by omega⟩
    · obtain rfl := List.mem_singleton.1 hx
      exact HOK.out.lk⟩
  clear hg4 hr4 hb4 hal HP3 HBY
  go_wp2_with fail
  generalize w4.alloc (.cells #[.slice (some ⟨g4, 0, none⟩) 512 c4] 33) = w5 at *
  generalize hBB : beg0 64 16 = B at *
  clear hBB
  go_loopg [15, 16] m (fun r sv iv wr => ∃ (k : Nat) (F GH : Nat → Prop) (R : List (Nat × Nat)), k ≤ m ∧ r = m - k ∧ iv = .int .i64 (k : Int) ∧ Hidden (PlSt w1 wr F GH s p d h 64 16 (runK 16 B L k).1 ∧ StT w1 wr F GH s p sv (keptK 16 B L k) R))
  case atStart => exact ⟨0, F1, GH1, _, by omega, rfl, rfl, ⟨HP5.out, HT5.out⟩⟩
  case round =>
    obtain ⟨k, F, GH, R0, hk, rfl, rfl, hst⟩ := hrel
    have HS := Hidden.mk hst.out
    clear hst HP5 HT5
    by_cases hlt : k < m
    · have e1 : decide ((k : Int) < m) = true := by simp; omega
      have e1' : decide (k < m) = true := by simpa using hlt
      have i0 : (0 : Int) ≤ k := by omega
      have i1 : (k : Int) < m := by omega
      have s1 : IntKind.i64.wrap ((k : Int) + 1) = (k : Int) + 1 := IntWalk.i64_in _ (by omega)
      have hkl : k < L.length := by rw [HL.out.2.2.1]; exact hlt
      have hBw := HB1.out.trans (HS.out.1.dev.bel.mono HB1.out.size)
      obtain ⟨pb, off, rfl, x0, x1, x2, x3, x4, x5⟩ := ops_at (HL.out.1.below hBw) k hkl
      have HX8 : Hidden (∀ W, Below w.heap.size w W → W.cell? ⟨pb, off + k * 6, none⟩ = some (.int .i64 L[k].what)) := ⟨fun W hW => by
        obtain ⟨pb', off', e', hc', -⟩ := ops_at (HL.out.1.below hW) k hkl
        simp only [Option.some.injEq, Addr.mk.injEq, and_true] at e'
        obtain ⟨rfl, rfl⟩ := e'
        exact hc'⟩
      have HDO := Hidden.mk (HS.out.1.do_ (by have := HRUN.out k; omega) L[k] ((HL.out.2.1 _ (List.getElem_mem hkl)).below HB1.out))
      have HNX := Hidden.mk (HSUC.out k hkl)
      have HKX := Hidden.mk (HKS.out k hkl)
      have HLK : Hidden ((doS 16 (runK 16 B L k).1 L[k]).2 = 0 → L[k].what = 6 → (doS 16 (runK 16 B L k).1 L[k]).1.l = (doS 16 (runK 16 B L k).1 L[k]).1.K) := ⟨doS_six'⟩
      have hTL := HTL.out k
      generalize hq1 : (runK 16 B L (k + 1)).1 = S1 at *
      generalize hq2 : (runK 16 B L k).1 = S at *
      generalize hq3 : keptK 16 B L (k + 1) = T1 at *
      generalize hq4 : keptK 16 B L k = T at *
      unfold opV at HDO
      generalize doS 16 S L[k] = R at *
      generalize L[k] = o at *
      obtain ⟨what, handle, at_, len, name, bA, bc, body⟩ := o
      dsimp only at *
      clear hBw
      go_wp2_with fail
      refine HDO.out.mono ?_
      rintro e w8 ⟨rfl, F8, GH8, hm8⟩
      have HP8 : Hidden (PlSt w1 w8 F8 GH8 s p d h 64 16 S1) := ⟨by rw [HNX.out]; exact hm8.pl⟩
      have HT8 : Hidden (StT w1 w8 F8 GH8 s p u15 T R0) := ⟨by
        obtain ⟨gk, ck, hs⟩ := HS.out.1.st
        exact HS.out.2.turn hs hm8.kp hm8.sub hm8.nw⟩
      have y0 := HX8.out w8 (HB1.out.trans (hm8.pl.dev.bel.mono HB1.out.size))
      rw [← HNX.out] at HKX HLK
      clear hm8 HDO HS HX8 x0 x1 x2 x3 x4 x5
      by_cases h0 : R.2 = 0
      · by_cases hw6 : what = 6
        · have HKT : Hidden (T1 = T ++ [S1.K]) := ⟨by rw [HKX.out, if_pos ⟨h0, hw6⟩]⟩
          have HLE := Hidden.mk (HLK.out h0 hw6)
          rw [h0, errV0]
          subst hw6
          have hlen : S1.l.length = 512 := HP8.out.ok.ll
          have HBY := Hidden.mk HP8.out.bytes_
          rw [hlen] at HBY
          clear h0 HKX HLK
          go_wp2_with fail
          refine HP8.out.heap_.mono ?_
          rintro e w9 ⟨rfl, rfl⟩
          go_wp2_with fail
          refine HBY.out.mono ?_
          rintro e w9 ⟨g9, c9, rfl, hg9, hr9, hb9⟩
          have HP9 := Hidden.mk (HP8.out.below hb9)
          have HT9 := Hidden.mk (HT8.out.below hb9)
          have HR9 : Hidden (RowO w1 w9 F8 GH8 g9 c9 S1.K) := ⟨by rw [← HLE.out]; exact HP8.out.fresh hg9 hr9⟩
          have HLN : Hidden (S1.K.length = 512) := ⟨by rw [← HLE.out]; exact hlen⟩
          clear hg9 hr9 hb9 HP8 HT8 HBY hlen
          obtain ⟨i0', hi0, hz0, hz1, hz2⟩ := info_parts list_info
          have HAL := Hidden.mk ((Below.refl w9.heap.size w9).alloc (Nat.le_refl _) (.cells #[.slice (some ⟨g9, 0, none⟩) 512 c9] 33))
          go_wp2_with (at_builtin; refine wpList_append_lies _ rfl (.tmp 85) (.tmp 89) _ rfl w1.heap.size 33 i0' _ 1 24 Tryz.underlying37 hi0 hz0 hz1 hz2 rfl (by decide) u15 T.length (rowsV R0) rfl (own_below HT9.out.own ((Below.refl _ _).alloc (Nat.le_refl _) _)) ⟨(w9).heap.size, 0, none⟩ 1 1 [.slice (some ⟨g9, 0, none⟩) 512 c9] rfl rfl (World.news_of_block (cs := #[.slice (some ⟨g9, 0, none⟩) 512 c9]) (t := 33) (fr := (0, 0)) (heap_alloc_new (w9) _)) (by simp [Value.oneCell']) (by omega) (by simp only [maxLen]; omega) (by omega) (by have hz_ := HP9.out.dev.bel.size; rw [World.size_alloc]; omega) ((w9).heap.size + 1) (by simp) ?_; intro g10 cap10 w10 hown10 hg10 hat10 hlt10)
          have HP10 := Hidden.mk (PlSt.written (HP9.out.below HAL.out) (HT9.out.below HAL.out) hg10)
          have HT10 := Hidden.mk (StT.push (HT9.out.below HAL.out) (HP9.out.below HAL.out) (HR9.out.below HAL.out) HLN.out hg10 hown10 (fun q hq => by
            have e := Option.some.inj (show some g10 = some q from hq)
            subst e
            rcases hat10 with h' | h'
            · exact .inl h'
            · exact .inr (by rw [World.size_alloc]; omega)))
          clear hown10 hg10 hat10 hlt10 hi0 hz0 hz1 hz2 HP9 HT9 HR9 HAL
          go_roundg (m - (k + 1))
          case measure => omega
          case rel => exact ⟨k + 1, F8, GH8, R0 ++ [(g9, c9)], by omega, rfl, by go_num, ⟨by rw [hq1]; exact HP10.out, by rw [hq3, HKT.out]; simpa using HT10.out⟩⟩
        · have HKT : Hidden (T1 = T) := ⟨by rw [HKX.out, if_neg (fun x => hw6 x.2), List.append_nil]⟩
          have z6 : (what == 6) = false := by simpa using hw6
          rw [h0, errV0]
          clear h0 hw6 HKX HLK
          go_wp2_with fail
          go_roundg (m - (k + 1))
          case measure => omega
          case rel => exact ⟨k + 1, F8, GH8, R0, by omega, rfl, by go_num, ⟨by rw [hq1]; exact HP8.out, by rw [hq3, HKT.out]; exact HT8.out⟩⟩
      · have HKT : Hidden (T1 = T) := ⟨by rw [HKX.out, if_neg (fun x => h0 x.1), List.append_nil]⟩
        rw [errV_pos h0]
        clear h0 HKX HLK
        go_wp2_with fail
        go_roundg (m - (k + 1))
        case measure => omega
        case rel => exact ⟨k + 1, F8, GH8, R0, by omega, rfl, by go_num, ⟨by rw [hq1]; exact HP8.out, by rw [hq3, HKT.out]; exact HT8.out⟩⟩
    obtain rfl : k = m := by omega
    have e1 : decide ((k : Int) < k) = false := by simp
    have HT := Hidden.mk HS.out.2
    have HBW := Hidden.mk (HB1.out.trans (HS.out.1.dev.bel.mono HB1.out.size))
    obtain ⟨K9, hK9⟩ : ∃ x, (runK 16 B L k).1.K = x := ⟨_, rfl⟩
    obtain ⟨T, hT9⟩ : ∃ x, keptK 16 B L k = x := ⟨_, rfl⟩
    rw [hT9] at HT HGD HPL HLS
    rw [hK9] at HPL HLS
    have hTl := HTL.out k
    rw [hT9] at hTl
    have hST := HST.out wr HBW.out
    have HSX := Hidden.mk hST
    clear hlt HS HSUC HKS HRUN HTL hK9 hT9 hST HST
    go_wp2_with fail
    refine HSX.out.mono ?_
    rintro e wA ⟨rfl, hbA⟩
    have HTA := Hidden.mk (HT.out.below hbA)
    have HBA := Hidden.mk (HBW.out.trans (hbA.mono HBW.out.size))
    clear hbA HSX HT HBW
    have ho := HTA.out.own
    rw [rowsV_flat] at ho
    obtain ⟨A15, c15, rfl, -, -⟩ := own_split ho
    have HRX := Hidden.mk (own_rdX3 (f := rcell) (fun _ => rfl) HTA.out.len ho)
    obtain ⟨nt, hnt⟩ : ∃ x, T.length = x := ⟨_, rfl⟩
    have HNT := Hidden.mk hnt
    have hnt0 : 1 ≤ nt := by
      obtain ⟨T', hT'⟩ := HLS.out
      rw [← hnt, hT']; simp
    have HLA : Hidden (∀ i (h : i < T.length), i + 1 = T.length → T[i] = K9) := ⟨fun i h h1 => by
      obtain ⟨T', hT'⟩ := HLS.out
      subst hT'
      have hi : i = T'.length := by simp at h1; omega
      subst hi
      simp⟩
    rw [hnt] at hTl ⊢
    clear hnt ho HLS
    go_wp2_with fail
    go_loopg [19, 20] 30 (fun r lv kv wx => ∃ (q la : Nat), q ≤ 30 ∧ r = 30 - q ∧ kv = .int .i64 ((fr : Int) + q) ∧ lv = .int .i64 (la : Int) ∧ Hidden (Below wA.heap.size wA wx))
    case atStart => exact ⟨0, 0, by omega, rfl, by simp, rfl, ⟨Below.refl _ _⟩⟩
    case round =>
      obtain ⟨q, la, hq, rfl, rfl, rfl, hst⟩ := hrel
      have HS := Hidden.mk hst.out
      clear hst
      have s1 : IntKind.i64.wrap ((fr : Int) + 30) = (fr : Int) + 30 := IntWalk.i64_in _ (by omega)
      have s2 : IntKind.i64.wrap ((fr : Int) + q + 1) = (fr : Int) + q + 1 := IntWalk.i64_in _ (by omega)
      by_cases hc1 : fr + q ≤ many
      rotate_left
      · have c1 : decide ((fr : Int) + q ≤ (many : Int)) = false := by simp; omega
        have l0 : decide ((0 : Int) ≤ (la : Int)) = true := by simp
        have HBE := Hidden.mk (HBA.out.trans (HS.out.mono HBA.out.size))
        clear hc1
        go_wp2_with fail
        go_ret
        exact ⟨by simp, HBE.out⟩
      have c1 : decide ((fr : Int) + q ≤ (many : Int)) = true := by simp; omega
      by_cases hc2 : q < 30
      rotate_left
      · have c2 : decide ((fr : Int) + q < (fr : Int) + 30) = false := by simp; omega
        have c2' : decide (q < 30) = false := by simpa using hc2
        have c2'' : decide ((q : Int) < 30) = false := by simp; omega
        have l0 : decide ((0 : Int) ≤ (la : Int)) = true := by simp
        have HBE := Hidden.mk (HBA.out.trans (HS.out.mono HBA.out.size))
        clear hc1 hc2
        go_wp2_with fail
        go_ret
        exact ⟨by simp, HBE.out⟩
      have c2 : decide ((fr : Int) + q < (fr : Int) + 30) = true := by simp; omega
      have c2' : decide (q < 30) = true := by simpa using hc2
      have c2'' : decide ((q : Int) < 30) = true := by simp; omega
      have HPC := Hidden.mk (HPL.out wr ((fr : Int) + q) (by omega) (HBA.out.trans (HS.out.mono HBA.out.size)))
      go_wp2_with fail
      refine HPC.out.mono ?_
      rintro e wB ⟨A1, cc1, A2, cc2, N, rfl, hin, hmn, hr1, hr2, hbB⟩
      have HN := Hidden.mk (And.intro hin (And.intro hmn (And.intro hr1 hr2)))
      have HBB := Hidden.mk (HS.out.trans (hbB.mono HS.out.size))
      have HNE : Hidden ((entriesL N).length ≤ 1000 ∧ (rootsL N).length ≤ 1000) := ⟨Nat.le_trans (entsL_len _ _ 40) (by decide), Nat.le_trans (rootsF_len _ _) (by decide)⟩
      have HAB : Hidden (∀ W, Below wB.heap.size wB W → Below wA.heap.size wA W) := ⟨fun W hW => HBB.out.trans (hW.mono HBB.out.size)⟩
      have s3 : IntKind.i64.wrap ((nt : Int) - 1) = (nt : Int) - 1 := IntWalk.i64_in _ (by omega)
      clear hin hmn hr1 hr2 hbB HPC HS c1 c2 c2' c2''
      go_upto_block 4 with (fail)
      go_cut [24] (fun fv wx => ∃ f : Nat, fv = .int .i64 (f : Int) ∧ f < nt ∧ (N = K9 → f + 1 = nt) ∧ Hidden (Below wB.heap.size wB wx))
      case first =>
        go_wp2_with fail
        go_loopg [24, 25] nt (fun r fv iv wx => ∃ j : Nat, j ≤ nt ∧ r = nt - j ∧ iv = .int .i64 ((nt : Int) - 1 - j) ∧ fv = .int .i64 (-1) ∧ Hidden ((∀ i (hi : i < T.length), nt - j ≤ i → T[i] ≠ N) ∧ Below wB.heap.size wB wx))
        case atStart => exact ⟨0, by omega, rfl, by simp, rfl, ⟨fun i hi h => by have := HNT.out; omega, Below.refl _ _⟩⟩
        case round =>
          obtain ⟨j, hj, rfl, rfl, rfl, hst⟩ := hrel
          have HI := Hidden.mk hst.out
          clear hst
          by_cases hjn : j < nt
          rotate_left
          · exfalso
            obtain ⟨i, hi, e⟩ := List.mem_iff_getElem.1 HN.out.1
            exact HI.out.1 i hi (by omega) e
          obtain ⟨i, hi⟩ : ∃ i : Nat, i = nt - 1 - j := ⟨_, rfl⟩
          have hii : ((nt : Int) - 1 - j) = (i : Int) := by omega
          rw [hii]
          have hiT : i < T.length := by rw [HNT.out]; omega
          have hiR : i < R0.length := by rw [HTA.out.len]; exact hiT
          have t0 : decide (0 ≤ (i : Int)) = true := by simp
          have k0 : (0 : Int) ≤ i := by omega
          have k1 : (i : Int) < nt := by omega
          have s4 : IntKind.i64.wrap ((i : Int) - 1) = (i : Int) - 1 := IntWalk.i64_in _ (by omega)
          obtain ⟨pb, off, rfl, hcx⟩ := (HRX.out.below (HAB.out _ HI.out.2)) i hiR
          have x0 := hcx 0 _ rfl
          rw [Nat.add_zero, Nat.mul_one] at x0
          have hrow := HTA.out.row i hiR hiT
          have hl5 := HTA.out.l512 _ (List.getElem_mem hiT)
          have hgd := HGD.out _ (List.getElem_mem hiT)
          have hle := hrow.row.le.1
          rw [hl5] at hle
          have HRW := Hidden.mk (hrow.row.rd)
          have HXI := Hidden.mk (And.intro hi hii)
          have HEQ : Hidden (T[i] = N → entriesL N = entriesL T[i] ∧ rootsL N = rootsL T[i]) := ⟨fun e => by rw [e]; exact ⟨rfl, rfl⟩⟩
          have HLX : Hidden (N = K9 → i + 1 = nt → T[i] = N) := ⟨fun e h1 => by rw [HLA.out i hiT (by rw [HNT.out]; exact h1), e]⟩
          have HLZ : Hidden (N = K9 → i + 1 ≠ nt → False) := ⟨fun e h1 => by
            have h2 : nt - 1 < T.length := by rw [HNT.out]; omega
            exact HI.out.1 (nt - 1) h2 (by omega) (by rw [HLA.out (nt - 1) h2 (by rw [HNT.out]; omega), e])⟩
          have HNXT : Hidden (T[i] ≠ N → ∀ i' (hi' : i' < T.length), nt - (j + 1) ≤ i' → T[i'] ≠ N) := ⟨fun h i' hi' h1 => by
            by_cases e : i' = i
            · subst e; exact h
            · exact HI.out.1 i' hi' (by omega)⟩
          have HTI : Hidden ((entriesL T[i]).length ≤ 1000 ∧ (rootsL T[i]).length ≤ 1000) := ⟨Nat.le_trans (entsL_len _ _ 40) (by decide), Nat.le_trans (rootsF_len _ _) (by decide)⟩
          have hr5 : rightB ((512 : Nat) : Int) = true := rfl
          have HIE : Hidden (∀ W, Below wB.heap.size wB W → Calls Tryz.prog 13 #[.slice (some ⟨R0[i].1, 0, none⟩) 512 R0[i].2] W fun e w' => ∃ v, e = .returned (.tuple #[v, .nilIface]) ∧ w'.ownsRow W.heap.size 94 4 v (entriesL T[i]).length ((entriesL T[i]).flatMap ecells) ∧ Below W.heap.size W w') := ⟨fun W hW => ientries_ok _ 512 R0[i].2 T[i] W hl5 hr5 hle (HRW.out.below (HAB.out W hW))⟩
          have HIR : Hidden (∀ W, Below wB.heap.size wB W → Calls Tryz.prog 14 #[.slice (some ⟨R0[i].1, 0, none⟩) 512 R0[i].2] W fun e w' => ∃ v, e = .returned (.tuple #[v, .nilIface]) ∧ w'.ownsRow W.heap.size 102 2 v (rootsL T[i]).length ((rootsL T[i]).flatMap rcells) ∧ Below W.heap.size W w') := ⟨fun W hW => iroots_ok _ 512 R0[i].2 T[i] W hl5 hr5 hle (HRW.out.below (HAB.out W hW))⟩
          have HX0 : Hidden (∀ W, Below wB.heap.size wB W → W.cell? ⟨pb, off + i, none⟩ = some (.slice (some ⟨R0[i].1, 0, none⟩) 512 R0[i].2)) := ⟨fun W hW => by
            obtain ⟨pb', off', e', hcx'⟩ := (HRX.out.below (HAB.out W hW)) i hiR
            simp only [Option.some.injEq, Addr.mk.injEq, and_true] at e'
            obtain ⟨rfl, rfl⟩ := e'
            have x0 := hcx' 0 _ rfl
            rwa [Nat.add_zero, Nat.mul_one] at x0⟩
          have HB0' := Hidden.mk HI.out.2
          generalize T[i] = Ti at *
          generalize R0[i].1 = gi at *
          generalize R0[i].2 = ci at *
          clear hcx hrow hl5 hgd hle HRW hr5 hii hi hiT hiR HI
          go_wp2_with fail
          refine (HIE.out _ HB0'.out).mono ?_
          rintro e w20 ⟨v, rfl, ho, hb⟩
          obtain ⟨A20, c20, rfl, -, -⟩ := own_split ho
          have HB20 := Hidden.mk (HB0'.out.trans (hb.mono HB0'.out.size))
          have HR20 := Hidden.mk (own_rdX3 (f := ecells) (fun _ => rfl) rfl ho)
          have y0 := HX0.out w20 HB20.out
          clear ho hb x0 HIE
          go_wp2_with fail
          refine (HIR.out _ HB20.out).mono ?_
          rintro e w21 ⟨v, rfl, ho, hb⟩
          obtain ⟨A21, c21, rfl, -, -⟩ := own_split ho
          have HB21 := Hidden.mk (HB20.out.trans (hb.mono HB20.out.size))
          have HR21 := Hidden.mk (own_rdX3 (f := rcells) (fun _ => rfl) rfl ho)
          have HSE := Hidden.mk (sameEnts_any A1 A20 cc1 c20 (entriesL N) (entriesL Ti) w21 HNE.out.1 HTI.out.1 (HN.out.2.2.1.below HB21.out) (HR20.out.below hb))
          clear ho hb y0 HIR HB20 HR20
          go_wp2_with fail
          refine HSE.out.mono ?_
          rintro e w22 ⟨b1, rfl, hq1, hb22⟩
          have HB22 := Hidden.mk (HB21.out.trans (hb22.mono HB21.out.size))
          have HSR := Hidden.mk (sameRoots_any A2 A21 cc2 c21 (rootsL N) (rootsL Ti) w22 HNE.out.2 HTI.out.2 (HN.out.2.2.2.below HB22.out) (HR21.out.below hb22))
          have HQ1 := Hidden.mk hq1
          clear hb22 hq1 HSE HB21 HR21
          go_wp2_with fail
          refine HSR.out.mono ?_
          rintro e w23 ⟨b2, rfl, hq2, hb23⟩
          have HB23 := Hidden.mk (HB22.out.trans (hb23.mono HB22.out.size))
          have HQ2 := Hidden.mk hq2
          clear hb23 hq2 HSR HB22
          have hfin : (b1 = true ∧ b2 = true) ∨ (Ti ≠ N ∧ ¬ (b1 = true ∧ b2 = true)) := by
            by_cases hbb : b1 = true ∧ b2 = true
            · exact .inl hbb
            · refine .inr ⟨fun e => hbb ?_, hbb⟩
              obtain ⟨e1, e2⟩ := HEQ.out e
              exact ⟨HQ1.out e1, HQ2.out e2⟩
          rcases hfin with ⟨rfl, rfl⟩ | ⟨hne, hnb⟩
          · have HFI : Hidden (i < nt ∧ (N = K9 → i + 1 = nt)) := ⟨by have := HXI.out.1; omega, fun e => Decidable.byContradiction fun h1 => HLZ.out e h1⟩
            go_wp2_with fail
            go_meet
            exact ⟨i, rfl, HFI.out.1, HFI.out.2, HB23⟩
          · have HNX := Hidden.mk (HNXT.out hne)
            have HII : Hidden (((nt : Int) - 1 - ((j + 1 : Nat) : Int)) = (i : Int) - 1) := ⟨by have := HXI.out.1; omega⟩
            clear hne
            cases b1 with
            | false =>
              clear hnb
              go_wp2_with fail
              go_roundg (nt - (j + 1))
              case measure => omega
              case rel => exact ⟨j + 1, by omega, rfl, by rw [HII.out], rfl, ⟨HNX.out, HB23.out⟩⟩
            | true =>
              cases b2 with
              | false =>
                clear hnb
                go_wp2_with fail
                go_roundg (nt - (j + 1))
                case measure => omega
                case rel => exact ⟨j + 1, by omega, rfl, by rw [HII.out], rfl, ⟨HNX.out, HB23.out⟩⟩
              | true => exact absurd ⟨rfl, rfl⟩ hnb
      case rest =>
      obtain ⟨f, rfl, hf, hfk, hbx⟩ := hcut
      have HBX := Hidden.mk (HAB.out _ hbx.out)
      have f0 : decide ((f : Int) < 0) = false := by simp
      clear hbx
      by_cases hx : fr + q = many
      · have HFK := Hidden.mk (hfk (HN.out.2.1 (by omega)))
        have x1 : ((fr : Int) + q == (many : Int)) = true := by simp; omega
        have x2 : ((f : Int) != (nt : Int) - 1) = false := by have := HFK.out; simp; omega
        clear hx hfk
        go_wp2_with fail
        go_roundg (30 - (q + 1))
        case measure => omega
        case rel => exact ⟨q + 1, f, by omega, rfl, by simp; omega, rfl, HBX⟩
      · have x1 : ((fr : Int) + q == (many : Int)) = false := by simp; omega
        clear hx hfk
        go_wp2_with fail
        go_roundg (30 - (q + 1))
        case measure => omega
        case rel => exact ⟨q + 1, f, by omega, rfl, by simp; omega, rfl, HBX⟩
end Go.Proofs.YtoieifphklodoaaGreat
