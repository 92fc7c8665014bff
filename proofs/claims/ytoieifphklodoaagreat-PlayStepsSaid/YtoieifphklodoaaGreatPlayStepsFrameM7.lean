/- Contracts and plain laws, put together: PlaySteps1. -/
import Derived.Test.YtoieifphklodoaaGreatPlayStepsFrameM6
import Derived.Test.YtoieifphklodoaaGreatPlayStepsFrameM4
/- PlaySteps: the walk. -/
namespace Go.Proofs.YtoieifphklodoaaGreat
open Go.RowKit Go.Maps Go.ChangeMaps

theorem np64' : 16 = nP (newD 64) := by unfold nP; rw [newD_len]; decide
theorem op_info : (Tryz.prog.info? 40).map (fun i => (i.zero, i.size, i.bytes)) = some (some (.agg #[.int .i64 0, .int .i64 0, .int .i64 0, .int .i64 0, sv [], .slice none 0 0]), 6, 72) := by kernel_rfl
theorem ocells_len (x : OpX) : (ocells x).length = 6 := rfl
theorem ocells_one (L : List OpX) : ∀ u ∈ L.flatMap ocells, u.oneCell' = true := by
  intro u hu
  obtain ⟨x, _, h⟩ := List.mem_flatMap.1 hu
  simp only [ocells, List.mem_cons, List.not_mem_nil, or_false] at h
  rcases h with rfl | rfl | rfl | rfl | rfl | rfl <;> rfl
/-- the ops of the first k that are no commits -/
def noneK (L : List OpX) (k : Nat) : List OpX := (L.take k).filter fun o => o.what != 6
theorem noneK_succ (L : List OpX) (k : Nat) (hk : k < L.length) : noneK L (k + 1) = noneK L k ++ (if L[k].what = 6 then [] else [L[k]]) := by
  unfold noneK
  rw [List.take_succ_eq_append_getElem hk, List.filter_append]
  congr 1
  by_cases h : L[k].what = 6
  · rw [if_pos h, List.filter_cons_of_neg (by simp [h]), List.filter_nil]
  · rw [if_neg h, List.filter_cons_of_pos (by simpa using h), List.filter_nil]
theorem noneK_le (L : List OpX) (k : Nat) : (noneK L k).length ≤ k := Nat.le_trans (List.length_filter_le _ _) (by simp; omega)
theorem noneK_mem {L : List OpX} {k : Nat} {o : OpX} (h : o ∈ noneK L k) : o ∈ L ∧ o.what ≠ 6 := by
  unfold noneK at h
  rw [List.mem_filter] at h
  exact ⟨List.mem_of_mem_take h.1, by simpa using h.2⟩
theorem cntC_succ (L : List OpX) (k : Nat) (hk : k < L.length) : cntC L (k + 1) = cntC L k + if L[k].what = 6 then 1 else 0 := by
  rw [cntC, List.getElem?_eq_getElem hk]
  simp
theorem scr_ok (w : World) (t : Int) (ht : t = 0 ∨ t = 1) : ∀ x ∈ scrO t, OpOk w x := by
  intro x hx
  unfold scrO at hx
  simp only [List.mem_cons, List.not_mem_nil, or_false] at hx
  rcases hx with rfl | rfl
  · exact ⟨by constructor <;> (dsimp only; omega), by constructor <;> (dsimp only; omega), by constructor <;> (dsimp only; omega), by constructor <;> (dsimp only; omega), by simp, by simp, by simp, Rd.nil_⟩
  · exact ⟨by constructor <;> (dsimp only; omega), by constructor <;> (dsimp only; omega), by constructor <;> (dsimp only; omega), by constructor <;> (dsimp only; omega), by simp, by simp, by simp, Rd.nil_⟩
theorem scr_rd (w : World) (t : Int) : RdX ocells 6 (w.alloc (.cells #[.int .i64 1, .int .i64 0, .int .i64 t, .int .i64 3, .string ⟨#[]⟩, .slice none 0 0, .int .i64 6, .int .i64 0, .int .i64 0, .int .i64 0, .string ⟨#[]⟩, .slice none 0 0] 40)) (some ⟨w.heap.size, 0, none⟩) (scrO t) := by
  have hh := heap_alloc_new w (.cells #[.int .i64 1, .int .i64 0, .int .i64 t, .int .i64 3, .string ⟨#[]⟩, .slice none 0 0, .int .i64 6, .int .i64 0, .int .i64 0, .int .i64 0, .string ⟨#[]⟩, .slice none 0 0] 40)
  intro i hi
  refine ⟨w.heap.size, 0, rfl, fun j v hv => ?_⟩
  simp only [World.cell?]
  rw [hh]
  match i, hi with
  | 0, _ =>
    match j, hv with
    | 0, hv => exact hv
    | 1, hv => exact hv
    | 2, hv => exact hv
    | 3, hv => exact hv
    | 4, hv => exact hv
    | 5, hv => exact hv
    | j + 6, hv => cases hv
  | 1, _ =>
    match j, hv with
    | 0, hv => exact hv
    | 1, hv => exact hv
    | 2, hv => exact hv
    | 3, hv => exact hv
    | 4, hv => exact hv
    | 5, hv => exact hv
    | j + 6, hv => cases hv
set_option maxRecDepth 100000 in
set_option maxHeartbeats 4000000 in
theorem playSteps_walk (OA : Option Addr) (oc : Nat) (L : List OpX) (MA : Option Addr) (mc : Nat) (M : List OpX) (w : World) (hL : RdX ocells 6 w OA L) (hLo : ∀ x ∈ L, OpOk w x) (hM : RdX ocells 6 w MA M) (hMo : ∀ x ∈ M, OpOk w x) :
    Calls Tryz.prog 4 #[.slice OA L.length oc, .slice MA M.length mc] w fun e w' => e = .returned (.bool true) ∧ Below w.heap.size w w' := by
  have HL := Hidden.mk (And.intro hL (And.intro hLo (And.intro hM hMo)))
  obtain ⟨m, hm⟩ : ∃ m, L.length = m := ⟨_, rfl⟩
  obtain ⟨m2, hm2⟩ : ∃ m, M.length = m := ⟨_, rfl⟩
  have HLM := Hidden.mk (And.intro hm hm2)
  rw [hm, hm2]
  clear hL hLo hM hMo hm hm2
  go_enter Tryz.func4, Tryz.ntmps4
  have hal := (Below.refl w.heap.size w).alloc (Nat.le_refl _) (.cells #[.int .i64 1, .int .i64 0, .int .i64 0, .int .i64 3, .string ⟨#[]⟩, .slice none 0 0, .int .i64 6, .int .i64 0, .int .i64 0, .int .i64 0, .string ⟨#[]⟩, .slice none 0 0] 40)
  have HAL := Hidden.mk hal
  have hok := beg0_ok 64 (by decide) (by decide) 16 np64'
  have HS6 := Hidden.mk (steps_ok 64 16 (some ⟨w.heap.size, 0, none⟩) 2 2 (scrO 0) _ rfl (by decide) (by decide) (by decide) np64' (scr_rd w 0) (scr_ok _ 0 (.inl rfl)))
  rw [six_steps hok (by decide)] at HS6
  have HST : Hidden (∀ (A : Option Addr) (k c : Nat) (X : List OpX) (W : World), X.length = k → k ≤ 200 → RdX ocells 6 W A X → (∀ x ∈ X, OpOk W x) → Calls Tryz.prog 11 #[.int .i64 64, .slice A k c] W fun e w' => e = .returned (.tuple #[.int .i64 ((runK 16 (beg0 64 16) X k).2 : Int), .nilIface]) ∧ Below W.heap.size W w') := ⟨fun A k c X W h1 h2 h3 h4 => steps_ok 64 16 A k c X W h1 h2 (by decide) (by decide) np64' h3 h4⟩
  have HOK := Hidden.mk hok
  clear hal hok
  go_wp2_with fail
  refine HS6.out.mono ?_
  rintro e w1 ⟨rfl, hb1⟩
  have HB1 := Hidden.mk (HAL.out.trans (hb1.mono HAL.out.size))
  clear hb1 HS6 HAL
  by_cases h60 : 60 < m
  · have d1 : decide ((60 : Int) < m) = true := by simp; omega
    have d1' : decide (60 < m) = true := by simpa using h60
    clear h60
    go_wp2_with fail
    go_ret
    exact ⟨rfl, HB1.out⟩
  have d1 : decide ((60 : Int) < m) = false := by simp; omega
  have d1' : decide (60 < m) = false := by simpa using h60
  by_cases h62 : 60 < m2
  · have d2 : decide ((60 : Int) < m2) = true := by simp; omega
    have d2' : decide (60 < m2) = true := by simpa using h62
    clear h60 h62
    go_wp2_with fail
    go_ret
    exact ⟨rfl, HB1.out⟩
  have d2 : decide ((60 : Int) < m2) = false := by simp; omega
  have d2' : decide (60 < m2) = false := by simpa using h62
  have hm60 : m ≤ 60 := by omega
  have hm260 : m2 ≤ 60 := by omega
  have HS1 := Hidden.mk (HST.out OA m oc L w1 HLM.out.1 (by omega) (HL.out.1.below HB1.out) (fun x hx => (HL.out.2.1 x hx).below HB1.out))
  obtain ⟨N1, hN1⟩ : ∃ N, (runK 16 (beg0 64 16) L m).2 = N := ⟨_, rfl⟩
  rw [hN1] at HS1
  have HN1 := Hidden.mk hN1
  clear hN1 h60 h62
  go_wp2_with fail
  refine HS1.out.mono ?_
  rintro e w2 ⟨rfl, hb2⟩
  have HB2 := Hidden.mk (HB1.out.trans (hb2.mono HB1.out.size))
  clear hb2 HS1 HB1 d1 d1' d2 d2'
  obtain ⟨i0, hi0, hz0, hz1, hz2⟩ := info_parts op_info
  have HI := Hidden.mk (And.intro hi0 (And.intro hz0 (And.intro hz1 hz2)))
  go_wp2_with (first | (at_builtin; refine wpList_append_src _ rfl (.tmp 43) (.tmp 44) _ rfl w2.heap.size 40 i0 _ 6 72 Tryz.underlying22 hi0 hz0 hz1 hz2 rfl (by decide) (.slice none 0 0) 0 [] rfl (World.ownsRow_nil _ _ _ _) OA m oc (L.flatMap ocells) rfl (Src.of_rdX ocells_len (by omega) HLM.out.1 (HL.out.1.below HB2.out)) (ocells_one L) (by simp only [maxLen]; omega) (by omega) (Nat.le_refl _) ?_; intro v5 w5 hown5 hg5 hat5; have hB5 := (Below.refl _ _).grown hg5 (Nat.le_refl _) (fun q hq => by simp [Value.ownBlock] at hq); have hO5 : w5.ownsRow w2.heap.size 40 6 v5 m (L.flatMap ocells) := (by simpa using hown5)) | (at_builtin; refine wpList_append_src _ rfl (.tmp 46) (.tmp 47) _ rfl w2.heap.size 40 i0 _ 6 72 Tryz.underlying22 hi0 hz0 hz1 hz2 rfl (by decide) v5 m (L.flatMap ocells) rfl hO5 MA m2 mc (M.flatMap ocells) rfl (Src.of_rdX ocells_len (by omega) HLM.out.2 (HL.out.2.2.1.below (HB2.out.trans (hB5.mono HB2.out.size)))) (ocells_one M) (by simp only [maxLen]; omega) (by omega) hB5.size ?_; intro v6 w6 hown6 hg6 hat6; have hB6 := hB5.grown hg6 hB5.size (fun q hq => (hO5.lt q hq).1)))
  have hoA : w6.ownsRow w2.heap.size 40 6 v6 (m + m2) ((L ++ M).flatMap ocells) := by simpa using hown6
  obtain ⟨A6, c6, rfl, hc6, -⟩ := own_split hoA
  have HB6 := Hidden.mk (HB2.out.trans (hB6.mono HB2.out.size))
  have hLM : (L ++ M).length = m + m2 := by rw [List.length_append, HLM.out.1, HLM.out.2]
  have HS2 := Hidden.mk (HST.out A6 (m + m2) c6 (L ++ M) w6 hLM (by omega) (own_rdX3 ocells_len hLM hoA) (fun x hx => by
    rcases List.mem_append.1 hx with h | h
    · exact (HL.out.2.1 x h).below HB6.out
    · exact (HL.out.2.2.2 x h).below HB6.out))
  obtain ⟨N2, hN2⟩ : ∃ N, (runK 16 (beg0 64 16) (L ++ M) (m + m2)).2 = N := ⟨_, rfl⟩
  rw [hN2] at HS2
  have hmono : N1 ≤ N2 := by
    rw [← hN2, ← HN1.out, ← runK_app 16 (beg0 64 16) L M m (by rw [HLM.out.1]; omega)]
    exact runK_mono 16 (beg0 64 16) (L ++ M) m m2
  have heven : N1 % 2 = 0 := by rw [← HN1.out]; exact runK_even 16 _ L m
  have hN1le : N1 ≤ 50 * cntC L m := by rw [← HN1.out]; exact runK_le HOK.out L 2 (Nat.le_refl _) m (by rw [HLM.out.1]; omega) (by omega)
  have HNN := Hidden.mk (And.intro hmono (And.intro heven hN1le))
  clear hown5 hg5 hat5 hB5 hO5 hown6 hg6 hat6 hB6 hoA hc6 hLM hN2 hmono heven hN1le hi0 hz0 hz1 hz2
  go_wp2_with fail
  refine HS2.out.mono ?_
  rintro e w7 ⟨rfl, hb7⟩
  have HB7 := Hidden.mk (HB6.out.trans (hb7.mono HB6.out.size))
  clear hb7 HS2 HB6 HB2
  go_wp2_with fail
  go_loopg [12, 13, 14] m (fun r nv cv iv wr => ∃ k : Nat, k ≤ m ∧ r = m - k ∧ iv = .int .i64 (k : Int) ∧ cv = .int .i64 (cntC L k : Int) ∧ Hidden (Below w7.heap.size w7 wr ∧ wr.ownsRow w7.heap.size 40 6 nv (noneK L k).length ((noneK L k).flatMap ocells)))
  case atStart => exact ⟨0, by omega, rfl, rfl, rfl, ⟨Below.refl _ _, World.ownsRow_nil _ _ _ _⟩⟩
  case round =>
    obtain ⟨k, hk, rfl, rfl, rfl, hst⟩ := hrel
    have HS := Hidden.mk hst.out
    clear hst
    by_cases hlt : k < m
    rotate_left
    · obtain rfl : k = m := by omega
      have e1 : decide ((k : Int) < k) = false := by simp
      have e2 : decide (k < k) = false := by simp
      obtain ⟨A8, c8, rfl, -, -⟩ := own_split HS.out.2
      have HBR := Hidden.mk (HB7.out.trans (HS.out.1.mono HB7.out.size))
      have HS3 := Hidden.mk (HST.out A8 (noneK L k).length c8 (noneK L k) wr rfl (by have := noneK_le L k; omega) (own_rdX3 ocells_len rfl HS.out.2) (fun x hx => (HL.out.2.1 x (noneK_mem hx).1).below HBR.out))
      rw [runK_none 16 _ (noneK L k) (fun o ho => (noneK_mem ho).2)] at HS3
      obtain ⟨q1, q2, q3⟩ := HNN.out
      have hcl := cntC_le L k
      generalize cntC L k = C at *
      generalize (noneK L k).length = nl at *
      have f1 : decide ((N1 : Int) ≤ (N2 : Int)) = true := by simp; omega
      have f1' : decide (N1 ≤ N2) = true := by simpa using q1
      have f2 : (N1 : Int) % 2 = 0 := by omega
      have f3 : IntKind.i64.wrap (50 * (C : Int)) = 50 * (C : Int) := IntWalk.i64_in _ (by omega)
      have f4 : decide ((N1 : Int) ≤ 50 * (C : Int)) = true := by simp; omega
      have f4' : decide (N1 ≤ 50 * C) = true := by simpa using q3
      clear hlt HS
      go_wp2_with fail
      refine HS3.out.mono ?_
      rintro e w9 ⟨rfl, hb9⟩
      have HB9 := Hidden.mk (HBR.out.trans (hb9.mono HBR.out.size))
      clear hb9 HS3 HBR
      go_wp2_with fail
      go_ret
      exact ⟨rfl, HB9.out⟩
    have e1 : decide ((k : Int) < m) = true := by simp; omega
    have e1' : decide (k < m) = true := by simpa using hlt
    have i0' : (0 : Int) ≤ k := by omega
    have i1' : (k : Int) < m := by omega
    have s1 : IntKind.i64.wrap ((k : Int) + 1) = (k : Int) + 1 := IntWalk.i64_in _ (by omega)
    have hkl : k < L.length := by rw [HLM.out.1]; exact hlt
    have hB := HB7.out.trans (HS.out.1.mono HB7.out.size)
    obtain ⟨pb, off, rfl, x0, x1, x2, x3, x4, x5⟩ := ops_at (HL.out.1.below hB) k hkl
    have HNK := Hidden.mk (noneK_succ L k hkl)
    have HCK := Hidden.mk (cntC_succ L k hkl)
    have hcl := cntC_le L k
    have hnl := noneK_le L k
    have HOC : Hidden (ocells L[k] = [.int .i64 L[k].what, .int .i64 L[k].handle, .int .i64 L[k].at_, .int .i64 L[k].len, sv L[k].name, .slice L[k].A L[k].body.length L[k].cap]) := ⟨rfl⟩
    generalize hcc : cntC L k = C at *
    generalize hnn : noneK L k = NK at *
    have s2 : IntKind.i64.wrap ((C : Int) + 1) = (C : Int) + 1 := IntWalk.i64_in _ (by omega)
    have HW : Hidden (∃ o : OpX, o = L[k] ∧ o.what = L[k].what) := ⟨_, rfl, rfl⟩
    generalize hoo : L[k] = o at *
    have HO := Hidden.mk hoo
    clear hB hcc hnn hoo HW
    by_cases hw6 : o.what = 6
    · have z6 : (o.what == 6) = true := by simpa using hw6
      have hC1 : cntC L (k + 1) = C + 1 := by rw [HCK.out, if_pos hw6]
      have hN1' : noneK L (k + 1) = NK := by rw [HNK.out, if_pos hw6, List.append_nil]
      have HN : Hidden (cntC L (k + 1) = C + 1 ∧ noneK L (k + 1) = NK) := ⟨hC1, hN1'⟩
      rw [hw6] at x0
      clear hC1 hN1' hw6 z6 HNK HCK
      go_wp2_with fail
      go_roundg (m - (k + 1))
      case measure => omega
      case rel => exact ⟨k + 1, by omega, rfl, by go_num, by rw [HN.out.1]; go_num, by rw [HN.out.2]; exact HS⟩
    · have z6 : (o.what == 6) = false := by simpa using hw6
      have hC1 : cntC L (k + 1) = C := by rw [HCK.out, if_neg hw6]; rfl
      have hN1' : noneK L (k + 1) = NK ++ [o] := by rw [HNK.out, if_neg hw6]
      have HN : Hidden (cntC L (k + 1) = C ∧ noneK L (k + 1) = NK ++ [o]) := ⟨hC1, hN1'⟩
      clear hC1 hN1' hw6 HNK HCK
      obtain ⟨hi0, hz0, hz1, hz2⟩ := HI.out
      go_wp2_with (at_builtin; refine wpList_append_lies _ rfl (.tmp 66) (.tmp 71) _ rfl w7.heap.size 40 i0 _ 6 72 Tryz.underlying22 hi0 hz0 hz1 hz2 rfl (by decide) u12 NK.length (NK.flatMap ocells) rfl (own_below HS.out.2 ((Below.refl _ _).alloc (Nat.le_refl _) _)) ⟨(wr).heap.size, 0, none⟩ 1 1 [.int .i64 o.what, .int .i64 o.handle, .int .i64 o.at_, .int .i64 o.len, sv o.name, .slice o.A o.body.length o.cap] rfl rfl (World.news_of_block (cs := #[.int .i64 o.what, .int .i64 o.handle, .int .i64 o.at_, .int .i64 o.len, sv o.name, .slice o.A o.body.length o.cap]) (t := 40) (fr := (0, 0)) (heap_alloc_new (wr) _)) (by simp [Value.oneCell']) (by omega) (by simp only [maxLen]; omega) (by omega) (by have hz_ := HS.out.1.size; rw [World.size_alloc]; omega) ((wr).heap.size + 1) (by simp) ?_; intro g8 cap8 w8 hown8 hg8 hat8 hlt8)
      have hgW := grown_trans' ((Below.refl wr.heap.size wr).alloc (Nat.le_refl _) _) hg8
      have hB8 : Below w7.heap.size w7 w8 := HS.out.1.grown hgW HS.out.1.size (fun q hq => (HS.out.2.lt q hq).1)
      have HF : Hidden (Below w7.heap.size w7 w8 ∧ w8.ownsRow w7.heap.size 40 6 (.slice (some ⟨g8, 0, none⟩) (NK.length + 1) cap8) (NK ++ [o]).length ((NK ++ [o]).flatMap ocells)) := ⟨hB8, by
        rw [List.length_append, List.flatMap_append]
        simpa [HOC.out] using hown8⟩
      clear hgW hB8 hown8 hg8 hat8 hlt8 hi0 hz0 hz1 hz2
      go_roundg (m - (k + 1))
      case measure => omega
      case rel => exact ⟨k + 1, by omega, rfl, by go_num, by rw [HN.out.1], by rw [HN.out.2]; exact HF⟩
end Go.Proofs.YtoieifphklodoaaGreat
