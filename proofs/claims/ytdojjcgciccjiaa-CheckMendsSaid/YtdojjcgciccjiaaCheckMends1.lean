/- CheckMends: the walk. -/
import Derived.Test.YtdojjcgciccjiaaChk6
import Derived.Deep.DeepCutAuto
import Derived.Test.YtdojjcgciccjiaaRowSet
namespace Go.Proofs.Ytdojjcgciccjiaa
open Go.RowKit

theorem fact300 : checkL ((List.replicate 300 0).set 0 17) = [⟨1, 1⟩] := by kernel_rfl
theorem wrong_any (l : Bytes) (k : Nat) (hk : k < 40) : (checkL l).any (fun f => decide ((f.what : Int) ≤ 3) && ((f.which : Int) == (k : Int) + 1)) = !(kindH l.length (rawE l) k == 0 || kindH l.length (rawE l) k == 6) := by
  rw [Bool.eq_iff_iff, List.any_eq_true]
  have hc := kindH_cases l.length (rawE l) k
  constructor
  · rintro ⟨f, hf, hp⟩
    simp only [Bool.and_eq_true, decide_eq_true_eq, beq_iff_eq] at hp
    rcases mem_checkL.1 hf with ⟨k', hk', hn, rfl⟩ | ⟨i, hi, hn, rfl⟩
    · simp only at hp
      obtain rfl : k' = k := by omega
      simp only [not_or] at hn
      simp [hn.1, hn.2]
    · have := kindR_cases (leadsE l.length (rawE l)) (rawR l) i
      simp only at hp; omega
  · intro h
    simp only [Bool.not_eq_true', Bool.or_eq_false_iff, beq_eq_false_iff_ne] at h
    refine ⟨_, mem_checkL.2 (.inl ⟨k, hk, by omega, rfl⟩), ?_⟩
    simp only [Bool.and_eq_true, decide_eq_true_eq, beq_iff_eq]
    omega
theorem iget_t (A : Option Addr) (n c : Nat) (l : Bytes) (k : Nat) (w : World) (hn : l.length = n) (hr : rightB n = true) (hnc : n ≤ c) (hrd : Rd w A l) (hk : k < 40) (hE : hasE (rawE l k) = true) :
    Calls Try.prog 11 #[.slice A n c, .int .i64 ((k : Int) + 1)] w fun e w' => e = .returned (.tuple #[.agg #[.int .i64 ((k : Int) + 1), .int .i64 (rAt (rawE l k)), .int .i64 (rLen (rawE l k)), .int .i64 (rTag (rawE l k))], .nilIface]) ∧ Below w.heap.size w w' :=
  (iget_ok A n c l k w hn hr hnc hrd hk).mono fun _ _ h => ⟨h.1 hE, h.2.2⟩
theorem iget_f (A : Option Addr) (n c : Nat) (l : Bytes) (k : Nat) (w : World) (hn : l.length = n) (hr : rightB n = true) (hnc : n ≤ c) (hrd : Rd w A l) (hk : k < 40) (hE : hasE (rawE l k) = false) :
    Calls Try.prog 11 #[.slice A n c, .int .i64 ((k : Int) + 1)] w fun e w' => e = .returned (.tuple #[.agg #[.int .i64 0, .int .i64 0, .int .i64 0, .int .i64 0], .iface 70 (.int .i64 5)]) ∧ Below w.heap.size w w' :=
  (iget_ok A n c l k w hn hr hnc hrd hk).mono fun _ _ h => ⟨h.2.1 hE, h.2.2⟩
theorem below_four {w w' : World} {a b c d : Value} {t : TypeId} (hb : Below (w.alloc (.cells #[a, b, c, d] t)).heap.size (w.alloc (.cells #[a, b, c, d] t)) w') :
    w'.cell? ⟨w.heap.size, 0, none⟩ = some a ∧ w'.cell? ⟨w.heap.size, 1, none⟩ = some b ∧ w'.cell? ⟨w.heap.size, 2, none⟩ = some c ∧ w'.cell? ⟨w.heap.size, 3, none⟩ = some d := by
  have h := (hb.block w.heap.size (by simp)).trans (heap_alloc_new w (.cells #[a, b, c, d] t))
  refine ⟨?_, ?_, ?_, ?_⟩ <;> simp [World.cell?, h]
set_option maxRecDepth 100000 in
set_option maxHeartbeats 4000000 in
theorem checkMends_walk (A : Option Addr) (n c : Nat) (l : Bytes) (w : World) (hn : l.length = n) (hl : n ≤ 140737488351232) (hnc : n ≤ c) (hrd : Rd w A l) :
    Calls Try.prog 3 #[.slice A n c] w fun e w' => e = .returned (.bool true) ∧ Below w.heap.size w w' := by
  have hr300 : rightB 300 = true := by decide
  go_enter Try.func3, Try.ntmps3
  go_wp2_with fail
  refine (new_ok 300 _ hr300).mono ?_
  rintro e w1 ⟨g1, rfl, hg1, hrow1, hb1⟩
  rw [show (300 : Int).toNat = 300 from rfl] at hrow1 ⊢
  have h300 : (List.replicate 300 (0 : UInt8)).length = 300 := by decide
  have hcell := hrow1.cell 0 (by rw [h300]; omega)
  have hfr := hrow1.frozen 0
  have hrow2 := hrow1.store 0 (by rw [h300]; omega) 17
  have hB2 : Below w.heap.size w (w1.setCell ⟨g1, 0, none⟩ (bv 17)) := hb1.setCell (p := ⟨g1, 0, none⟩) hg1 _
  have hbv : bv 17 = .int .u8 17 := rfl
  rw [hbv] at hrow2 hB2
  clear hrow1 hb1 hr300 hbv
  go_wp2_with fail
  generalize w1.setCell ⟨g1, 0, none⟩ (.int .u8 17) = w2 at *
  refine (check_yes _ 300 300 _ _ (by rw [List.length_set]; exact h300) (by decide) (by omega) hrow2.rd).mono ?_
  rintro e w3 ⟨v3, rfl, hown3, hb3⟩
  have hB3 := hB2.trans (hb3.mono hB2.size)
  rw [fact300] at hown3
  obtain ⟨A3, c3, rfl, hc3, hrf⟩ := own_rdFs hown3
  obtain ⟨gf, off, rfl, f0, f1⟩ := hrf 0 (by simp)
  simp only [Nat.zero_mul, Nat.add_zero, List.getElem_cons_zero, List.length_cons, List.length_nil, Nat.zero_add, show ((1 : Nat) : Int) = 1 from rfl] at f0 f1 ⊢
  have hrd3 := hrd.below hB3
  clear hrow2 hown3 hrf hcell hfr hB2 hb3 h300 hrd
  go_wp2_with fail
  cases hr : rightB n with
  | false =>
    refine (check_no A n c _ hr).mono ?_
    rintro e w4 ⟨rfl, rfl⟩
    have hf := rightB_false.1 hr
    by_cases h288 : n < 288
    · have t1 : decide ((n : Int) < 288) = true := by simp; omega
      clear hf h288 hr
      go_wp2_with fail
      go_ret
      exact ⟨rfl, hB3⟩
    · have t1 : decide ((n : Int) < 288) = false := by simp; omega
      have t2 : decide ((6400 : Int) < (n : Int)) = true := by simp; omega
      clear hf h288 hr
      go_wp2_with fail
      go_ret
      exact ⟨rfl, hB3⟩
  | true =>
    have hnb := rightB_true.1 hr
    have hml : (mendL l).length = n := by rw [mendL_len (by omega), hn]
    refine (check_yes A n c l _ hn hr hnc hrd3).mono ?_
    rintro e w4 ⟨v4, rfl, hown4, hb4⟩
    have hB4 := hB3.trans (hb4.mono hB3.size)
    have hrd4 := hrd3.below hb4
    obtain ⟨Af, cf, rfl, hcf, hrf4⟩ := own_rdFs hown4
    clear hB3 hrd3 hb4 hown4
    go_wp2_with fail
    refine (mend_yes A n c l _ hn hr hrd4).mono ?_
    rintro e w5 ⟨g5, cap5, rfl, hg5, hnc5, hrow5, hb5⟩
    have hB5 := hB4.trans (hb5.mono hB4.size)
    have hrd5 := hrd4.below hb5
    have hrf5 := hrf4.below hb5
    clear hB4 hrd4 hrf4 hb5
    go_wp2_with fail
    refine (check_yes _ n cap5 (mendL l) _ hml hr hnc5 hrow5.rd).mono ?_
    rintro e w6 ⟨v6, rfl, hown6, hb6⟩
    rw [mend_clean (by omega)] at hown6
    obtain ⟨A6, c6, rfl, hc6, -⟩ := own_rdFs hown6
    have hB6 := hB5.trans (hb6.mono hB5.size)
    have hrd6 := hrd5.below hb6
    have hrf6 := hrf5.below hb6
    have hrow6 := hrow5.below hb6 hrow5.lt
    clear hB5 hrd5 hrf5 hrow5 hb6 hown6
    simp only [List.length_nil]
    go_wp2_with fail
    refine (mend_yes _ n cap5 (mendL l) _ hml hr hrow6.rd).mono ?_
    rintro e w7 ⟨g7, cap7, rfl, hg7, hnc7, hrow7, hb7⟩
    rw [mend_id (mend_clean (by omega))] at hrow7
    have hB7 := hB6.trans (hb7.mono hB6.size)
    have hrd7 := hrd6.below hb7
    have hrf7 := hrf6.below hb7
    have hrow8 := hrow6.below hb7 hrow6.lt
    clear hB6 hrd6 hrf6 hrow6 hb7
    have d1 := conv_text _ _ n cap7 (mendL l) hml hrow7.rd
    have d2 := conv_text _ _ n cap5 (mendL l) hml hrow8.rd
    have d3 := conv_text _ A n c l hn hrd7
    have HWR : Hidden (∀ k : Nat, k < 40 → (checkL l).any (fun f => decide ((f.what : Int) ≤ 3) && ((f.which : Int) == (k : Int) + 1)) = !(kindH l.length (rawE l) k == 0 || kindH l.length (rawE l) k == 6)) := ⟨fun k hk => wrong_any l k hk⟩
    have HRE : Hidden (∀ k : Nat, k < 40 → rawE (mendL l) k = if kindH l.length (rawE l) k = 0 ∨ kindH l.length (rawE l) k = 6 then rawE l k else List.replicate 5 0) := ⟨fun k hk => mend_rawE (by omega) k hk⟩
    have HREST : Hidden ((mendL l).drop 288 = l.drop 288) := ⟨mend_rest (by omega)⟩
    have heq := mend_eq (l := l) (by omega)
    have e1 : (((checkL l).length : Int) == 0) = (mendL l == l) := by
      rw [Bool.eq_iff_iff]; simp only [beq_iff_eq]; rw [← heq]; simp
    have hm48 := checkL_len l
    generalize checkL l = F at *
    generalize hM : mendL l = M at *
    have HM := Hidden.mk hM
    clear hM heq hrow7
    have HRD := Hidden.mk hrd7
    have HRW := Hidden.mk hrow8
    have HRF := Hidden.mk hrf7
    clear hrd7 hrow8 hrf7 hcf hc6 hnc7 hg7 f0 f1 hc3 hg1
    generalize e2 : (M == l) = eq at e1
    all_goals
      go_wp2_with fail
      clear e1 e2
      go_loopg [15] 40 (fun k i wr => ∃ h : Nat, h ≤ 40 ∧ k = 40 - h ∧ i = .int .i64 ((h : Int) + 1) ∧ Below w7.heap.size w7 wr)
      case atStart => exact ⟨0, by omega, rfl, rfl, Below.refl _ _⟩
      case round =>
        obtain ⟨h, hh, rfl, rfl, hbel⟩ := hrel
        by_cases hlt : h < 40
        · have k0 : ((h : Int) + 1) ≤ 40 := by omega
          have s1 : IntKind.i64.wrap ((h : Int) + 1 + 1) = (h : Int) + 1 + 1 := IntWalk.i64_in _ (by omega)
          obtain ⟨P, hP⟩ : ∃ P : Flt → Bool, P = fun f => decide ((f.what : Int) ≤ 3) && ((f.which : Int) == (h : Int) + 1) := ⟨_, rfl⟩
          have HP : Hidden (∀ f : Flt, P f = (decide ((f.what : Int) ≤ 3) && ((f.which : Int) == (h : Int) + 1))) := ⟨fun f => by rw [hP]⟩
          have HW : Hidden (F.any P = !(kindH l.length (rawE l) h == 0 || kindH l.length (rawE l) h == 6)) := ⟨by rw [hP]; exact HWR.out h hlt⟩
          have hrfx := HRF.out.below hbel
          clear hP
          go_wp2_with fail
          go_loopg [16, 17] F.length (fun k b i wx => wr = wx ∧ ∃ j : Nat, j ≤ F.length ∧ k = F.length - j ∧ i = .int .i64 j ∧ b = .bool ((F.take j).any P))
          case atStart => exact ⟨rfl, 0, by omega, rfl, rfl, rfl⟩
          case round =>
            obtain ⟨rfl, j, hj, rfl, rfl, rfl⟩ := hrel
            by_cases hjl : j < F.length
            · obtain ⟨gx, offx, hA, c0, c1⟩ := hrfx j hjl
              subst hA
              have i0 : (0 : Int) ≤ j := by omega
              have i1 : (j : Int) < F.length := by omega
              have HS : Hidden ((F.take (j + 1)).any P = ((F.take j).any P || (decide ((F[j].what : Int) ≤ 3) && ((F[j].which : Int) == (h : Int) + 1)))) := ⟨by
                rw [List.take_succ_eq_append_getElem hjl, List.any_append, ← HP.out]; simp⟩
              generalize F[j] = f at *
              obtain ⟨what, which⟩ := f
              dsimp only at *
              cases hb : (F.take j).any P with
              | true =>
                go_wp2_with fail
                go_roundg (F.length - (j + 1))
                case measure => omega
                case rel => exact ⟨rfl, j + 1, by omega, rfl, by go_num, by rw [HS.out, hb]; rfl⟩
              | false =>
                cases t3 : decide ((what : Int) ≤ 3) with
                | false =>
                  go_wp2_with fail
                  go_roundg (F.length - (j + 1))
                  case measure => omega
                  case rel => exact ⟨rfl, j + 1, by omega, rfl, by go_num, by rw [HS.out, hb, t3]; rfl⟩
                | true =>
                  cases t4 : ((which : Int) == (h : Int) + 1) with
                  | false =>
                    go_wp2_with fail
                    go_roundg (F.length - (j + 1))
                    case measure => omega
                    case rel => exact ⟨rfl, j + 1, by omega, rfl, by go_num, by rw [HS.out, hb, t3, t4]; rfl⟩
                  | true =>
                    go_wp2_with fail
                    go_roundg (F.length - (j + 1))
                    case measure => omega
                    case rel => exact ⟨rfl, j + 1, by omega, rfl, by go_num, by rw [HS.out, hb, t3, t4]; rfl⟩
            · obtain rfl : j = F.length := by omega
              rw [List.take_of_length_le (Nat.le_refl _)]
              have HRm := Hidden.mk (HRE.out h hlt)
              have HRl := Hidden.mk (HRD.out.below hbel)
              have HN := Hidden.mk hn
              have HML := Hidden.mk hml
              clear hn hml
              cases hE : hasE (rawE l h) with
              | true =>
                have G1 := Hidden.mk (iget_t A n c l h wr HN.out hr hnc HRl.out hlt hE)
                cases hwr : (!(kindH l.length (rawE l) h == 0 || kindH l.length (rawE l) h == 6)) with
                | false =>
                  have hkk : kindH l.length (rawE l) h = 0 ∨ kindH l.length (rawE l) h = 6 := by
                    by_cases h0 : kindH l.length (rawE l) h = 0
                    · exact .inl h0
                    · exact .inr (by simpa [h0] using hwr)
                  have hsame := HRm.out
                  rw [if_pos hkk] at hsame
                  have G2 : Hidden (∀ W, Rd W (some ⟨g5, 0, none⟩) M → Calls Try.prog 11 #[.slice (some ⟨g5, 0, none⟩) n cap5, .int .i64 ((h : Int) + 1)] W fun e w' => e = .returned (.tuple #[.agg #[.int .i64 ((h : Int) + 1), .int .i64 (rAt (rawE l h)), .int .i64 (rLen (rawE l h)), .int .i64 (rTag (rawE l h))], .nilIface]) ∧ Below W.heap.size W w') :=
                    ⟨fun W hW => by have := iget_t (some ⟨g5, 0, none⟩) n cap5 M h W HML.out hr hnc5 hW hlt (by rw [hsame]; exact hE); rwa [hsame] at this⟩
                  rw [hwr] at HW
                  rw [HW.out]
                  generalize (rAt (rawE l h) : Int) = a1 at *
                  generalize (rLen (rawE l h) : Int) = a2 at *
                  generalize rTag (rawE l h) = a3 at *
                  clear hwr hkk hsame hE hrfx
                  go_wp2_with fail
                  refine (G1.out).mono ?_
                  rintro e w8 ⟨rfl, hb8⟩
                  have hB8 := hbel.trans (hb8.mono hbel.size)
                  have hrm := HRW.out.below hB8 HRW.out.lt
                  have HRm8 := Hidden.mk hrm.rd
                  clear hrm
                  go_wp2_with fail
                  have hal : Below w8.heap.size w8 (w8.alloc (.cells #[.int .i64 ((h : Int) + 1), .int .i64 a1, .int .i64 a2, .int .i64 a3] 36)) := (Below.refl _ _).alloc (Nat.le_refl _) _
                  refine (G2.out _ (HRm8.out.below hal)).mono ?_
                  rintro e w9 ⟨rfl, hb9⟩
                  have hfour := below_four hb9
                  obtain ⟨x0, x1, x2, x3⟩ := hfour
                  have hB9 : Below w7.heap.size w7 w9 := (hB8.alloc hB8.size _).trans (hb9.mono (by have := hB8.size; simp; omega))
                  have hsz : w8.heap.size < w9.heap.size := by have := hb9.size; simp at this; omega
                  have hB10 : Below w7.heap.size w7 (w9.alloc (.cells #[.int .i64 ((h : Int) + 1), .int .i64 a1, .int .i64 a2, .int .i64 a3] 36)) := hB9.alloc hB9.size _
                  have hfour := below_four (Below.refl _ (w9.alloc (.cells #[.int .i64 ((h : Int) + 1), .int .i64 a1, .int .i64 a2, .int .i64 a3] 36)))
                  obtain ⟨y0, y1, y2, y3⟩ := hfour
                  have hal9 : Below w9.heap.size w9 (w9.alloc (.cells #[.int .i64 ((h : Int) + 1), .int .i64 a1, .int .i64 a2, .int .i64 a3] 36)) := (Below.refl _ _).alloc (Nat.le_refl _) _
                  replace x0 := (hal9.cell (p := ⟨w8.heap.size, 0, none⟩) hsz).trans x0
                  replace x1 := (hal9.cell (p := ⟨w8.heap.size, 1, none⟩) hsz).trans x1
                  replace x2 := (hal9.cell (p := ⟨w8.heap.size, 2, none⟩) hsz).trans x2
                  replace x3 := (hal9.cell (p := ⟨w8.heap.size, 3, none⟩) hsz).trans x3
                  clear hal hb8 hb9 hal9 hB8 hB9 hsz
                  go_wp2_with fail
                  generalize w9.alloc (.cells #[.int .i64 ((h : Int) + 1), .int .i64 a1, .int .i64 a2, .int .i64 a3] 36) = w10 at *
                  generalize w8.heap.size = B8 at *
                  generalize w9.heap.size = B9 at *
                  go_quiet (fail)
                  go_wp2_with fail
                  go_roundg (40 - (h + 1))
                  case measure => omega
                  case rel => exact ⟨h + 1, by omega, rfl, by go_num, below_drewN hB10 _⟩
                | true =>
                  have hkk : ¬ (kindH l.length (rawE l) h = 0 ∨ kindH l.length (rawE l) h = 6) := by simpa using hwr
                  have hsame := HRm.out
                  rw [if_neg hkk] at hsame
                  have G2 : Hidden (∀ W, Rd W (some ⟨g5, 0, none⟩) M → Calls Try.prog 11 #[.slice (some ⟨g5, 0, none⟩) n cap5, .int .i64 ((h : Int) + 1)] W fun e w' => e = .returned (.tuple #[.agg #[.int .i64 0, .int .i64 0, .int .i64 0, .int .i64 0], .iface 70 (.int .i64 5)]) ∧ Below W.heap.size W w') :=
                    ⟨fun W hW => iget_f (some ⟨g5, 0, none⟩) n cap5 M h W HML.out hr hnc5 hW hlt (by rw [hsame]; decide)⟩
                  rw [hwr] at HW
                  rw [HW.out]
                  generalize (rAt (rawE l h) : Int) = a1 at *
                  generalize (rLen (rawE l h) : Int) = a2 at *
                  generalize rTag (rawE l h) = a3 at *
                  clear hwr hkk hsame hE hrfx
                  go_wp2_with fail
                  refine (G1.out).mono ?_
                  rintro e w8 ⟨rfl, hb8⟩
                  have hB8 := hbel.trans (hb8.mono hbel.size)
                  have hrm := HRW.out.below hB8 HRW.out.lt
                  have HRm8 := Hidden.mk hrm.rd
                  clear hrm
                  go_wp2_with fail
                  have hal : Below w8.heap.size w8 (w8.alloc (.cells #[.int .i64 ((h : Int) + 1), .int .i64 a1, .int .i64 a2, .int .i64 a3] 36)) := (Below.refl _ _).alloc (Nat.le_refl _) _
                  refine (G2.out _ (HRm8.out.below hal)).mono ?_
                  rintro e w9 ⟨rfl, hb9⟩
                  have hfour := below_four hb9
                  obtain ⟨x0, x1, x2, x3⟩ := hfour
                  have hB9 : Below w7.heap.size w7 w9 := (hB8.alloc hB8.size _).trans (hb9.mono (by have := hB8.size; simp; omega))
                  have hsz : w8.heap.size < w9.heap.size := by have := hb9.size; simp at this; omega
                  have hB10 : Below w7.heap.size w7 (w9.alloc (.cells #[.int .i64 0, .int .i64 0, .int .i64 0, .int .i64 0] 36)) := hB9.alloc hB9.size _
                  have hfour := below_four (Below.refl _ (w9.alloc (.cells #[.int .i64 0, .int .i64 0, .int .i64 0, .int .i64 0] 36)))
                  obtain ⟨y0, y1, y2, y3⟩ := hfour
                  have hal9 : Below w9.heap.size w9 (w9.alloc (.cells #[.int .i64 0, .int .i64 0, .int .i64 0, .int .i64 0] 36)) := (Below.refl _ _).alloc (Nat.le_refl _) _
                  replace x0 := (hal9.cell (p := ⟨w8.heap.size, 0, none⟩) hsz).trans x0
                  replace x1 := (hal9.cell (p := ⟨w8.heap.size, 1, none⟩) hsz).trans x1
                  replace x2 := (hal9.cell (p := ⟨w8.heap.size, 2, none⟩) hsz).trans x2
                  replace x3 := (hal9.cell (p := ⟨w8.heap.size, 3, none⟩) hsz).trans x3
                  clear hal hb8 hb9 hal9 hB8 hB9 hsz
                  go_wp2_with fail
                  generalize w9.alloc (.cells #[.int .i64 0, .int .i64 0, .int .i64 0, .int .i64 0] 36) = w10 at *
                  generalize w8.heap.size = B8 at *
                  generalize w9.heap.size = B9 at *
                  go_quiet (fail)
                  go_wp2_with fail
                  go_roundg (40 - (h + 1))
                  case measure => omega
                  case rel => exact ⟨h + 1, by omega, rfl, by go_num, below_drewN hB10 _⟩
              | false =>
                have G1 := Hidden.mk (iget_f A n c l h wr HN.out hr hnc HRl.out hlt hE)
                have hno : hasE (rawE M h) = false := by
                  rw [HRm.out]; split
                  · exact hE
                  · decide
                have G2 : Hidden (∀ W, Rd W (some ⟨g5, 0, none⟩) M → Calls Try.prog 11 #[.slice (some ⟨g5, 0, none⟩) n cap5, .int .i64 ((h : Int) + 1)] W fun e w' => e = .returned (.tuple #[.agg #[.int .i64 0, .int .i64 0, .int .i64 0, .int .i64 0], .iface 70 (.int .i64 5)]) ∧ Below W.heap.size W w') :=
                  ⟨fun W hW => iget_f (some ⟨g5, 0, none⟩) n cap5 M h W HML.out hr hnc5 hW hlt hno⟩
                clear hno hE hrfx
                cases hwr : F.any P with
                | false =>
                  go_wp2_with fail
                  refine (G1.out).mono ?_
                  rintro e w8 ⟨rfl, hb8⟩
                  have hB8 := hbel.trans (hb8.mono hbel.size)
                  have hrm := HRW.out.below hB8 HRW.out.lt
                  have HRm8 := Hidden.mk hrm.rd
                  clear hrm
                  go_wp2_with fail
                  have hal : Below w8.heap.size w8 (w8.alloc (.cells #[.int .i64 0, .int .i64 0, .int .i64 0, .int .i64 0] 36)) := (Below.refl _ _).alloc (Nat.le_refl _) _
                  refine (G2.out _ (HRm8.out.below hal)).mono ?_
                  rintro e w9 ⟨rfl, hb9⟩
                  have hfour := below_four hb9
                  obtain ⟨x0, x1, x2, x3⟩ := hfour
                  have hB9 : Below w7.heap.size w7 w9 := (hB8.alloc hB8.size _).trans (hb9.mono (by have := hB8.size; simp; omega))
                  have hsz : w8.heap.size < w9.heap.size := by have := hb9.size; simp at this; omega
                  have hB10 : Below w7.heap.size w7 (w9.alloc (.cells #[.int .i64 0, .int .i64 0, .int .i64 0, .int .i64 0] 36)) := hB9.alloc hB9.size _
                  have hfour := below_four (Below.refl _ (w9.alloc (.cells #[.int .i64 0, .int .i64 0, .int .i64 0, .int .i64 0] 36)))
                  obtain ⟨y0, y1, y2, y3⟩ := hfour
                  have hal9 : Below w9.heap.size w9 (w9.alloc (.cells #[.int .i64 0, .int .i64 0, .int .i64 0, .int .i64 0] 36)) := (Below.refl _ _).alloc (Nat.le_refl _) _
                  replace x0 := (hal9.cell (p := ⟨w8.heap.size, 0, none⟩) hsz).trans x0
                  replace x1 := (hal9.cell (p := ⟨w8.heap.size, 1, none⟩) hsz).trans x1
                  replace x2 := (hal9.cell (p := ⟨w8.heap.size, 2, none⟩) hsz).trans x2
                  replace x3 := (hal9.cell (p := ⟨w8.heap.size, 3, none⟩) hsz).trans x3
                  clear hal hb8 hb9 hal9 hB8 hB9 hsz
                  go_wp2_with fail
                  generalize w9.alloc (.cells #[.int .i64 0, .int .i64 0, .int .i64 0, .int .i64 0] 36) = w10 at *
                  generalize w8.heap.size = B8 at *
                  generalize w9.heap.size = B9 at *
                  go_quiet (fail)
                  go_wp2_with fail
                  go_roundg (40 - (h + 1))
                  case measure => omega
                  case rel => exact ⟨h + 1, by omega, rfl, by go_num, below_drewN hB10 _⟩
                | true =>
                  go_wp2_with fail
                  refine (G1.out).mono ?_
                  rintro e w8 ⟨rfl, hb8⟩
                  have hB8 := hbel.trans (hb8.mono hbel.size)
                  have hrm := HRW.out.below hB8 HRW.out.lt
                  have HRm8 := Hidden.mk hrm.rd
                  clear hrm
                  go_wp2_with fail
                  have hal : Below w8.heap.size w8 (w8.alloc (.cells #[.int .i64 0, .int .i64 0, .int .i64 0, .int .i64 0] 36)) := (Below.refl _ _).alloc (Nat.le_refl _) _
                  refine (G2.out _ (HRm8.out.below hal)).mono ?_
                  rintro e w9 ⟨rfl, hb9⟩
                  have hfour := below_four hb9
                  obtain ⟨x0, x1, x2, x3⟩ := hfour
                  have hB9 : Below w7.heap.size w7 w9 := (hB8.alloc hB8.size _).trans (hb9.mono (by have := hB8.size; simp; omega))
                  have hsz : w8.heap.size < w9.heap.size := by have := hb9.size; simp at this; omega
                  have hB10 : Below w7.heap.size w7 (w9.alloc (.cells #[.int .i64 0, .int .i64 0, .int .i64 0, .int .i64 0] 36)) := hB9.alloc hB9.size _
                  have hfour := below_four (Below.refl _ (w9.alloc (.cells #[.int .i64 0, .int .i64 0, .int .i64 0, .int .i64 0] 36)))
                  obtain ⟨y0, y1, y2, y3⟩ := hfour
                  have hal9 : Below w9.heap.size w9 (w9.alloc (.cells #[.int .i64 0, .int .i64 0, .int .i64 0, .int .i64 0] 36)) := (Below.refl _ _).alloc (Nat.le_refl _) _
                  replace x0 := (hal9.cell (p := ⟨w8.heap.size, 0, none⟩) hsz).trans x0
                  replace x1 := (hal9.cell (p := ⟨w8.heap.size, 1, none⟩) hsz).trans x1
                  replace x2 := (hal9.cell (p := ⟨w8.heap.size, 2, none⟩) hsz).trans x2
                  replace x3 := (hal9.cell (p := ⟨w8.heap.size, 3, none⟩) hsz).trans x3
                  clear hal hb8 hb9 hal9 hB8 hB9 hsz
                  go_wp2_with fail
                  generalize w9.alloc (.cells #[.int .i64 0, .int .i64 0, .int .i64 0, .int .i64 0] 36) = w10 at *
                  generalize w8.heap.size = B8 at *
                  generalize w9.heap.size = B9 at *
                  go_quiet (fail)
                  go_wp2_with fail
                  go_roundg (40 - (h + 1))
                  case measure => omega
                  case rel => exact ⟨h + 1, by omega, rfl, by go_num, below_drewN hB10 _⟩
        · obtain rfl : h = 40 := by omega
          have hrdl := HRD.out.below hbel
          have hrdm := (HRW.out.below hbel HRW.out.lt).rd
          have t1 := run_tailA (some ⟨g5, 0, none⟩) n cap5 288 (by omega) 
          have t2 := run_tailA A n c 288 (by omega)
          simp only [Int.cast_ofNat_Int] at t1 t2
          have q1 := hrdm.tail 288 cap5 (by omega) (by omega)
          have q2 := hrdl.tail 288 c (by omega) (by omega)
          have HD := HREST.out
          rw [HD] at q1
          have hdl : (l.drop 288).length = n - 288 := by simp; omega
          generalize (if cap5 = 288 then some (⟨g5, 0, none⟩ : Addr) else (some (⟨g5, 0, none⟩ : Addr)).map (·.add 288)) = A1 at *
          generalize (if c = 288 then A else A.map (·.add 288)) = A2 at *
          generalize l.drop 288 = R at *
          have v1 := fun nq => conv_text (wr.drewN nq) A1 (n - 288) (cap5 - 288) R hdl q1
          have v2 := fun nq => conv_text (wr.drewN nq) A2 (n - 288) (c - 288) R hdl q2
          have HB := Hidden.mk (hB7.trans (hbel.mono hB7.size))
          clear hrdl hrdm q1 q2 HD hdl hbel hB7 hn hml
          go_wp2_with fail
          go_quiet (fail)
          go_wp2_with fail
          go_ret
          exact ⟨rfl, below_drewN HB.out _⟩
end Go.Proofs.Ytdojjcgciccjiaa
