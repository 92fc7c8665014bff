/- DiffBack: the walk. -/
import Derived.Test.YthaffnhapfakgaaTurn1
import Derived.Deep.DeepCutAuto
namespace Go.Proofs.Ythaffnhapfakgaa
open Go.RowKit

theorem apply_none0 (n c : Nat) (LA : Option Addr) (d : Nat) (w : World) :
    Calls Try.prog 7 #[.slice none n c, .slice LA 0 d] w fun e w' => e = .returned (.tuple #[.slice none 0 0, .nilIface]) ∧ w = w' := by
  go_enter Try.func7, Try.ntmps7
  go_wp2_with fail
  refine (clone_nil n c _).mono ?_
  rintro e w1 ⟨rfl, rfl⟩
  go_wp2_with fail
  go_loopw [17] (fun kv wr => kv = .int .i64 0 ∧ wr = w) (fun _ _ => 0)
  case atStart => exact ⟨rfl, rfl⟩
  case round =>
    obtain ⟨rfl, rfl⟩ := hrel
    go_wp2_with fail
    go_ret2
    exact ⟨rfl, rfl⟩
theorem Rd.none_nil {w : World} {l : Bytes} (h : Rd w none l) : l = [] := by
  cases l with
  | nil => rfl
  | cons x r => obtain ⟨b, off, h, _⟩ := h 0 (by simp); cases h
theorem apply_fit (A : Option Addr) (n c : Nat) (b : Bytes) (LA : Option Addr) (m d : Nat) (L : List Chg) (w : World) (b' : Bytes) (hn : b.length = n) (hnl : n ≤ 140737488351232) (hb : Rd w A b) (hm : L.length = m) (hm2 : m ≤ 200) (hmd : m ≤ d) (hL : RdG w LA L) (hA : b = [] → L = []) (hok : applyL b L = .ok b') :
    Calls Try.prog 7 #[.slice A n c, .slice LA m d] w fun e w' => ∃ A' cap, e = .returned (.tuple #[.slice A' n cap, .nilIface]) ∧ b'.length = n ∧ Rd w' A' b' ∧ Below w.heap.size w w' := by
  rcases A with _ | ad
  · have hbn := hb.none_nil
    subst hbn
    have hl0 := hA rfl
    subst hl0
    simp at hn hm
    subst hn hm
    refine (apply_none0 0 c LA d w).mono ?_
    rintro e w' ⟨rfl, rfl⟩
    have : b' = [] := by simpa [applyL] using hok.symm
    subst this
    exact ⟨none, 0, rfl, rfl, Rd.nil_, Below.refl _ _⟩
  · refine (apply_some ad n c b LA m d L w hn hnl hb hm hm2 hmd hL).mono ?_
    rintro e w' ⟨hbel, ⟨x, h, _⟩ | ⟨b2, g, cap, h, rfl, hg, hl, hrow⟩⟩
    · rw [hok] at h; cases h
    · rw [hok] at h
      obtain rfl := Except.ok.inj h
      exact ⟨_, cap, rfl, hl, hrow.rd, hbel⟩

/-- what each round of the law finds -/
theorem diffL_round (a b : Bytes) (hl : a.length = b.length) (c : Chg) (h : c ∈ diffL a b) : ∃ j r : Nat, c.at_ = j ∧ c.old.length = r ∧ c.new.length = r ∧ 0 < r ∧ j + r ≤ a.length ∧ ∀ k x y, k < r → c.old[k]? = some x → c.new[k]? = some y → x ≠ y := by
  obtain ⟨j, r, hc⟩ := diffL_mem a b hl c h
  refine ⟨j, r, hc.at_, hc.old_len, hc.new_len hl, hc.pos, hc.hi, fun k x y hk hx hy e => hc.ne (j + k) (by omega) (by omega) ?_⟩
  rw [hc.old, List.getElem?_take, if_pos hk, List.getElem?_drop] at hx
  rw [hc.new, List.getElem?_take, if_pos hk, List.getElem?_drop] at hy
  rw [hx, hy, e]

set_option maxRecDepth 100000 in
set_option maxHeartbeats 2000000 in
theorem diffBack_walk (A B : Option Addr) (n m c d : Nat) (a b : Bytes) (w : World) (hna : a.length = n) (hnb : b.length = m) (hla : n ≤ 140737488351232) (hlb : m ≤ 140737488351232) (hca : n ≤ c) (hcb : m ≤ d) (hra : Rd w A a) (hrb : Rd w B b) :
    Calls Try.prog 3 #[.slice A n c, .slice B m d] w fun e w' => e = .returned (.bool true) ∧ Below w.heap.size w w' := by
  have hB0 := ((Below.refl w.heap.size w).alloc (Nat.le_refl _) (.cells #[bv 1, bv 2, bv 3] 5)).alloc (by simp) (.cells #[bv 1, bv 5, bv 6] 5)
  have r1 : Row ((w.alloc (.cells #[bv 1, bv 2, bv 3] 5)).alloc (.cells #[bv 1, bv 5, bv 6] 5)) 5 w.heap.size 3 [1, 2, 3] :=
    ⟨#[bv 1, bv 2, bv 3], (Below.heap_alloc _ _ _ (by simp)).trans (heap_alloc_new w _), by simp, by simp [maxLen], rfl, rfl⟩
  have r2 : Row ((w.alloc (.cells #[bv 1, bv 2, bv 3] 5)).alloc (.cells #[bv 1, bv 5, bv 6] 5)) 5 (w.heap.size + 1) 3 [1, 5, 6] :=
    ⟨#[bv 1, bv 5, bv 6], by have := heap_alloc_new (w.alloc (.cells #[bv 1, bv 2, bv 3] 5)) (.cells #[bv 1, bv 5, bv 6] 5); rwa [World.size_alloc] at this, by simp, by simp [maxLen], rfl, rfl⟩
  have hfact : diffL [1, 2, 3] [1, 5, 6] = [⟨1, [2, 3], [5, 6]⟩] := by rfl
  go_enter Try.func3, Try.ntmps3
  go_wp2_with fail
  refine (diff_ok _ _ 3 3 3 [1, 2, 3] [1, 5, 6] _ rfl rfl (by omega) (by omega) (by omega) r1.rd r2.rd).mono ?_
  rintro e w1 ⟨v1, rfl, hown1, hb1⟩
  have hB1 : Below w.heap.size w w1 := hB0.trans (hb1.mono hB0.size)
  rw [hfact] at hown1
  obtain ⟨A1, c1, rfl, hc1, hm1, hrd1⟩ := hown1.rd
  obtain ⟨g1, off1, go1, co1, gn1, cn1, rfl, hcc1⟩ := hrd1 0 (by simp)
  have hx0 := hcc1.at_
  have hx1 := hcc1.new
  simp only [Nat.zero_mul, Nat.add_zero, List.getElem_cons_zero, List.length_cons, List.length_nil, Nat.zero_add, Nat.reduceAdd] at hx0 hx1 hc1
  have hr1 := hra.below hB1
  have hr2 := hrb.below hB1
  clear hB0 r1 r2 hb1 hown1 hrd1 hcc1 hfact
  by_cases hlen : n = m
  · subst hlen
    by_cases h64 : n ≤ 6400
    · go_wp2_with fail
      refine (diff_ok A B n c d a b _ hna hnb h64 hca hcb hr1 hr2).mono ?_
      rintro e w2 ⟨v2, rfl, hown2, hb2⟩
      have hB2 : Below w.heap.size w w2 := hB1.trans (hb2.mono hB1.size)
      have hr3 := hra.below hB2
      have hr4 := hrb.below hB2
      have hlen : a.length = b.length := hna.trans hnb.symm
      obtain ⟨A3, c3, rfl, hc3, hm3, hrd3⟩ := hown2.rd
      have HR := Hidden.mk (diffL_round a b hlen)
      have HA : Hidden (∀ k x y, (diffL a b)[k]? = some x → (diffL a b)[k + 1]? = some y → x.at_ + (x.old.length : Int) < y.at_) := ⟨diffF_apart a b hlen a.length 0⟩
      have HF1 := Hidden.mk (apply_diffL a b hlen)
      have HF2 := Hidden.mk (apply_turnL a b hlen)
      have HL0 : Hidden (a = [] → diffL a b = []) := ⟨fun h => by rw [h]; rfl⟩
      have HLb : Hidden (b = [] → diffL a b = []) := ⟨fun h => by rw [h] at hlen; rw [List.eq_nil_of_length_eq_zero hlen]; rfl⟩
      have HLn : Hidden (∀ c ∈ diffL a b, c.old.length ≤ 6400 ∧ c.new.length ≤ 6400) := ⟨fun c hc => by
        obtain ⟨j, r, _, e2, e3, _, hhi, _⟩ := diffL_round a b hlen c hc
        omega⟩
      simp only [maxLen] at hm3
      generalize diffL a b = L at *
      clear hown2 hb2 hr1 hr2 hra hrb hx0 hx1 hc1 hm1 hlen
      go_wp2_with fail
      go_loopw [9] (fun kv wr => (∃ nq, wr = w2.drewN nq) ∧ ∃ i : Nat, i ≤ L.length ∧ kv = .int .i64 i) (fun kv _ => L.length - (intOf kv).toNat)
      case atStart => exact ⟨⟨0, rfl⟩, 0, Nat.zero_le _, rfl⟩
      case round =>
        obtain ⟨⟨nq, rfl⟩, i, hi, rfl⟩ := hrel
        by_cases hlt : i < L.length
        · obtain ⟨gl, offl, go, co, gn, cn, rfl, hcc⟩ := hrd3 i hlt
          obtain ⟨j, r, e1, e2, e3, hpos, hhi, hneq⟩ := HR.out L[i] (List.getElem_mem hlt)
          obtain ⟨f0, f1, f2, rowO, rowN⟩ := hcc
          have HN : Hidden (∀ k x y, k < r → L[i].old[k]? = some x → L[i].new[k]? = some y → x ≠ y) := ⟨hneq⟩
          have HP : Hidden (∀ k x, k + 1 = i → L[k]? = some x → x.at_ + (x.old.length : Int) < j) := ⟨fun k x hk hx => by
            have := HA.out k x L[i] hx (by rw [hk, List.getElem?_eq_getElem hlt])
            rwa [e1] at this⟩
          have hco := rowO.le.1
          have hcn := rowN.le.1
          rw [e1] at f0
          rw [e2] at f1 hco
          rw [e3] at f2 hcn
          have k0 : (0 : Int) ≤ i := by omega
          have k1 : (i : Int) < L.length := by omega
          have t0 : decide ((r : Int) < 1) = false := by simp; omega
          clear hneq
          by_cases hi0 : i = 0
          · have t1 : decide (0 < i) = false := by simp; omega
            clear hi0
            go_wp2_with fail
            go_quiet (fail)
            go_wp2_with fail
            go_loopw [10] (fun kv wr => (∃ nq, wr = w2.drewN nq) ∧ ∃ k : Nat, k ≤ r ∧ kv = .int .i64 k) (fun kv _ => r - (intOf kv).toNat)
            case atStart => exact ⟨⟨_, World.drewN_drewN _ _ _⟩, 0, Nat.zero_le _, rfl⟩
            case round =>
              obtain ⟨⟨nq2, rfl⟩, k, hk, rfl⟩ := hrel
              by_cases hkr : k < r
              · have x0 := rowO.cell k (by omega)
                have x1 := rowN.cell k (by omega)
                have hne := HN.out k L[i].old[k] L[i].new[k] hkr (List.getElem?_eq_getElem (by omega)) (List.getElem?_eq_getElem (by omega))
                have hbq : ((L[i].old[k].toNat : Int) == (L[i].new[k].toNat : Int)) = false := by rw [bv_beq]; simpa using hne
                have n0 : (0 : Int) ≤ k := by omega
                have n1 : (k : Int) < r := by omega
                generalize L[i].old[k] = ob at *
                generalize L[i].new[k] = nb at *
                clear hne
                go_wp2_with fail
                go_quiet (fail)
                go_wp2_with fail
                go_roundw
                case rel => exact ⟨⟨_, rfl⟩, k + 1, by omega, by go_num⟩
                case measure => simp [intOf]; omega
              · have hkr' : decide ((k : Int) < r) = false := by simp; omega
                go_wp2_with fail
                go_roundw
                case rel => exact ⟨⟨_, rfl⟩, i + 1, by omega, by go_num⟩
                case measure => simp [intOf]; omega
          · obtain ⟨i', hi'⟩ : ∃ i', i = i' + 1 := ⟨i - 1, by omega⟩
            have t1 : decide (0 < i) = true := by simp; omega
            have hlt' : i' < L.length := by omega
            obtain ⟨gl2, offl2, go2, co2, gn2, cn2, hA2, hcc2⟩ := hrd3 i' hlt'
            obtain rfl : gl = gl2 := by injection hA2 with h; injection h
            obtain rfl : offl = offl2 := by injection hA2 with h; injection h
            obtain ⟨j', r', e1', e2', e3', _, hhi', _⟩ := HR.out L[i'] (List.getElem_mem hlt')
            have hap := HP.out i' L[i'] hi'.symm (List.getElem?_eq_getElem hlt')
            rw [e1', e2'] at hap
            have q0 := hcc2.at_
            have q1 := hcc2.old
            rw [e1'] at q0
            rw [e2'] at q1
            have s1 : IntKind.i64.wrap ((i : Int) - 1) = (i' : Int) := by rw [IntWalk.i64_in _ (by omega)]; omega
            have s2 : IntKind.i64.wrap ((j' : Int) + r') = (j' : Int) + r' := IntWalk.i64_in _ (by omega)
            have m0 : (0 : Int) ≤ i' := by omega
            have m1 : (i' : Int) < L.length := by omega
            have t2 : decide ((j : Int) ≤ (j' : Int) + r') = false := by simp; omega
            clear hA2 hcc2 hi0 hap hi'
            go_wp2_with fail
            go_quiet (fail)
            go_wp2_with fail
            go_loopw [10] (fun kv wr => (∃ nq, wr = w2.drewN nq) ∧ ∃ k : Nat, k ≤ r ∧ kv = .int .i64 k) (fun kv _ => r - (intOf kv).toNat)
            case atStart => exact ⟨⟨_, World.drewN_drewN _ _ _⟩, 0, Nat.zero_le _, rfl⟩
            case round =>
              obtain ⟨⟨nq2, rfl⟩, k, hk, rfl⟩ := hrel
              by_cases hkr : k < r
              · have x0 := rowO.cell k (by omega)
                have x1 := rowN.cell k (by omega)
                have hne := HN.out k L[i].old[k] L[i].new[k] hkr (List.getElem?_eq_getElem (by omega)) (List.getElem?_eq_getElem (by omega))
                have hbq : ((L[i].old[k].toNat : Int) == (L[i].new[k].toNat : Int)) = false := by rw [bv_beq]; simpa using hne
                have n0 : (0 : Int) ≤ k := by omega
                have n1 : (k : Int) < r := by omega
                generalize L[i].old[k] = ob at *
                generalize L[i].new[k] = nb at *
                clear hne
                go_wp2_with fail
                go_quiet (fail)
                go_wp2_with fail
                go_roundw
                case rel => exact ⟨⟨_, rfl⟩, k + 1, by omega, by go_num⟩
                case measure => simp [intOf]; omega
              · have hkr' : decide ((k : Int) < r) = false := by simp; omega
                go_wp2_with fail
                go_roundw
                case rel => exact ⟨⟨_, rfl⟩, i + 1, by omega, by go_num⟩
                case measure => simp [intOf]; omega
        · by_cases h200 : 200 < L.length
          · go_wp2_with fail
            go_ret
            exact ⟨rfl, below_drewN hB2 _⟩
          · have h200' : decide ((200 : Int) < L.length) = false := by simp; omega
            have hB3 : Below w.heap.size w (w2.drewN nq) := below_drewN hB2 _
            have hr5 : Rd (w2.drewN nq) A a := hr3
            have hr6 : Rd (w2.drewN nq) B b := hr4
            have hrd4 : RdC (w2.drewN nq) A3 L := hrd3.below (below_drewN (Below.refl _ _) nq)
            clear hr3 hr4 hrd3 hB2 hB1
            generalize w2.drewN nq = w3 at *
            go_wp2_with fail
            refine (apply_fit A n c a A3 L.length c3 L _ b hna hla hr5 rfl (by omega) hc3 hrd4.rdg HL0.out HF1.out).mono ?_
            rintro e w4 ⟨A4, c4, rfl, _, hx4, hb4⟩
            have hB4 := hB3.trans (hb4.mono hB3.size)
            have hrd5 := hrd4.below hb4
            have ha4 := hr5.below hb4
            have hb4' := hr6.below hb4
            clear hB3 hr5 hr6 hrd4 hb4
            go_wp2_with fail
            refine (turn_any A3 L.length c3 L _ rfl (by omega) HLn.out hrd5).mono ?_
            rintro e w5 ⟨v5, rfl, hown5, hb5⟩
            obtain ⟨A5, c5, rfl, hc5, hm5, hrd6⟩ := hown5.rd
            have hTL := turnL_length L
            have hTn : Hidden (b = [] → turnL L = []) := ⟨fun h => by rw [HLb.out h]; rfl⟩
            have hB5 := hB4.trans (hb5.mono hB4.size)
            have ha5 := ha4.below hb5
            have hb5' := hb4'.below hb5
            have hx5 := hx4.below hb5
            have HF2' := HF2.out
            rw [hTL] at hc5 ⊢
            generalize turnL L = T at *
            have HTL := Hidden.mk hTL
            clear hB4 ha4 hb4' hx4 hrd5 hown5 hb5 hTL HF2
            go_wp2_with fail
            refine (apply_fit B n d b A5 L.length c5 T _ a hnb hlb hb5' HTL.out (by omega) hc5 hrd6.rdg hTn.out HF2').mono ?_
            rintro e w6 ⟨A6, c6, rfl, _, hy6, hb6⟩
            have hB6 := hB5.trans (hb6.mono hB5.size)
            have d1 := conv_text _ A4 n c4 b hnb (hx5.below hb6)
            have d2 := conv_text _ B n d b hnb (hb5'.below hb6)
            have d3 := conv_text _ A6 n c6 a hna hy6
            have d4 := conv_text _ A n c a hna (ha5.below hb6)
            clear hB5 ha5 hb5' hx5 hrd6 hb6 hy6
            go_wp2_with fail
            go_ret
            exact ⟨rfl, hB6⟩
    · have h64' : 6400 < n := by omega
      have t64 : decide ((6400 : Int) < (n : Int)) = true := by simp; omega
      go_wp2_with fail
      refine (diff_e4 A B n c d _ h64').mono ?_
      rintro e w2 ⟨rfl, rfl⟩
      go_wp2_with fail
      go_ret
      exact ⟨rfl, hB1⟩
  · have hne : ((n : Int) != (m : Int)) = true := by simp; omega
    go_wp2_with fail
    refine (diff_e3 A B n m c d _ hlen).mono ?_
    rintro e w2 ⟨rfl, rfl⟩
    go_wp2_with fail
    go_ret
    exact ⟨rfl, hB1⟩
end Go.Proofs.Ythaffnhapfakgaa
