/- CheckSame: the walk. -/
import Derived.Test.YtmahnlkbbpbeoaaSameLaw
import Derived.Test.YtmahnlkbbpbeoaaHeap1
import Derived.Test.YtmahnlkbbpbeoaaChk6
import Derived.Test.YtmahnlkbbpbeoaaRowSet
namespace Go.Proofs.Ytmahnlkbbpbeoaa
open Go.RowKit

theorem Row.belowW {w w' : World} {e g cap : Nat} {l : Bytes} (h : Row w e g cap l) (hb : Below w.heap.size w w') : Row w' e g cap l := h.below hb h.lt
structure Bel (w0 w : World) : Prop where
  out : Below w0.heap.size w0 w
theorem Bel.below {w0 w w' : World} (h : Bel w0 w) (hb : Below w.heap.size w w') : Bel w0 w' := ⟨h.out.trans (hb.mono h.out.size)⟩
theorem Row.below' {w w' : World} {e g cap : Nat} {l : Bytes} (h : Row w e g cap l) (hb : Below w.heap.size w w') : Row w' e g cap l := h.below hb h.lt
structure RowW (w : World) (e g cap : Nat) (l : Bytes) : Prop where
  row : Row w e g cap l
theorem RowW.below {w w' : World} {e g cap : Nat} {l : Bytes} (h : RowW w e g cap l) (hb : Below w.heap.size w w') : RowW w' e g cap l := ⟨h.row.belowW hb⟩
theorem ecells_len2 (x : Int × Bytes) : (ecells x).length = 4 := rfl
theorem zero_right : checkL (List.replicate 300 0) = [] := by kernel_rfl
set_option maxRecDepth 100000 in
set_option maxHeartbeats 1000000 in
theorem checkSame_walk (A : Option Addr) (n c : Nat) (l : Bytes) (at_ : Int) (to : UInt8) (w : World) (hln : l.length = n) (hl : n ≤ 140737488351232) (hrd : Rd w A l) :
    Calls Try.prog 3 #[.slice A n c, .int .i64 at_, bv to] w fun e w' => e = .returned (.bool true) ∧ Below w.heap.size w w' := by
  have B := Hidden.mk (Bel.mk (Below.refl w.heap.size w))
  have R := Hidden.mk hrd
  have HB := Hidden.mk (And.intro hln hl)
  clear hrd hln hl
  go_enter Try.func3, Try.ntmps3
  go_wp2_with fail
  refine (hnew_ok 300 _ (by decide)).mono ?_
  rintro e w_1 ⟨h, F, rfl, hp⟩
  have hb := hp.bel
  have hb_ := hb
  replace B := Hidden.mk (B.out.below hb_)
  replace R := Hidden.mk (R.out.below hb_)
  clear hb_
  have P := Hidden.mk hp
  clear hp hb
  go_wp2_with fail
  refine (hbytes_ok _ _ F h _ P.out).mono ?_
  rintro e w_2 ⟨g1, cap1, rfl, -, hrow, hb⟩
  replace B := Hidden.mk (B.out.below hb)
  replace R := Hidden.mk (R.out.below hb)
  replace P := Hidden.mk (P.out.below hb)
  clear hb
  have Z1 := Hidden.mk (RowW.mk hrow)
  clear hrow
  go_wp2_with fail
  refine (hbytes_ok _ _ F h _ P.out).mono ?_
  rintro e w_3 ⟨g2, cap2, rfl, -, hrow, hb⟩
  replace B := Hidden.mk (B.out.below hb)
  replace R := Hidden.mk (R.out.below hb)
  replace P := Hidden.mk (P.out.below hb)
  replace Z1 := Hidden.mk (Z1.out.below hb)
  clear hb
  have Z2 := Hidden.mk (RowW.mk hrow)
  clear hrow
  rw [List.length_replicate]
  go_wp2_with fail
  refine (same_ok _ _ 300 300 cap1 cap2 _ _ _ (by simp) (by simp) (by decide) (by decide) (by have := Z1.out.row.le.1; simpa using this) (by have := Z2.out.row.le.1; simpa using this) Z1.out.row.rd Z2.out.row.rd zero_right zero_right).mono ?_
  rintro e w_4 ⟨rfl, hb⟩
  replace B := Hidden.mk (B.out.below hb)
  replace R := Hidden.mk (R.out.below hb)
  replace P := Hidden.mk (P.out.below hb)
  replace Z1 := Hidden.mk (Z1.out.below hb)
  replace Z2 := Hidden.mk (Z2.out.below hb)
  clear hb
  clear Z1 Z2 P
  rw [sameB_refl]
  cases hr : rightB n with
  | false =>
    have HR := Hidden.mk hr
    clear hr
    go_wp2_with fail
    refine (mend_no A n c l _ HB.out.1 HB.out.2 HR.out R.out).mono ?_
    rintro e w_5 ⟨rfl, hb⟩
    replace B := Hidden.mk (B.out.below hb)
    replace R := Hidden.mk (R.out.below hb)
    clear hb
    have hnr : ¬ (288 ≤ n ∧ n ≤ 6400) := fun h => by have := HR.out; rw [rightB_true.2 (by omega)] at this; cases this
    by_cases h1 : n < 288
    · have t1 : decide (n < 288) = true := by simpa using h1
      have t1' : decide ((n : Int) < 288) = true := by simp; omega
      clear h1 hnr
      go_wp2_with fail
      go_ret
      exact ⟨rfl, B.out.out⟩
    · have t1 : decide (n < 288) = false := by simpa using h1
      have t1' : decide ((n : Int) < 288) = false := by simp; omega
      have t2 : decide (6400 < n) = true := by simp; omega
      have t2' : decide ((6400 : Int) < n) = true := by simp; omega
      clear h1 hnr
      go_wp2_with fail
      go_ret
      exact ⟨rfl, B.out.out⟩
  | true =>
    have HR := Hidden.mk hr
    have hnb := rightB_true.1 hr
    clear hr
    go_wp2_with fail
    refine (mend_yes A n c l _ HB.out.1 HR.out R.out).mono ?_
    rintro e w_6 ⟨g5, cap5, rfl, -, hc5, hrow, hb⟩
    replace B := Hidden.mk (B.out.below hb)
    replace R := Hidden.mk (R.out.below hb)
    clear hb
    clear R
    have HML : Hidden ((mendL l).length = n) := ⟨(mendL_len (by have := HB.out.1; omega)).trans HB.out.1⟩
    have HC : Hidden (checkL (mendL l) = []) := ⟨mend_clean (by have := HB.out.1; omega)⟩
    have M := Hidden.mk (RowW.mk hrow)
    clear hrow
    generalize mendL l = m at *
    go_wp2_with fail
    refine (same_ok _ _ n n cap5 cap5 m m _ HML.out HML.out HR.out HR.out hc5 hc5 M.out.row.rd M.out.row.rd HC.out HC.out).mono ?_
    rintro e w_7 ⟨rfl, hb⟩
    replace B := Hidden.mk (B.out.below hb)
    replace M := Hidden.mk (M.out.below hb)
    clear hb
    rw [sameB_refl]
    by_cases h1 : at_ < 288
    · have t1 : decide (at_ < 288) = true := by simpa using h1
      go_wp2_with fail
      go_ret
      exact ⟨rfl, B.out.out⟩
    · obtain ⟨k, rfl⟩ : ∃ k : Nat, at_ = (k : Int) := ⟨at_.toNat, by omega⟩
      have t1 : decide ((k : Int) < 288) = false := by simp; omega
      have t1' : decide (k < 288) = false := by simp; omega
      by_cases h2 : n ≤ k
      · have t2 : decide (n ≤ k) = true := by simpa using h2
        have t2' : decide ((n : Int) ≤ (k : Int)) = true := by simpa using h2
        go_wp2_with fail
        go_ret
        exact ⟨rfl, B.out.out⟩
      · have t2 : decide (n ≤ k) = false := by simpa using h2
        have hkm : k < m.length := by have := HML.out; omega
        have hcell := M.out.row.cell k hkm
        have HNE : Hidden (m.getD k 0 = m[k]) := ⟨by simp [hkm]⟩
        have HKM := Hidden.mk hkm
        generalize m[k] = x at *
        have i0 : (0 : Int) ≤ k := by omega
        have i1 : (k : Int) < n := by omega
        cases he : ((x.toNat : Int) == (to.toNat : Int)) with
        | true =>
          go_wp2_with fail
          go_ret
          exact ⟨rfl, B.out.out⟩
        | false =>
          have HX : Hidden (m.getD k 0 ≠ to) := ⟨fun e => by rw [HNE.out] at e; subst e; simp at he⟩
          have hnc : n ≤ 140737488351232 := by omega
          obtain ⟨ib, hi0, hz0, hz1, hz2⟩ := info_parts byte_info
          have hmc := M.out.row.rd.cells
          have HMC := Hidden.mk hmc
          clear hmc
          go_wp2_with (at_builtin; refine wpList_append_own _ rfl (.tmp 83) (.tmp 84) _ rfl (w_7).heap.size 5 ib _ 1 1 Try.underlying22 hi0 hz0 hz1 hz2 rfl (by decide) (.slice none 0 0) 0 [] rfl (World.ownsRow_nil _ _ _ _) ⟨g5, 0, none⟩ n cap5 (m.map bv) rfl (by have := HML.out; simp; omega) HMC.out one_bv (by simp only [maxLen]; omega) (by omega) (Nat.le_refl _) ?_; intro v1 w8 hown1 hg1 hnn1)
          have hb1 : Below (w_7).heap.size (w_7) w8 := (Below.refl _ _).grown hg1 (Nat.le_refl _) (fun k hk => by simp [Value.ownBlock] at hk)
          have hO : Own w8 (w_7).heap.size 5 v1 m := by unfold Own; rw [HML.out]; simpa using hown1
          have hne : v1 ≠ .slice none 0 0 := fun h => by
            subst h
            rcases hO.2 with ⟨_, h0⟩ | ⟨g, cap, cur, h, _⟩
            · have := HKM.out; omega
            · cases h
          obtain ⟨g6, cap6, hv, hbg, hrow6⟩ := Row.of_own hO hne
          rw [HML.out] at hv
          subst hv
          have hc6 := hrow6.le.1
          rw [HML.out] at hc6
          have hcell6 := hrow6.cell k HKM.out
          have hfr := hrow6.frozen k
          have hst := hrow6.store k HKM.out to
          have hbn := hb1.setCell (p := ⟨g6, k, none⟩) hbg (bv to)
          have hb_ := hbn
          replace B := Hidden.mk (B.out.below hb_)
          replace M := Hidden.mk (M.out.below hb_)
          clear hb_
          have C := Hidden.mk (RowW.mk hst)
          clear hst hb1 hO hown1 hg1 hnn1 hrow6 hne hbg hcell he hi0 hz0 hz1 hz2
          generalize m[k] = x9 at hcell6
          have ht : bv to = .int .u8 (to.toNat : Int) := rfl
          rw [ht] at B M C
          clear ht
          have i2 : k < n := by omega
          go_wp2_with fail
          go_simp
          go_wp2_with fail
          generalize w8.setCell ⟨g6, k, none⟩ (.int .u8 (to.toNat : Int)) = w9 at *
          clear hcell6 hfr
          obtain ⟨hsame, hcl⟩ := same_set m k to HKM.out (by omega) HX.out HC.out
          have HCL : Hidden ((m.set k to).length = n) := ⟨by simp [HML.out]⟩
          have HC2 := Hidden.mk hcl
          have HS := Hidden.mk hsame
          clear hsame hcl
          generalize m.set k to = m2 at *
          go_wp2_with fail
          refine (ientries_ok _ n cap5 m _ HML.out HR.out hc5 M.out.row.rd).mono ?_
          rintro e w_8 ⟨v, rfl, hown, hb⟩
          replace B := Hidden.mk (B.out.below hb)
          replace M := Hidden.mk (M.out.below hb)
          replace C := Hidden.mk (C.out.below hb)
          clear hb
          obtain ⟨Ae, ce, rfl, hce, -⟩ := own_split hown
          have hrx := own_rdX3 ecells_len2 rfl hown
          have hle : (entriesL m).length ≤ 40 := entsL_len _ _ _
          have E := Hidden.mk hrx
          clear hown hrx
          have HB0 : Hidden (∀ x ∈ entriesL m, rAt x.2 ≤ 70000 ∧ rLen x.2 ≤ 70000) := ⟨fun x hx => by have := rAt_le x.2; have := rLen_le x.2; omega⟩
          generalize entriesL m = L at *
          generalize hml : L.length = ml at *
          have HL := Hidden.mk hml
          clear hml
          go_wp2_with fail
          have H0 := Hidden.mk (And.intro B.out (And.intro M.out (And.intro C.out E.out)))
          clear B M C E
          go_loopg [18, 19] ml (fun q b i wr => ∃ j : Nat, j ≤ ml ∧ q = ml - j ∧ i = .int .i64 (j : Int) ∧ b = .bool ((L.take j).any (inE k)) ∧ Hidden (Bel w wr ∧ RowW wr 5 g5 cap5 m ∧ RowW wr 5 g6 cap6 m2 ∧ RdX ecells 4 wr Ae L))
          case atStart => exact ⟨0, by omega, rfl, rfl, by simp, H0⟩
          case round =>
            obtain ⟨j, hj, rfl, rfl, rfl, hst⟩ := hrel
            by_cases hlt : j < ml
            · have hjL : j < L.length := by have := HL.out; omega
              obtain ⟨p, off, hA, hcx⟩ := hst.out.2.2.2 j hjL
              subst hA
              have x1 := hcx 1 _ rfl
              have x2 := hcx 2 _ rfl
              have hts : L.take (j + 1) = L.take j ++ [L[j]] := List.take_succ_eq_append_getElem hjL
              have HAny : Hidden ((L.take (j + 1)).any (inE k) = ((L.take j).any (inE k) || inE k L[j])) := ⟨by rw [hts, List.any_append]; simp⟩
              have hb := HB0.out L[j] (List.getElem_mem hjL)
              have HIN : Hidden (inE k L[j] = (decide (rAt L[j].2 ≤ k) && decide (k < rAt L[j].2 + rLen L[j].2))) := ⟨rfl⟩
              have j1 : (j : Int) < ml := by omega
              have j0 : (0 : Int) ≤ j := by omega
              have s1 : IntKind.i64.wrap ((j : Int) + 1) = (j : Int) + 1 := IntWalk.i64_in _ (by omega)
              generalize inE k L[j] = bb at *
              generalize rAt L[j].2 = a1 at *
              generalize rLen L[j].2 = a2 at *
              generalize (L.take j).any (inE k) = b0 at *
              have s2 : IntKind.i64.wrap ((a1 : Int) + a2) = (a1 : Int) + a2 := IntWalk.i64_in _ (by omega)
              have HST : Hidden (∀ nq, Bel w (wr.drewN nq) ∧ RowW (wr.drewN nq) 5 g5 cap5 m ∧ RowW (wr.drewN nq) 5 g6 cap6 m2 ∧ RdX ecells 4 (wr.drewN nq) (some ⟨p, off, none⟩) L) := ⟨fun nq => by
                have hb := below_drewN (Below.refl wr.heap.size wr) nq
                exact ⟨hst.out.1.below hb, hst.out.2.1.below hb, hst.out.2.2.1.below hb, hst.out.2.2.2.below hb⟩⟩
              clear hcx hts hb hst
              cases b0 with
              | true =>
                have HV : Hidden ((L.take (j + 1)).any (inE k) = true) := ⟨by rw [HAny.out]; rfl⟩
                go_wp2_with fail
                go_quiet (fail)
                go_wp2_with fail
                go_roundg (ml - (j + 1))
                case measure => omega
                case rel => exact ⟨j + 1, by omega, rfl, by go_num, by rw [HV.out], ⟨HST.out _⟩⟩
              | false =>
                by_cases h1 : a1 ≤ k
                · have d1 : decide (a1 ≤ k) = true := by simpa using h1
                  by_cases h2 : k < a1 + a2
                  · have d2 : decide (k < a1 + a2) = true := by simpa using h2
                    have d2' : decide ((k : Int) < (a1 : Int) + a2) = true := by simp; omega
                    have HV : Hidden ((L.take (j + 1)).any (inE k) = true) := ⟨by rw [HAny.out, HIN.out, d1, d2]; rfl⟩
                    go_wp2_with fail
                    go_quiet (fail)
                    go_wp2_with fail
                    go_roundg (ml - (j + 1))
                    case measure => omega
                    case rel => exact ⟨j + 1, by omega, rfl, by go_num, by rw [HV.out], ⟨HST.out _⟩⟩
                  · have d2 : decide (k < a1 + a2) = false := by simpa using h2
                    have d2' : decide ((k : Int) < (a1 : Int) + a2) = false := by simp; omega
                    have HV : Hidden ((L.take (j + 1)).any (inE k) = false) := ⟨by rw [HAny.out, HIN.out, d1, d2]; rfl⟩
                    go_wp2_with fail
                    go_quiet (fail)
                    go_wp2_with fail
                    go_roundg (ml - (j + 1))
                    case measure => omega
                    case rel => exact ⟨j + 1, by omega, rfl, by go_num, by rw [HV.out], ⟨HST.out _⟩⟩
                · have d1 : decide (a1 ≤ k) = false := by simpa using h1
                  have HV : Hidden ((L.take (j + 1)).any (inE k) = false) := ⟨by rw [HAny.out, HIN.out, d1]; rfl⟩
                  go_wp2_with fail
                  go_quiet (fail)
                  go_wp2_with fail
                  go_roundg (ml - (j + 1))
                  case measure => omega
                  case rel => exact ⟨j + 1, by omega, rfl, by go_num, by rw [HV.out], ⟨HST.out _⟩⟩
            · obtain rfl : j = ml := by omega
              have hall : L.take j = L := List.take_of_length_le (by have := HL.out; omega)
              rw [hall] at *
              clear hall
              generalize hbb : L.any (inE k) = bb at *
              have HSB := Hidden.mk hbb
              have hb5 := hst.out.2.1
              clear hbb
              go_wp2_with fail
              refine (same_ok _ _ n n cap5 cap6 m m2 _ HML.out HCL.out HR.out HR.out hc5 hc6 hst.out.2.1.row.rd hst.out.2.2.1.row.rd HC.out HC2.out).mono ?_
              rintro e w10 ⟨rfl, hb⟩
              have HF := Hidden.mk (hst.out.1.below hb)
              have hs := HS.out
              clear hb
              rw [hs]
              clear hs
              cases bb
              all_goals
                go_wp2_with fail
                go_ret
                exact ⟨rfl, HF.out.out⟩
theorem checkSame_int (A : Option Addr) (n c : Nat) (l : Bytes) (at_ x : Int) (w : World) (hln : l.length = n) (hl : n ≤ 140737488351232) (hrd : Rd w A l) (h0 : 0 ≤ x) (h1 : x ≤ 255) :
    Calls Try.prog 3 #[.slice A n c, .int .i64 at_, .int .u8 x] w fun e w' => e = .returned (.bool true) ∧ Below w.heap.size w w' := by
  have e : Value.int IntKind.u8 x = bv (UInt8.ofNat x.toNat) := by
    unfold bv
    rw [UInt8.toNat_ofNat', Nat.mod_eq_of_lt (by omega), Int.toNat_of_nonneg h0]
  rw [e]
  exact checkSame_walk A n c l at_ _ w hln hl hrd
end Go.Proofs.Ytmahnlkbbpbeoaa
