/- Contracts and plain laws, put together: RefC3, RefI5, Root1, Told, Told2, Told3, Open3, ImageBack0, Same1, RootTells1. -/
import Derived.Test.YthlflklamgdkfaaDoorRootTellsFrameM3
import Derived.Test.YthlflklamgdkfaaDoorRootTellsFrameM2
import Derived.Deep.RegionHeld3
import Derived.Test.YthlflklamgdkfaaDoorRootTellsFrameM1
import Derived.LaidEql
import Derived.Stop.Asserts
import Derived.RowKitTokens
import Derived.Deep.Grids
import Derived.Deep.DeepCutAuto
import Derived.Deep.CutBlock
/- The reference's Fine and Mend; an image that is loaded. -/
namespace Go.Proofs.YthlflklamgdkfaaDoor
open Go.RowKit

def fineE (l : Bytes) : Nat := if rightB l.length = false then 3 else if checkL l = [] then 0 else 6
theorem refFine_no (A : Option Addr) (n c : Nat) (w : World) (hr : rightB n = false) :
    Calls Tryd.prog 20 #[.slice A n c] w fun e w' => e = .returned (.int .i64 3) ∧ w = w' := by
  go_enter Tryd.func20, Tryd.ntmps20
  go_wp2_with fail
  refine (ref_right_any _ _).mono ?_
  rintro e w1 ⟨rfl, rfl⟩
  rw [hr]
  go_wp2_with fail
  go_ret
  exact ⟨rfl, rfl⟩
theorem refFine_yes (A : Option Addr) (n c : Nat) (l : Bytes) (w : World) (hn : l.length = n) (hr : rightB n = true) (hnc : n ≤ c) (hrd : Rd w A l) :
    Calls Tryd.prog 20 #[.slice A n c] w fun e w' => e = .returned (.int .i64 (fineE l : Int)) ∧ Below w.heap.size w w' := by
  have HC := Hidden.mk (refCheck_ok A n c l w hn hr hnc hrd)
  have HF : Hidden (fineE l = if checkL l = [] then 0 else 6) := ⟨by unfold fineE; rw [hn, if_neg (by rw [hr]; decide)]⟩
  have h48 := checkL_len l
  generalize checkL l = F at *
  generalize fineE l = fe at *
  clear hn hrd
  go_enter Tryd.func20, Tryd.ntmps20
  go_wp2_with fail
  refine (ref_right_any _ _).mono ?_
  rintro e w1 ⟨rfl, rfl⟩
  rw [hr]
  go_wp2_with fail
  refine HC.out.mono ?_
  rintro e w1 ⟨v, rfl, hown, hb⟩
  obtain ⟨A1, c1, rfl, -, -⟩ := Src.of_own hown
  have HB := Hidden.mk hb
  clear hown hb HC
  by_cases h0 : F = []
  · have hfe : fe = 0 := by rw [HF.out, if_pos h0]
    subst hfe h0
    clear HF
    go_wp2_with fail
    go_ret
    exact ⟨rfl, HB.out⟩
  · have hfe : fe = 6 := by rw [HF.out, if_neg h0]
    have hl := List.length_pos_iff.2 h0
    have t1 : decide (0 < F.length) = true := by simpa using hl
    subst hfe
    clear HF h0 hl
    go_wp2_with fail
    go_ret
    exact ⟨rfl, HB.out⟩
set_option maxRecDepth 100000 in
theorem refMend_ok (p off n c : Nat) (l : Bytes) (w : World) (hn : l.length = n) (hr : rightB n = true) (hnc : n ≤ c) (hrd : Rd w (some ⟨p, off, none⟩) l) :
    Calls Tryd.prog 15 #[.slice (some ⟨p, off, none⟩) n c] w fun e w' => ∃ p' off' c', e = .returned (.slice (some ⟨p', off', none⟩) n c') ∧ n ≤ c' ∧ Rd w' (some ⟨p', off', none⟩) (mendL l) ∧ Below w.heap.size w w' := by
  have hnb := rightB_true.1 hr
  have HM : Hidden (mendL l = clearAll l (checkL l)) := ⟨rfl⟩
  have HID : Hidden (checkL l = [] → mendL l = l) := ⟨mend_id⟩
  have HCLEAN : Hidden (checkL (mendL l) = []) := ⟨mend_clean (by omega)⟩
  have HML : Hidden ((mendL l).length = n) := ⟨by rw [mendL_len (by omega), hn]⟩
  have HN := Hidden.mk hn
  have HIN : Hidden (∀ f ∈ checkL l, FltIn l.length f) := ⟨fun _ hf => flt_in (by omega) hf⟩
  have HRG : Hidden (∀ f ∈ checkL l, ((f.what = 4 ∨ f.what = 5) ∧ f.which < 8) ∨ (f.what ≠ 4 ∧ f.what ≠ 5 ∧ 1 ≤ f.which ∧ f.which ≤ 40)) := ⟨fun _ hf => flt_range hf⟩
  have HW3 : Hidden (∀ f ∈ checkL l, f.what ≤ 5) := ⟨fun f hf => by
    rcases mem_checkL.1 hf with ⟨k, _, hk, rfl⟩ | ⟨k, _, hk, rfl⟩
    · have := kindH_cases l.length (rawE l) k; dsimp only; omega
    · have := kindR_cases (leadsE l.length (rawE l)) (rawR l) k; dsimp only; omega⟩
  have hcl48 := checkL_len l
  have HRD := Hidden.mk hrd
  clear hn hrd
  go_enter Tryd.func15, Tryd.ntmps15
  go_wp2_with fail
  go_loopg [0] 2 (fun k b wr => ∃ (lb : Bytes) (p off c : Nat), b = .slice (some ⟨p, off, none⟩) n c ∧ n ≤ c ∧ Hidden (Below w.heap.size w wr ∧ Rd wr (some ⟨p, off, none⟩) lb ∧ ((k = 2 ∧ lb = l) ∨ (k = 1 ∧ lb = mendL l))))
  case atStart => exact ⟨l, p, off, c, rfl, hnc, ⟨Below.refl _ _, HRD.out, .inl ⟨rfl, rfl⟩⟩⟩
  case round =>
    obtain ⟨lb, p, off, c, rfl, hnc, hst⟩ := hrel
    have HLB : Hidden (lb.length = n) := ⟨by rcases hst.out.2.2 with ⟨_, rfl⟩ | ⟨_, rfl⟩; exact HN.out; exact HML.out⟩
    have HFIN : Hidden (checkL lb = [] → lb = mendL l) := ⟨fun h0 => by rcases hst.out.2.2 with ⟨_, rfl⟩ | ⟨_, rfl⟩; exact (HID.out h0).symm; rfl⟩
    have HFIRST : Hidden (checkL lb ≠ [] → gk = 2 ∧ lb = l) := ⟨fun h0 => by rcases hst.out.2.2 with h | ⟨_, rfl⟩; exact h; exact absurd HCLEAN.out h0⟩
    have HCK := Hidden.mk (refCheck_ok (some ⟨p, off, none⟩) n c lb wr HLB.out hr hnc hst.out.2.1)
    have HS0 := Hidden.mk (And.intro hst.out.1 hst.out.2.1)
    clear hst
    go_wp2_with fail
    refine HCK.out.mono ?_
    rintro e w2 ⟨v, rfl, hown, hb2⟩
    have HS2 := Hidden.mk (And.intro (HS0.out.1.trans (hb2.mono HS0.out.1.size)) (HS0.out.2.below hb2))
    obtain ⟨Af, cf, rfl, hcf, hrf⟩ := own_rdFs hown
    have HRF := Hidden.mk hrf
    obtain ⟨F, hFF⟩ : ∃ F, checkL lb = F := ⟨_, rfl⟩
    rw [hFF] at HRF hcf
    rw [hFF]
    have HFF := Hidden.mk hFF
    clear hFF hown hb2 hrf HS0 HCK
    by_cases hF : F = []
    · subst hF
      have hfin := HFIN.out HFF.out
      subst hfin
      have HR := HS2
      clear HS2
      go_wp2_with fail
      go_ret
      exact ⟨p, off, c, rfl, hnc, HR.out.2, HR.out.1⟩
    · have hfi := HFIRST.out (by rw [HFF.out]; exact hF)
      obtain ⟨rfl, rfl⟩ := hfi
      have hl48 : F.length ≤ 48 := by rw [← HFF.out]; exact hcl48
      have hne : 0 < F.length := List.length_pos_iff.2 hF
      have t1 : (F.length == 0) = false := by simp; omega
      have t1' : ((F.length : Int) == 0) = false := by simp; omega
      clear hF hcl48 hcf HFIN HFIRST
      go_wp2_with fail
      clear t1 t1'
      go_loopg [0, 4] F.length (fun q b i wr => ∃ (j p off c : Nat), j ≤ F.length ∧ q = F.length - j ∧ i = .int .i64 (j : Int) ∧ b = .slice (some ⟨p, off, none⟩) n c ∧ n ≤ c ∧ Hidden (Below w.heap.size w wr ∧ Below w2.heap.size w2 wr ∧ Rd wr (some ⟨p, off, none⟩) (clearAll lb (F.take j))))
      case atStart => exact ⟨0, p, off, c, by omega, rfl, rfl, rfl, hnc, ⟨HS2.out.1, Below.refl _ _, HS2.out.2⟩⟩
      case round =>
        obtain ⟨j, p, off, c, hj, rfl, rfl, rfl, hnc, hst⟩ := hrel
        by_cases hlt : j < F.length
        · obtain ⟨gf, of, rfl, c0, c1⟩ := (HRF.out.below hst.out.2.1) j hlt
          have HCL : Hidden (clearAll lb (F.take (j + 1)) = clearF (clearAll lb (F.take j)) F[j]) := ⟨clearAll_snoc lb F j hlt⟩
          have HLJ : Hidden ((clearAll lb (F.take j)).length = n) := ⟨by rw [clearAll_len _ _ (fun f hf => HIN.out f (by rw [HFF.out]; exact List.mem_of_mem_take hf)), HN.out]⟩
          have hrg := HRG.out F[j] (by rw [HFF.out]; exact List.getElem_mem hlt)
          have hw5 := HW3.out F[j] (by rw [HFF.out]; exact List.getElem_mem hlt)
          have i0 : (0 : Int) ≤ j := by omega
          have i1 : (j : Int) < F.length := by omega
          have s1 : IntKind.i64.wrap ((j : Int) + 1) = (j : Int) + 1 := IntWalk.i64_in _ (by omega)
          generalize F[j] = f at *
          obtain ⟨what, which⟩ := f
          dsimp only at *
          by_cases h4 : 3 < what
          · have hw8 : which < 8 := by omega
            have hEQ : clearF (clearAll lb (F.take j)) ⟨what, which⟩ = splice (clearAll lb (F.take j)) (200 + 11 * which) (List.replicate 11 0) := by
              have : what = 4 ∨ what = 5 := by omega
              simp [clearF, fltO, fltN, this]
            have d1 : decide (3 < what) = true := by simpa using h4
            have d2 : decide ((3 : Int) < (what : Int)) = true := by simp; omega
            have s2 : IntKind.i64.wrap (11 * (which : Int)) = 11 * (which : Int) := IntWalk.i64_in _ (by omega)
            have s3 : IntKind.i64.wrap (200 + 11 * (which : Int)) = ((200 + 11 * which : Nat) : Int) := by rw [IntWalk.i64_in _ (by omega)]; omega
            have HWP := Hidden.mk (refWipe_ok p off n c _ (200 + 11 * which) 11 wr HLJ.out (by omega) (by omega) (by omega) hst.out.2.2)
            rw [← hEQ, ← HCL.out] at HWP
            rw [show ((11 : Nat) : Int) = 11 from rfl] at HWP
            generalize 200 + 11 * which = oo at *
            clear hEQ h4 hrg hw5 HCL HLJ
            go_wp2_with fail
            refine HWP.out.mono ?_
            rintro e w4 ⟨g4, c4, rfl, hg4, hc4, hrow4, hb4⟩
            have HN2 := Hidden.mk (And.intro (hst.out.1.trans (hb4.mono hst.out.1.size)) (And.intro (hst.out.2.1.trans (hb4.mono hst.out.2.1.size)) hrow4.rd))
            clear hst hrow4 hb4 HWP c0 c1
            go_wp2_with fail
            go_roundg (F.length - (j + 1))
            case measure => omega
            case rel => exact ⟨j + 1, g4, 0, c4, by omega, rfl, by go_num, rfl, hc4, HN2⟩
          · obtain ⟨m, rfl⟩ : ∃ m, which = m + 1 := ⟨which - 1, by omega⟩
            have hw8 : m < 40 := by omega
            have hEQ : clearF (clearAll lb (F.take j)) ⟨what, m + 1⟩ = splice (clearAll lb (F.take j)) (5 * m) (List.replicate 5 0) := by
              have h1 : ¬ what = 4 := by omega
              have h2 : ¬ what = 5 := by omega
              simp [clearF, fltO, fltN, h1, h2]
            have d1 : decide (3 < what) = false := by simpa using h4
            have d2 : decide ((3 : Int) < (what : Int)) = false := by simp; omega
            have s2 : IntKind.i64.wrap (((m + 1 : Nat) : Int) - 1) = (m : Int) := by rw [IntWalk.i64_in _ (by omega)]; omega
            have s2' : IntKind.i64.wrap ((m : Int) + 1 - 1) = (m : Int) := by rw [IntWalk.i64_in _ (by omega)]; omega
            have s2'' : IntKind.i64.wrap (m : Int) = (m : Int) := IntWalk.i64_in _ (by omega)
            have s3 : IntKind.i64.wrap (5 * (m : Int)) = ((5 * m : Nat) : Int) := by rw [IntWalk.i64_in _ (by omega)]; omega
            have HWP := Hidden.mk (refWipe_ok p off n c _ (5 * m) 5 wr HLJ.out (by omega) (by omega) (by omega) hst.out.2.2)
            rw [← hEQ, ← HCL.out] at HWP
            rw [show ((5 : Nat) : Int) = 5 from rfl] at HWP
            generalize 5 * m = oo at *
            clear hEQ h4 hrg hw5 HCL HLJ
            go_wp2_with fail
            refine HWP.out.mono ?_
            rintro e w4 ⟨g4, c4, rfl, hg4, hc4, hrow4, hb4⟩
            have HN2 := Hidden.mk (And.intro (hst.out.1.trans (hb4.mono hst.out.1.size)) (And.intro (hst.out.2.1.trans (hb4.mono hst.out.2.1.size)) hrow4.rd))
            clear hst hrow4 hb4 HWP c0 c1
            go_wp2_with fail
            go_roundg (F.length - (j + 1))
            case measure => omega
            case rel => exact ⟨j + 1, g4, 0, c4, by omega, rfl, by go_num, rfl, hc4, HN2⟩
        · obtain rfl : j = F.length := by omega
          have hend : clearAll lb (F.take F.length) = mendL lb := by rw [List.take_of_length_le (Nat.le_refl _), HM.out, HFF.out]
          have HE := Hidden.mk (And.intro hst.out.1 (hend ▸ hst.out.2.2))
          have j1 : decide (((F.length : Nat) : Int) < F.length) = false := by simp
          clear hst hend
          go_wp2_with fail
          go_roundg 1
          case measure => omega
          case rel => exact ⟨_, p, off, c, rfl, hnc, ⟨HE.out.1, HE.out.2, .inr ⟨rfl, rfl⟩⟩⟩
/-- an image, mended ahead; of none an empty one -/
def loadL (b : Bytes) : Bytes := if rightB b.length = true then mendL b else List.replicate 320 0
theorem loadL_good (b : Bytes) : Good (loadL b) := by
  unfold loadL
  by_cases hr : rightB b.length = true
  · rw [if_pos hr]
    have := rightB_true.1 hr
    exact ⟨by rw [mendL_len (by omega)]; exact hr, mend_clean (by omega)⟩
  · rw [if_neg hr]; exact good_zero' rfl
set_option maxRecDepth 100000 in
theorem loaded_ok (A : Option Addr) (n c : Nat) (b : Bytes) (w : World) (hn : b.length = n) (hnc : n ≤ c) (hrd : Rd w A b) :
    Calls Tryd.prog 36 #[.slice A n c] w fun e w' => ∃ h F p off c', e = .returned (.tuple #[.pointer (some ⟨h, 0, none⟩), .slice (some ⟨p, off, none⟩) (loadL b).length c']) ∧ (loadL b).length ≤ c' ∧ Hp w w' F h (loadL b) ∧ Rd w' (some ⟨p, off, none⟩) (loadL b) ∧ ¬ F p := by
  have hG := loadL_good b
  have HG := Hidden.mk hG
  cases hr : rightB n with
  | true =>
    have hnb := rightB_true.1 hr
    obtain ⟨p, off, rfl, hpl⟩ := hrd.lt (by omega)
    have HM := Hidden.mk (refMend_ok p off n c b w hn hr hnc hrd)
    have hl : loadL b = mendL b := by unfold loadL; rw [hn, if_pos hr]
    have hln : (loadL b).length = n := by rw [hl, mendL_len (by omega)]; exact hn
    rw [← hl] at HM
    have HLN := Hidden.mk hln
    generalize loadL b = m at *
    clear hl hln hrd hn hG
    go_enter Tryd.func36, Tryd.ntmps36
    go_wp2_with fail
    refine (ref_right_any _ _).mono ?_
    rintro e w1 ⟨rfl, rfl⟩
    rw [hr]
    go_wp2_with fail
    refine HM.out.mono ?_
    rintro e w1 ⟨p1, o1, c1, rfl, hc1, hr1, hb1⟩
    have HL := Hidden.mk (hload_ok (some ⟨p1, o1, none⟩) n c1 m w w1 HLN.out HG.out hc1 hr1 hb1)
    have hp1 := hr1.lt (by rw [HLN.out]; omega)
    have HR := Hidden.mk hr1
    clear hr1 hb1 HM
    go_wp2_with fail
    refine HL.out.mono ?_
    rintro e w2 ⟨h, F, rfl, hp, hb2, hF⟩
    have HE : Hidden (Hp w w2 F h m ∧ Rd w2 (some ⟨p1, o1, none⟩) m ∧ ¬ F p1) := ⟨hp, HR.out.below hb2, fun hk => by
      obtain ⟨q, oq, hq, hlt⟩ := hp1
      have hq := Option.some.inj hq
      injection hq with hq
      have := hF _ hk
      omega⟩
    clear hp hb2 hF HL HR hp1
    go_wp2_with fail
    go_ret2
    exact ⟨h, F, p1, o1, c1, by rw [HLN.out]; rfl, by rw [HLN.out]; exact hc1, HE.out⟩
  | false =>
    have hl : loadL b = List.replicate 320 0 := by unfold loadL; rw [hn, if_neg (by rw [hr]; decide)]
    have hmk := mk_bytes 320 320 (by omega) (by omega) w
    have hrow := row_zeros w 320 (by simp only [maxLen]; omega)
    have hm0 : mendL (List.replicate 320 0) = List.replicate 320 0 := mend_id (good_zero' (n := 320) rfl).chk
    have HM := Hidden.mk (refMend_ok w.heap.size 0 320 320 (List.replicate 320 0) (w.alloc (.cells (zeroRow 320) 5)) (by simp) rfl (by omega) hrow.rd)
    rw [hm0] at HM
    have HAL := Hidden.mk ((Below.refl w.heap.size w).alloc (Nat.le_refl _) (.cells (zeroRow 320) 5))
    have hg0 := HG.out
    rw [hl] at hg0 ⊢
    have HG0 := Hidden.mk hg0
    have HLN : Hidden ((List.replicate 320 (0 : UInt8)).length = 320) := ⟨by simp⟩
    generalize List.replicate 320 (0 : UInt8) = m at *
    clear hl hrd hn hG HG hg0 hrow hm0
    go_enter Tryd.func36, Tryd.ntmps36
    go_wp2_with fail
    refine (ref_right_any _ _).mono ?_
    rintro e w1 ⟨rfl, rfl⟩
    rw [hr]
    go_wp2_with fail
    clear hmk
    refine HM.out.mono ?_
    rintro e w1 ⟨p1, o1, c1, rfl, hc1, hr1, hb1⟩
    have HL := Hidden.mk (hload_ok (some ⟨p1, o1, none⟩) 320 c1 m w w1 HLN.out HG0.out hc1 hr1 (HAL.out.trans (hb1.mono HAL.out.size)))
    have hp1 := hr1.lt (by rw [HLN.out]; omega)
    have HR := Hidden.mk hr1
    clear hr1 hb1 HM
    go_wp2_with fail
    refine HL.out.mono ?_
    rintro e w2 ⟨h, F, rfl, hp, hb2, hF⟩
    have HE : Hidden (Hp w w2 F h m ∧ Rd w2 (some ⟨p1, o1, none⟩) m ∧ ¬ F p1) := ⟨hp, HR.out.below hb2, fun hk => by
      obtain ⟨q, oq, hq, hlt⟩ := hp1
      have hq := Option.some.inj hq
      injection hq with hq
      have := hF _ hk
      omega⟩
    clear hp hb2 hF HL HR hp1
    go_wp2_with fail
    go_ret2
    exact ⟨h, F, p1, o1, c1, by rw [HLN.out]; rfl, by rw [HLN.out]; exact hc1, HE.out⟩
end Go.Proofs.YthlflklamgdkfaaDoor
/- The reference on images: PutRoot. -/
namespace Go.Proofs.YthlflklamgdkfaaDoor
open Go.RowKit

/-- the fault of a root that is put -/
def rootE (i : Int) (s : Bytes) (h : Int) : Nat := if i < 0 ∨ 8 ≤ i then 1 else if s = [] ∧ h = 0 then 0 else if handleB h = false then 1 else if isName s = false then 2 else 0
def rootF (l : Bytes) (i : Int) (s : Bytes) (h : Int) : Bytes := if rootE i s h = 0 then splice l (rootO i) (if s = [] ∧ h = 0 then List.replicate 11 0 else rootB s h) else []
theorem rootB_get (s : Bytes) (h : Int) (h8 : s.length ≤ 8) (q : Nat) : (rootB s h)[q]? = if q < s.length then s[q]? else if q < 10 then some 0 else if q = 10 then some (UInt8.ofNat h.toNat) else none := by
  unfold rootB nameB
  by_cases h1 : q < s.length
  · rw [if_pos h1, List.append_assoc, List.getElem?_append_left h1]
  · rw [if_neg h1, List.append_assoc, List.getElem?_append_right (by omega)]
    have he : ∀ r, r < 10 - s.length → ((List.replicate (8 - s.length) (0 : UInt8)) ++ [0, 0, UInt8.ofNat h.toNat])[r]? = some 0 := fun r hr => by
      by_cases h2 : r < 8 - s.length
      · rw [List.getElem?_append_left (by simpa using h2)]; simp [h2]
      · rw [List.getElem?_append_right (by simpa using h2), List.length_replicate]
        have : r - (8 - s.length) = 0 ∨ r - (8 - s.length) = 1 := by omega
        rcases this with h | h <;> rw [h] <;> rfl
    by_cases h2 : q < 10
    · rw [if_pos h2, he _ (by omega)]
    · rw [if_neg h2]
      by_cases h3 : q = 10
      · rw [if_pos h3, List.getElem?_append_right (by simp; omega), List.length_replicate, show q - s.length - (8 - s.length) = 2 by omega]; rfl
      · rw [if_neg h3, List.getElem?_append_right (by simp; omega), List.length_replicate]
        apply List.getElem?_eq_none
        simp; omega
theorem rootB_set (l s : Bytes) (o : Nat) (h : Int) (h8 : s.length ≤ 8) (ho : o + 11 ≤ l.length) : (splice (splice l o (List.replicate 11 0)) o s).set (o + 10) (UInt8.ofNat h.toNat) = splice l o (rootB s h) := by
  have hrl : (rootB s h).length = 11 := by unfold rootB nameB; simp; omega
  have hl1 : (splice l o (List.replicate 11 (0 : UInt8))).length = l.length := splice_len _ _ _ (by simpa using ho)
  have hl2 : (splice (splice l o (List.replicate 11 (0 : UInt8))) o s).length = l.length := by rw [splice_len _ _ _ (by rw [hl1]; omega)]; exact hl1
  apply List.ext_getElem?
  intro p
  rw [List.getElem?_set, hl2, splice_at _ _ _ _ (by rw [hl1]; omega), splice_at _ _ _ _ (by simpa using ho), splice_at _ _ _ _ (by rw [hrl]; exact ho), rootB_get s h h8, hrl, List.length_replicate]
  by_cases h1 : o ≤ p ∧ p < o + 11
  · simp only [if_pos h1]
    by_cases h2 : p - o < s.length
    · rw [if_pos h2, if_neg (by omega), if_pos (by omega)]
    · rw [if_neg h2]
      by_cases h3 : p - o < 10
      · rw [if_pos h3, if_neg (by omega), if_neg (by omega), List.getElem?_replicate, if_pos (by omega)]
      · rw [if_neg h3, if_pos (by omega), if_pos (by omega), if_pos (by omega)]
  · simp only [if_neg h1]
    rw [if_neg (by omega), if_neg (by omega)]
theorem two_cells {w w' : World} {a b : Value} {t : TypeId} (hb : Below (w.alloc (.cells #[a, b] t)).heap.size (w.alloc (.cells #[a, b] t)) w') : w'.cell? ⟨w.heap.size, 0, none⟩ = some a ∧ w'.cell? ⟨w.heap.size, 1, none⟩ = some b := by
  have h := (hb.block w.heap.size (by simp)).trans (heap_alloc_new w (.cells #[a, b] t))
  refine ⟨?_, ?_⟩ <;> simp [World.cell?, h]
/-- the program's PutRoot, told likewise -/
theorem iroot_ans (A : Option Addr) (n c : Nat) (l : Bytes) (i : Int) (s : Bytes) (h : Int) (w : World) (hs : s.length ≤ 140737488351232) (hln : l.length = n) (hnc : n ≤ c) (hr : rightB n = true) (hrd : Rd w A l) :
    Calls Tryd.prog 156 #[.slice A n c, .int .i64 i, rootV s h] w fun e w' => RowAns w w' e (rootF l i s h) (errV (rootE i s h)) := by
  have hnb := rightB_true.1 hr
  have hlen : ∀ X : Bytes, X.length = 11 → 0 ≤ i → i < 8 → (splice l (rootO i) X).length = n := fun X hX h1 h2 => by
    rw [splice_len _ _ _ (by unfold rootO; omega)]; exact hln
  unfold rootF
  by_cases hi : i < 0 ∨ 8 ≤ i
  · have hE : rootE i s h = 1 := by unfold rootE; rw [if_pos hi]
    rw [hE]
    exact (root_e1 A n c i s h w hr hi).mono fun e w' ⟨he, hb⟩ => ⟨none, 0, he, Rd.nil_, hb⟩
  by_cases h0 : s = [] ∧ h = 0
  · have hE : rootE i s h = 0 := by unfold rootE; rw [if_neg hi, if_pos h0]
    rw [hE, if_pos rfl, if_pos h0]
    obtain ⟨rfl, rfl⟩ := h0
    refine (root_zero A n c l i w hln hnc hrd hr (by omega) (by omega)).mono ?_
    rintro e w' ⟨g, cap, rfl, hg, hrow, hb⟩
    exact ⟨some ⟨g, 0, none⟩, cap, by rw [hlen _ (by simp) (by omega) (by omega)]; rfl, hrow.rd, hb⟩
  cases hh : handleB h with
  | false =>
    have hE : rootE i s h = 1 := by unfold rootE; rw [if_neg hi, if_neg h0, if_pos hh]
    rw [hE]
    exact (root_e1h A n c i s h w hr (by omega) (by omega) h0 hh).mono fun e w' ⟨he, hb⟩ => ⟨none, 0, he, Rd.nil_, hb⟩
  | true =>
    cases hnm : isName s with
    | false =>
      have hE : rootE i s h = 2 := by unfold rootE; rw [if_neg hi, if_neg h0, if_neg (by simp [hh]), if_pos hnm]
      rw [hE]
      exact (root_e2 A n c i s h w hs hr (by omega) (by omega) hh hnm).mono fun e w' ⟨he, hb⟩ => ⟨none, 0, he, Rd.nil_, hb⟩
    | true =>
      have hE : rootE i s h = 0 := by unfold rootE; rw [if_neg hi, if_neg h0, if_neg (by simp [hh]), if_neg (by simp [hnm])]
      rw [hE, if_pos rfl, if_neg h0]
      refine (root_ok A n c l i s h w hln hrd hr (by omega) (by omega) hh hnm).mono ?_
      rintro e w' ⟨g, cap, rfl, hg, hrow, hb⟩
      have hl11 : (rootB s h).length = 11 := by have := nameB_len s hnm; unfold rootB; simp; omega
      exact ⟨some ⟨g, 0, none⟩, cap, by rw [hlen _ hl11 (by omega) (by omega)]; rfl, hrow.rd, hb⟩
end Go.Proofs.YthlflklamgdkfaaDoor
/- Names that lead: root.Get; the reference's Lead and Object. -/
namespace Go.Proofs.YthlflklamgdkfaaDoor
open Go.RowKit

/-- where a name leads first; 0: nowhere -/
def leadR (L : List (Bytes × Nat)) (s : Bytes) : Nat := match L.find? (fun r => r.1 == s) with
  | none => 0
  | some r => r.2
theorem leadR_none {L : List (Bytes × Nat)} {s : Bytes} (h : ∀ x ∈ L, (x.1 == s) = false) : leadR L s = 0 := by
  unfold leadR
  rw [List.find?_eq_none.2 (fun x hx => by rw [h x hx]; decide)]
theorem leadR_at {L : List (Bytes × Nat)} {s : Bytes} (k : Nat) (hk : k < L.length) (h : (L[k].1 == s) = true) (hn : ∀ j (hj : j < k), (L[j].1 == s) = false) : leadR L s = L[k].2 := by
  unfold leadR
  rw [(List.find?_eq_some_iff_getElem (p := fun r : Bytes × Nat => r.1 == s)).2 ⟨h, k, hk, rfl, fun j hj => by rw [hn j hj]; rfl⟩]
theorem good_roots {l : Bytes} (hg : Good l) {r : Bytes × Nat} (h : r ∈ rootsL l) : 1 ≤ r.2 ∧ r.2 ≤ 40 ∧ hE l r.2 = 0 := by
  unfold rootsL rootsF at h
  simp only [List.mem_map, List.mem_filter, List.mem_range, Bool.not_eq_true'] at h
  obtain ⟨i, ⟨hi, hz⟩, rfl⟩ := h
  have hb := badR_lead (hg.s.root i hi hz)
  obtain ⟨k, hk, hh, hx⟩ := leadsS_iff.1 hb
  have he := (hE_has hk hh).1
  simp only [rootP]
  rw [hx]
  exact ⟨by omega, by omega, by simpa using he⟩
def getRE (l s : Bytes) (tag : Int) : Nat := if isName s = false then 2 else if tag < -1 ∨ 15 < tag then 1 else if leadR (rootsL l) s = 0 then 5 else if 0 ≤ tag ∧ gT l (leadR (rootsL l) s) ≠ tag then 8 else 0
def getRH (l s : Bytes) (tag : Int) : Nat := if getRE l s tag = 0 then leadR (rootsL l) s else 0
section
variable {w0 w : World} {F : Nat → Prop} {h : Nat} {l : Bytes}
set_option maxRecDepth 100000 in
theorem rget_any (s : Bytes) (tag : Int) (hp : Hp w0 w F h l) (hg : Good l) (hs : s.length ≤ 140737488351232) :
    Calls Tryd.prog 40 #[.pointer (some ⟨h, 0, none⟩), sv s, .int .i64 tag] w fun e w' => e = .returned (.tuple #[.int .i64 (getRH l s tag : Int), errV (getRE l s tag)]) ∧ Below w.heap.size w w' := by
  have HAL := Hidden.mk ((Below.refl w.heap.size w).alloc (Nat.le_refl _) (.cells #[sv s] 9))
  have HBX := Hidden.mk (heap_alloc_new w (.cells #[sv s] 9))
  have HP := Hidden.mk hp
  have HE : Hidden (getRE l s tag = if isName s = false then 2 else if tag < -1 ∨ 15 < tag then 1 else if leadR (rootsL l) s = 0 then 5 else if 0 ≤ tag ∧ gT l (leadR (rootsL l) s) ≠ tag then 8 else 0) := ⟨rfl⟩
  have HH : Hidden (getRH l s tag = if getRE l s tag = 0 then leadR (rootsL l) s else 0) := ⟨rfl⟩
  have hbx0 : (w.alloc (.cells #[sv s] 9)).cell? ⟨w.heap.size, 0, none⟩ = some (sv s) := by simp only [World.cell?]; rw [HBX.out]; rfl
  clear hp
  cases hn : isName s with
  | false =>
    have he : getRE l s tag = 2 := by rw [HE.out, if_pos hn]
    have hh : getRH l s tag = 0 := by rw [HH.out, he]; rfl
    rw [he, hh]
    have HC := Hidden.mk (putName_no s (w.alloc (.cells #[sv s] 9)) hs hn)
    clear HE HH he hh hn hg
    go_enter Tryd.func40, Tryd.ntmps40
    go_wp2_with fail
    generalize w.alloc (.cells #[sv s] 9) = w1 at *
    refine HC.out.mono ?_
    rintro e w2 ⟨rfl, hb2⟩
    have HB := Hidden.mk (HAL.out.trans (hb2.mono HAL.out.size))
    clear hb2 HC hbx0
    go_wp2_with fail
    go_ret2
    exact ⟨rfl, HB.out⟩
  | true =>
    have HC := Hidden.mk (putName_ok s (w.alloc (.cells #[sv s] 9)) hn)
    have HE := Hidden.mk (show getRE l s tag = if tag < -1 ∨ 15 < tag then 1 else if leadR (rootsL l) s = 0 then 5 else if 0 ≤ tag ∧ gT l (leadR (rootsL l) s) ≠ tag then 8 else 0 by rw [HE.out, if_neg (by rw [hn]; decide)])
    have HGR : Hidden (∀ r ∈ rootsL l, 1 ≤ r.2 ∧ r.2 ≤ 40 ∧ hE l r.2 = 0) := ⟨fun r hr => good_roots hg hr⟩
    have HRT : Hidden (∀ W, Hp w0 W F h l → Calls Tryd.prog 107 #[.pointer (some ⟨h, 0, none⟩)] W fun e w' => ∃ v, e = .returned v ∧ w'.ownsRow W.heap.size 76 2 v (rootsL l).length ((rootsL l).flatMap rcells) ∧ Below W.heap.size W w') := ⟨fun W hW => hroots_any hW⟩
    have HRL : Hidden ((rootsL l).length ≤ 8) := ⟨rootsF_len _ _⟩
    generalize getRE l s tag = ge at *
    generalize getRH l s tag = gh at *
    generalize rootsL l = RL at *
    clear hn hg hs
    go_enter Tryd.func40, Tryd.ntmps40
    go_wp2_with fail
    generalize w.alloc (.cells #[sv s] 9) = w1 at *
    refine HC.out.mono ?_
    rintro e w2 ⟨gn, rfl, -, -, hb2⟩
    have HB2 := Hidden.mk (HAL.out.trans (hb2.mono HAL.out.size))
    have HBX2 := Hidden.mk ((hb2.block _ (Array.getElem?_eq_some_iff.1 HBX.out).1).trans HBX.out)
    clear hb2 HC hbx0 HBX HAL
    by_cases t1 : tag < -1
    · have he : ge = 1 := by rw [HE.out, if_pos (.inl t1)]
      have hh : gh = 0 := by rw [HH.out, he]; rfl
      have d1 : decide (tag < -1) = true := by simpa using t1
      subst he hh
      clear HE HH t1
      go_wp2_with fail
      go_ret2
      exact ⟨rfl, HB2.out⟩
    by_cases t2 : 15 < tag
    · have he : ge = 1 := by rw [HE.out, if_pos (.inr t2)]
      have hh : gh = 0 := by rw [HH.out, he]; rfl
      have d1 : decide (tag < -1) = false := by simpa using t1
      have d2 : decide (15 < tag) = true := by simpa using t2
      subst he hh
      clear HE HH t1 t2
      go_wp2_with fail
      go_ret2
      exact ⟨rfl, HB2.out⟩
    have d1 : decide (tag < -1) = false := by simpa using t1
    have d2 : decide (15 < tag) = false := by simpa using t2
    have HE := Hidden.mk (show ge = if leadR RL s = 0 then 5 else if 0 ≤ tag ∧ gT l (leadR RL s) ≠ tag then 8 else 0 by rw [HE.out, if_neg (by omega)])
    clear t1 t2
    go_wp2_with fail
    clear d1 d2
    refine (HRT.out _ (HP.out.below HB2.out)).mono ?_
    rintro e w3 ⟨v, rfl, hown, hb3⟩
    have HB3 := Hidden.mk (HB2.out.trans (hb3.mono HB2.out.size))
    have HBX3 := Hidden.mk ((hb3.block _ (Array.getElem?_eq_some_iff.1 HBX2.out).1).trans HBX2.out)
    obtain ⟨A3, c3, rfl, hc3, -⟩ := own_split hown
    have HRX := Hidden.mk (own_rdX3 (f := rcells) (fun _ => rfl) rfl hown)
    have HCF := Hidden.mk (idxR_get (fun r => r.1 == s) A3 RL.length c3 RL (.pointer (some ⟨w.heap.size, 0, none⟩)) w3 rfl (by have := HRL.out; omega) HRX.out
      (fun y _ W hW => root1_get y s w.heap.size W (by have := (hW.block _ (Array.getElem?_eq_some_iff.1 HBX3.out).1).trans HBX3.out; simp [World.cell?, this])))
    clear hown hb3 HRT HBX2 HB2
    go_wp2_with fail
    refine HCF.out.mono ?_
    rintro e w4 ⟨rfl, hb4⟩
    have HB4 := Hidden.mk (HB3.out.trans (hb4.mono HB3.out.size))
    have HRX4 := Hidden.mk (HRX.out.below hb4)
    clear hb4 HCF HRX HB3 HBX3
    by_cases ha : RL.any (fun r => r.1 == s) = true
    · obtain ⟨k, hk, e1, e2, e3⟩ := ixP_lt (fun r : Bytes × Nat => r.1 == s) RL ha
      have hl := leadR_at k hk e2 e3
      have hgr := HGR.out RL[k] (List.getElem_mem hk)
      rw [e1]
      obtain ⟨pp, off, rfl, hcx⟩ := HRX4.out k hk
      have x1 := hcx 1 _ rfl
      have plt : pp < w4.heap.size := block_lt_of_cell x1
      have HT := Hidden.mk (htag_any (RL[k].2 : Int) (HP.out.below HB4.out))
      rw [hgr.2.2, show errV 0 = Value.nilIface from rfl] at HT
      rw [hl] at HE HH
      generalize RL[k].2 = hd at *
      generalize gT l (hd : Int) = gt at *
      have HE := Hidden.mk (show ge = if 0 ≤ tag ∧ gt ≠ tag then 8 else 0 by rw [HE.out, if_neg (by omega)])
      have i0 : decide ((k : Int) < 0) = false := by simp
      have i1 : (0 : Int) ≤ k := by omega
      have i2 : (k : Int) < RL.length := by omega
      have HX1 : Hidden (∀ W, Below w4.heap.size w4 W → W.cell? ⟨pp, off + k * 2 + 1, none⟩ = some (.int .i64 hd)) := ⟨fun W hW => (hW.cell (p := ⟨pp, off + k * 2 + 1, none⟩) plt).trans x1⟩
      clear hcx e1 e2 e3 ha hl hgr HRX4 HGR plt HRL
      go_wp2_with fail
      refine HT.out.mono ?_
      rintro e w5 ⟨rfl, hb5⟩
      have x5 := HX1.out w5 hb5
      have HB5 := Hidden.mk (HB4.out.trans (hb5.mono HB4.out.size))
      clear hb5 HT x1
      by_cases t1 : 0 ≤ tag
      · have d1 : decide (0 ≤ tag) = true := by simpa using t1
        by_cases t2 : gt = tag
        · have he : ge = 0 := by rw [HE.out, if_neg (by omega)]
          have hh : gh = hd := by rw [HH.out, he]; rfl
          have d2 : (gt == tag) = true := by simpa using t2
          have d3 : (gt != tag) = false := by simpa using t2
          subst he hh
          clear HE HH t1 t2 HX1
          go_wp2_with fail
          go_ret2
          exact ⟨rfl, HB5.out⟩
        · have he : ge = 8 := by rw [HE.out, if_pos ⟨t1, t2⟩]
          have hh : gh = 0 := by rw [HH.out, he]; rfl
          have d2 : (gt == tag) = false := by simpa using t2
          have d3 : (gt != tag) = true := by simpa using t2
          subst he hh
          clear HE HH t1 t2 HX1
          go_wp2_with fail
          go_ret2
          exact ⟨rfl, HB5.out⟩
      · have d1 : decide (0 ≤ tag) = false := by simpa using t1
        have he : ge = 0 := by rw [HE.out, if_neg (fun h => t1 h.1)]
        have hh : gh = hd := by rw [HH.out, he]; rfl
        subst he hh
        clear HE HH t1 HX1
        go_wp2_with fail
        go_ret2
        exact ⟨rfl, HB5.out⟩
    · have ha' : ∀ x ∈ RL, (x.1 == s) = false := by
        rw [Bool.not_eq_true, List.any_eq_false] at ha
        intro x hx
        simpa using ha x hx
      rw [ixP_none _ _ ha']
      have hl := leadR_none ha'
      have he : ge = 5 := by rw [HE.out, if_pos hl]
      have hh : gh = 0 := by rw [HH.out, he]; rfl
      subst he hh
      clear HE HH ha ha' hl HRX4
      go_wp2_with fail
      go_ret2
      exact ⟨rfl, HB4.out⟩
theorem rall_any (hp : Hp w0 w F h l) :
    Calls Tryd.prog 42 #[.pointer (some ⟨h, 0, none⟩)] w fun e w' => ∃ v, e = .returned v ∧ w'.ownsRow w.heap.size 76 2 v (rootsL l).length ((rootsL l).flatMap rcells) ∧ Below w.heap.size w w' := by
  have HC := Hidden.mk (hroots_any hp)
  clear hp
  go_enter Tryd.func42, Tryd.ntmps42
  go_wp2_with fail
  refine HC.out.mono ?_
  rintro e w1 ⟨v, rfl, hown, hb1⟩
  have HB := Hidden.mk (And.intro hown hb1)
  clear hb1 hown HC
  go_wp2_with fail
  go_ret
  exact ⟨v, rfl, HB.out⟩
end
set_option maxRecDepth 100000 in
theorem refLead_ok (p off n c : Nat) (l s : Bytes) (w : World) (hn : l.length = n) (hr : rightB n = true) (hnc : n ≤ c) (hrd : Rd w (some ⟨p, off, none⟩) l) :
    Calls Tryd.prog 38 #[.slice (some ⟨p, off, none⟩) n c, sv s] w fun e w' => e = .returned (.int .i64 (leadR (rootsL l) s : Int)) ∧ Below w.heap.size w w' := by
  have HC := Hidden.mk (refRoots_ok p off n c l w hn hr hnc hrd)
  have hle : (rootsL l).length ≤ 8 := rootsF_len _ _
  generalize rootsL l = L at *
  clear hn hrd
  go_enter Tryd.func38, Tryd.ntmps38
  go_wp2_with fail
  refine HC.out.mono ?_
  rintro e w1 ⟨v, rfl, hown, hb1⟩
  obtain ⟨A3, c3, rfl, hc3, -⟩ := own_split hown
  have HRX := Hidden.mk (own_rdX3 (f := rcells) (fun _ => rfl) rfl hown)
  have HB := Hidden.mk hb1
  clear hown hb1 HC
  go_wp2_with fail
  go_loopg [6] L.length (fun q i wr => ∃ j : Nat, j ≤ L.length ∧ q = L.length - j ∧ i = .int .i64 (j : Int) ∧ w1 = wr ∧ Hidden (∀ x ∈ L.take j, (x.1 == s) = false))
  case atStart => exact ⟨0, by omega, rfl, rfl, rfl, ⟨by simp⟩⟩
  case round =>
    obtain ⟨j, hj, rfl, rfl, rfl, hno⟩ := hrel
    by_cases hlt : j < L.length
    · obtain ⟨pp, oo, rfl, hcx⟩ := HRX.out j hlt
      have x0 := hcx 0 _ rfl
      have x1 := hcx 1 _ rfl
      rw [Nat.add_zero] at x0
      have k0 : (0 : Int) ≤ j := by omega
      have k1 : (j : Int) < L.length := by omega
      have s1 : IntKind.i64.wrap ((j : Int) + 1) = (j : Int) + 1 := IntWalk.i64_in _ (by omega)
      have HAT : Hidden ((L[j].1 == s) = true → leadR L s = L[j].2) := ⟨fun h => leadR_at j hlt h (fun i hi => hno.out L[i] (List.mem_take_iff_getElem.2 ⟨i, by omega, rfl⟩))⟩
      have HNX : Hidden ((L[j].1 == s) = false → ∀ x ∈ L.take (j + 1), (x.1 == s) = false) := ⟨fun h => forall_take_succ' (p := fun x => x.1 == s) hlt hno.out h⟩
      generalize L[j] = x at *
      obtain ⟨xs, xh⟩ := x
      dsimp only at *
      clear hcx hno
      cases he : (xs == s) with
      | true =>
        have HV := Hidden.mk (HAT.out he)
        clear HAT HNX
        go_wp2_with fail
        go_ret
        exact ⟨by rw [HV.out]; rfl, HB.out⟩
      | false =>
        have HV := Hidden.mk (HNX.out he)
        clear HAT HNX
        go_wp2_with fail
        go_roundg (L.length - (j + 1))
        case measure => omega
        case rel => exact ⟨j + 1, by omega, rfl, by go_num, rfl, HV⟩
    · obtain rfl : j = L.length := by omega
      have hv := leadR_none (L := L) (s := s) (by have := hno.out; rwa [List.take_of_length_le (Nat.le_refl _)] at this)
      have HV := Hidden.mk hv
      clear hv hno
      go_wp2_with fail
      go_ret
      exact ⟨by rw [HV.out]; rfl, HB.out⟩
/-- an object's tag, and its bytes, as the reference tells them -/
def objT (l : Bytes) (k : Nat) : Int := if hasE (rawE l k) = true then rTag (rawE l k) else -1
def objS (l : Bytes) (k : Nat) : Bytes := if hasE (rawE l k) = true then (l.drop (rAt (rawE l k))).take (rLen (rawE l k)) else []
set_option maxRecDepth 100000 in
theorem refObj_ok (p off n c : Nat) (l : Bytes) (k : Nat) (w : World) (hn : l.length = n) (hg : Good l) (hnc : n ≤ c) (hrd : Rd w (some ⟨p, off, none⟩) l) (hk : k < 40) :
    Calls Tryd.prog 39 #[.slice (some ⟨p, off, none⟩) n c, .int .i64 ((k : Int) + 1)] w fun e w' => e = .returned (.tuple #[.int .i64 (objT l k), sv (objS l k)]) ∧ Below w.heap.size w w' := by
  have hb := hg.bd
  have HC := Hidden.mk (refEntry_ok (some ⟨p, off, none⟩) n c l k w hn (by omega) hnc hrd hk)
  unfold entR entV at HC
  unfold objT objS
  cases hh : hasE (rawE l k) with
  | false =>
    rw [hh] at HC
    simp only [Bool.false_eq_true, if_false]
    generalize (rAt (rawE l k) : Int) = a1 at *
    generalize (rLen (rawE l k) : Int) = a2 at *
    generalize rTag (rawE l k) = a3 at *
    clear hn hg hrd hh
    go_enter Tryd.func39, Tryd.ntmps39
    go_wp2_with fail
    refine HC.out.mono ?_
    rintro e w1 ⟨rfl, hb1⟩
    have HB := Hidden.mk (hb1.alloc hb1.size (.cells #[.int .i64 ((k : Int) + 1), .int .i64 a1, .int .i64 a2, .int .i64 a3] 137))
    clear hb1 HC
    go_wp2_with fail
    go_ret2
    exact ⟨rfl, HB.out⟩
  | true =>
    rw [hh] at HC
    simp only [if_true]
    have hin := strayE_false (hg.s.fit k hk hh)
    have hcut := hrd.cut (rAt (rawE l k)) (rLen (rawE l k)) (by omega)
    rw [Option.map_some, Addr.add_lit] at hcut
    have hcl : ((l.drop (rAt (rawE l k))).take (rLen (rawE l k))).length = rLen (rawE l k) := by simp; omega
    generalize (l.drop (rAt (rawE l k))).take (rLen (rawE l k)) = body at *
    generalize rAt (rawE l k) = a1 at *
    generalize rLen (rawE l k) = a2 at *
    generalize rTag (rawE l k) = a3 at *
    have s1 : IntKind.i64.wrap ((a1 : Int) + a2) = (a1 : Int) + a2 := IntWalk.i64_in _ (by omega)
    have hsl := run_cut p off n c a1 (a1 + a2) (by omega) (by omega) (by omega)
    rw [Nat.add_sub_cancel_left] at hsl
    simp only [Int.natCast_add] at hsl
    have HCV : Hidden (∀ W, Below w.heap.size w W → (convert 22 9 (.slice (some ⟨p, off + a1, none⟩) a2 (c - a1))).run Tryd.prog W = .ok (sv body) W) := ⟨fun W hW => conv_text W _ a2 _ body hcl (hcut.below hW)⟩
    clear hn hg hrd hh hin hcut hcl
    go_enter Tryd.func39, Tryd.ntmps39
    go_wp2_with fail
    refine HC.out.mono ?_
    rintro e w1 ⟨rfl, hb1⟩
    have HB := Hidden.mk (hb1.alloc hb1.size (.cells #[.int .i64 ((k : Int) + 1), .int .i64 a1, .int .i64 a2, .int .i64 a3] 137))
    have hf := fourAt_one w1 ((k : Int) + 1) (a1 : Int) (a2 : Int) a3 137
    go_upto_region 2 with (fail)
    generalize w1.alloc (.cells #[.int .i64 ((k : Int) + 1), .int .i64 (a1 : Int), .int .i64 (a2 : Int), .int .i64 a3] 137) = w2 at *
    generalize w1.heap.size = bx at *
    obtain ⟨f0, f1, f2, f3⟩ := hf
    have hcv := HCV.out w2.drew HB.out.drew
    have KF := Hidden.mk (And.intro f1 (And.intro f2 (And.intro f3 hcv)))
    clear hb1 HC hcv
    go_wp2_with fail
    go_region_held3 (fun W => W.cell? ⟨bx, 1, none⟩ = some (.int .i64 (a1 : Int)) ∧ W.cell? ⟨bx, 2, none⟩ = some (.int .i64 (a2 : Int)) ∧ W.cell? ⟨bx, 3, none⟩ = some (.int .i64 a3) ∧ (convert 22 9 (.slice (some ⟨p, off + a1, none⟩) a2 (c - a1))).run Tryd.prog W = .ok (sv body) W) (first | exact KF.out) (fail)
    all_goals
      go_wp2_with fail
      go_ret2
      exact ⟨rfl, HB.out.drew⟩
end Go.Proofs.YthlflklamgdkfaaDoor
/- The contracts of errors.As at a target that points to an api.Errno, of plain.Told and of vaultsame.Error. After the guide's worked example on errors.As at a concrete target. -/
namespace Go.Proofs.YthlflklamgdkfaaDoor
open Go.RowKit Go.Extern.Stop Go.Stop Go.Extern

/-- errors.As(nil, target) -/
theorem as_nil (t : Value) (w : World) :
    Calls Tryd.prog 143 #[.nilIface, t] w fun e w' => e = .returned (.bool false) ∧ w' = w := by
  go_enter Tryd.func143, Tryd.ntmps143
  go_wp2
  go_ret
  exact ⟨rfl, rfl⟩

theorem rl_valueOfP (t : Addr) (w : World) : (ReflectliteValue.unpack (.iface 213 (.pointer (some t)))).run Tryd.prog w
    = .ok (.agg #[.pointer (some ⟨1, 213, none⟩), .pointer (some ⟨w.heap.size, 0, none⟩), .int .u64 150]) (w.alloc (.cells #[.pointer (some t)] 213)) := by kernel_rfl
theorem rl_typeP (a : Addr) (w : World) : (ReflectliteValue.methodAny (ReflectliteValue.valueError "reflectlite.Value.Type" 0) (fun t _ _ _ => ReflectliteType.toType t) #[.agg #[.pointer (some ⟨1, 213, none⟩), .pointer (some a), .int .u64 150]]).run Tryd.prog w
    = .ok (.iface 255 (.agg #[.pointer (some ⟨1, 213, none⟩)])) w := by kernel_rfl
theorem rl_kindP (w : World) : ((ReflectliteType.abiMethod fun t => (fun a : Nat => Value.int IntKind.u8 (a : Int)) <$> Rtype.kind t) #[.pointer (some ⟨1, 213, none⟩)]).run Tryd.prog w = .ok (.int .u8 22) w := by kernel_rfl
theorem rl_kindE (w : World) : ((ReflectliteType.abiMethod fun t => (fun a : Nat => Value.int IntKind.u8 (a : Int)) <$> Rtype.kind t) #[.pointer (some ⟨1, 149, none⟩)]).run Tryd.prog w = .ok (.int .u8 2) w := by kernel_rfl
theorem rl_m (z : Sem Value) (f : TypeId → Addr → Nat → Nat → Sem Value) (v : Value) :
    ReflectliteValue.method z f #[v] = (do match ← ReflectliteValue.parts v with | none => z | some (t, a, fl) => f t a fl (fl % 32)) := rfl
theorem rl_partsP (a : Addr) (w : World) : (ReflectliteValue.parts (.agg #[.pointer (some ⟨1, 213, none⟩), .pointer (some a), .int .u64 150])).run Tryd.prog w = .ok (some (213, a, 150)) w := by kernel_rfl
theorem rl_isNilP (a p : Addr) (W : World) (ha : W.cell? a = some (.pointer (some p))) :
    (ReflectliteValue.method (ReflectliteValue.valueError "reflectlite.Value.IsNil" 0) ReflectliteValue.isNil #[.agg #[.pointer (some ⟨1, 213, none⟩), .pointer (some a), .int .u64 150]]).run Tryd.prog W = .ok (.bool false) W := by
  rw [rl_m]
  simp only [Sem.run_bind, rl_partsP, Result.andThen]
  simp [ReflectliteValue.isNil, loadVar, isAgg, underlying, Tryd.underlying213, ha, Result.andThen]
theorem rl_elemP (w : World) : (ReflectliteType.method ReflectliteType.elem #[.agg #[.pointer (some ⟨1, 213, none⟩)]]).run Tryd.prog w = .ok (.iface 255 (.agg #[.pointer (some ⟨1, 149, none⟩)])) w := by kernel_rfl
theorem rl_implE (w : World) : (ReflectliteType.relation "Implements" ReflectliteType.implements_ #[.agg #[.pointer (some ⟨1, 149, none⟩)], .iface 255 (.agg #[.pointer (some ⟨1, 28, none⟩)])]).run Tryd.prog w = .ok (.bool true) w := by kernel_rfl
theorem rl_typeOfE (v : Value) (w : World) : (ReflectliteType.typeOf #[.iface 149 v]).run Tryd.prog w = .ok (.iface 255 (.agg #[.pointer (some ⟨1, 149, none⟩)])) w := by kernel_rfl
theorem rl_assignE (w : World) : (ReflectliteType.relation "AssignableTo" ReflectliteType.assignableTo #[.agg #[.pointer (some ⟨1, 149, none⟩)], .iface 255 (.agg #[.pointer (some ⟨1, 149, none⟩)])]).run Tryd.prog w = .ok (.bool true) w := by kernel_rfl
theorem rl_valueOfE (k : Int) (w : World) : (ReflectliteValue.unpack (.iface 149 (.int .i64 k))).run Tryd.prog w
    = .ok (.agg #[.pointer (some ⟨1, 149, none⟩), .pointer (some ⟨w.heap.size, 0, none⟩), .int .u64 130]) (w.alloc (.cells #[.int .i64 k] 149)) := by kernel_rfl
theorem rl_elemOfP (w : World) : (Rtype.elem? 213).run Tryd.prog w = .ok (some 149) w := by kernel_rfl
theorem rl_mkE (p : Addr) (w : World) : (ReflectliteValue.mk 149 p ReflectliteValue.flagAddr).run Tryd.prog w = .ok (.agg #[.pointer (some ⟨1, 149, none⟩), .pointer (some p), .int .u64 386]) w := by kernel_rfl
theorem rl_elemVP (a p : Addr) (W : World) (ha : W.cell? a = some (.pointer (some p))) :
    (ReflectliteValue.method (ReflectliteValue.valueError "reflectlite.Value.Elem" 0) ReflectliteValue.elem #[.agg #[.pointer (some ⟨1, 213, none⟩), .pointer (some a), .int .u64 150]]).run Tryd.prog W
      = .ok (.agg #[.pointer (some ⟨1, 149, none⟩), .pointer (some p), .int .u64 386]) W := by
  rw [rl_m]
  simp only [Sem.run_bind, rl_partsP, Result.andThen]
  simp [ReflectliteValue.elem, loadVar, isAgg, underlying, Tryd.underlying213, ha, Result.andThen, rl_elemOfP, rl_mkE]
theorem rl_s (v x : Value) : ReflectliteValue.set #[v, x] = (do
    let (some (dst, a, fl), some (src, b, _)) := (← ReflectliteValue.parts v, ← ReflectliteValue.parts x)
      | unsupported (.noEntry "extern/(internal/reflectlite.Value).Set.zeroValue")
    if fl / ReflectliteValue.flagAddr % 2 == 0 then unsupported (.noEntry "extern/(internal/reflectlite.Value).Set.unaddressable")
    let val ← loadVar src b
    if ← Rtype.directlyAssignable dst src then storeVar dst a val
    else if ← Rtype.implements dst src then
      if (← Rtype.kind src) == 20 then
        match val with
        | .nilIface => unsupported (.noEntry "extern/reflectlite: a nil value of one interface type handed on as a value of another")
        | _ => storeVar dst a val
      else storeVar dst a (.iface src val)
    else panicString ("reflectlite.Set: value of type " ++ (← Rtype.spelt src) ++ " is not assignable to type " ++ (← Rtype.spelt dst))
    pure (.tuple #[])) := rfl
theorem rl_partsEa (a : Addr) (w : World) : (ReflectliteValue.parts (.agg #[.pointer (some ⟨1, 149, none⟩), .pointer (some a), .int .u64 386])).run Tryd.prog w = .ok (some (149, a, 386)) w := by kernel_rfl
theorem rl_partsE (a : Addr) (w : World) : (ReflectliteValue.parts (.agg #[.pointer (some ⟨1, 149, none⟩), .pointer (some a), .int .u64 130])).run Tryd.prog w = .ok (some (149, a, 130)) w := by kernel_rfl
theorem rl_directE (w : World) : (Rtype.directlyAssignable 149 149).run Tryd.prog w = .ok true w := by kernel_rfl
theorem rl_setE (ta b : Addr) (k : Int) (old : Value) (W : World) (hb : W.cell? b = some (.int .i64 k)) (ht : W.cell? ta = some old) (hf : W.frozen? ta = false) :
    (ReflectliteValue.set #[.agg #[.pointer (some ⟨1, 149, none⟩), .pointer (some ta), .int .u64 386], .agg #[.pointer (some ⟨1, 149, none⟩), .pointer (some b), .int .u64 130]]).run Tryd.prog W
      = .ok (.tuple #[]) (W.setCell ta (.int .i64 k)) := by
  rw [rl_s]
  simp only [Sem.run_bind, rl_partsEa, rl_partsE, Result.andThen]
  simp [ReflectliteValue.flagAddr, loadVar, isAgg, underlying, Tryd.underlying149, hb, Result.andThen, rl_directE, storeVar, Value.cells, storeCells, Addr.add]
  rw [run_store Tryd.prog W ta _ _ (by rfl)]
  simp [ht, hf]

/-- what the row's condition gives: the variable errors.errorType -/
def HasType (w : World) : Prop := w.cell? ⟨0, 0, none⟩ = some (.iface 255 (.agg #[.pointer (some ⟨1, 28, none⟩)]))
theorem HasType.below {B : Nat} {w w' : World} (h : HasType w) (hB : 0 < B) (hb : Below B w w') : HasType w' := (hb.cell (p := ⟨0, 0, none⟩) hB).trans h
theorem HasType.lt {w : World} (h : HasType w) : 0 < w.heap.size := block_lt_of_cell h
end Go.Proofs.YthlflklamgdkfaaDoor
/- The contracts of errors.As at a target that points to an api.Errno, of plain.Told and of vaultsame.Error. -/
namespace Go.Proofs.YthlflklamgdkfaaDoor
open Go.RowKit Go.Extern.Stop Go.Stop Go.Extern

theorem rl_methKind (n : Nat) (h : Value) (w : World) : (Go.method (n + 1) 255 (.agg #[h]) "Kind").run Tryd.prog w = .ok (229, h) w := by kernel_rfl
theorem rl_methElem (n : Nat) (h : Value) (w : World) : (Go.method (n + 1) 255 (.agg #[h]) "Elem").run Tryd.prog w = .ok (239, .agg #[h]) w := by kernel_rfl
theorem rl_methImpl (n : Nat) (h : Value) (w : World) : (Go.method (n + 1) 255 (.agg #[h]) "Implements").run Tryd.prog w = .ok (240, .agg #[h]) w := by kernel_rfl
theorem rl_methAssign (n : Nat) (h : Value) (w : World) : (Go.method (n + 1) 255 (.agg #[h]) "AssignableTo").run Tryd.prog w = .ok (237, .agg #[h]) w := by kernel_rfl

set_option maxRecDepth 100000 in
set_option maxHeartbeats 4000000 in
theorem as_errno (k : Int) (t : Addr) (old : Value) (w : World) (hg : HasType w) (ht0 : w.cell? t = some old) (hf0 : w.frozen? t = false) :
    Calls Tryd.prog 143 #[.iface 149 (.int .i64 k), .iface 213 (.pointer (some t))] w fun ev w' => ev = .returned (.bool true) ∧ w' = ((((w.alloc (.cells #[.pointer (some t)] 213)).alloc (.cells #[.pointer (some ⟨1, 213, none⟩), .pointer (some ⟨w.heap.size, 0, none⟩), .int .u64 150] 237)).alloc (.cells #[.pointer (some ⟨1, 213, none⟩), .pointer (some ⟨w.heap.size, 0, none⟩), .int .u64 150] 237)).alloc (.cells #[.int .i64 k] 149)).setCell t (.int .i64 k) := by
  have h6 := @run_callFunc_extern Tryd.prog 169 _ (fun args => ReflectliteValue.unpack (args.getD 0 (.tuple #[]))) Tryd.func169 (by kernel_rfl) (by kernel_rfl) (by kernel_rfl) (by kernel_rfl)
  have h7 := @run_callFunc_extern Tryd.prog 170 _ (ReflectliteValue.methodAny (ReflectliteValue.valueError "reflectlite.Value.Type" 0) (fun t _ _ _ => ReflectliteType.toType t)) Tryd.func170 (by kernel_rfl) (by kernel_rfl) (by kernel_rfl) (by kernel_rfl)
  have h8 := @run_callFunc_extern Tryd.prog 171 _ (ReflectliteValue.method (ReflectliteValue.valueError "reflectlite.Value.IsNil" 0) ReflectliteValue.isNil) Tryd.func171 (by kernel_rfl) (by kernel_rfl) (by kernel_rfl) (by kernel_rfl)
  have h27 := @run_callFunc_extern Tryd.prog 229 _ (ReflectliteType.abiMethod fun t => do pure (.int .u8 (← Rtype.kind t))) Tryd.func229 (by kernel_rfl) (by kernel_rfl) (by kernel_rfl) (by kernel_rfl)
  have h37 := @run_callFunc_extern Tryd.prog 239 _ (ReflectliteType.method ReflectliteType.elem) Tryd.func239 (by kernel_rfl) (by kernel_rfl) (by kernel_rfl) (by kernel_rfl)
  have h38 := @run_callFunc_extern Tryd.prog 240 _ (ReflectliteType.relation "Implements" ReflectliteType.implements_) Tryd.func240 (by kernel_rfl) (by kernel_rfl) (by kernel_rfl) (by kernel_rfl)
  have h10 := @run_callFunc_extern Tryd.prog 183 _ ReflectliteType.typeOf Tryd.func183 (by kernel_rfl) (by kernel_rfl) (by kernel_rfl) (by kernel_rfl)
  have h35 := @run_callFunc_extern Tryd.prog 237 _ (ReflectliteType.relation "AssignableTo" ReflectliteType.assignableTo) Tryd.func237 (by kernel_rfl) (by kernel_rfl) (by kernel_rfl) (by kernel_rfl)
  have h11 := @run_callFunc_extern Tryd.prog 184 _ (ReflectliteValue.method (ReflectliteValue.valueError "reflectlite.Value.Elem" 0) ReflectliteValue.elem) Tryd.func184 (by kernel_rfl) (by kernel_rfl) (by kernel_rfl) (by kernel_rfl)
  have h12 := @run_callFunc_extern Tryd.prog 185 _ ReflectliteValue.set Tryd.func185 (by kernel_rfl) (by kernel_rfl) (by kernel_rfl) (by kernel_rfl)
  have tO := rl_typeOfE
  have aE := rl_assignE
  have vE := rl_valueOfE
  have f6 := rl_valueOfP
  have f7 := rl_typeP
  have mK := rl_methKind
  have mE := rl_methElem
  have mI := rl_methImpl
  have mA := rl_methAssign
  have kP := rl_kindP
  have kE := rl_kindE
  have eP := rl_elemP
  have iE := rl_implE
  have n8 := rl_isNilP ⟨w.heap.size, 0, none⟩ t ((w.alloc (.cells #[.pointer (some t)] 213)).alloc (.cells #[.pointer (some ⟨1, 213, none⟩), .pointer (some ⟨w.heap.size, 0, none⟩), .int .u64 150] 237)) (by simp)
  have hlt : 0 < w.heap.size := hg.lt
  unfold HasType at hg
  have hg2 : ((w.alloc (.cells #[.pointer (some t)] 213)).alloc (.cells #[.pointer (some ⟨1, 213, none⟩), .pointer (some ⟨w.heap.size, 0, none⟩), .int .u64 150] 237)).cell? ⟨0, 0, none⟩ = some (.iface 255 (.agg #[.pointer (some ⟨1, 28, none⟩)])) := by
    rw [World.cell?_alloc_lt _ _ ⟨0, 0, none⟩ (by simp), World.cell?_alloc_lt _ _ ⟨0, 0, none⟩ hlt]; exact hg
  have htl : t.block < w.heap.size := by
    rcases Nat.lt_or_ge t.block w.heap.size with h | h
    · exact h
    · simp [World.cell?, Array.getElem?_eq_none h] at ht0
  have el := rl_elemVP ⟨w.heap.size, 0, none⟩ t (((w.alloc (.cells #[.pointer (some t)] 213)).alloc (.cells #[.pointer (some ⟨1, 213, none⟩), .pointer (some ⟨w.heap.size, 0, none⟩), .int .u64 150] 237)).alloc (.cells #[.pointer (some ⟨1, 213, none⟩), .pointer (some ⟨w.heap.size, 0, none⟩), .int .u64 150] 237)) (by rw [World.cell?_alloc_lt _ _ ⟨w.heap.size, 0, none⟩ (by simp; omega)]; simp)
  have st := rl_setE t ⟨w.heap.size + 1 + 1 + 1, 0, none⟩ k old ((((w.alloc (.cells #[.pointer (some t)] 213)).alloc (.cells #[.pointer (some ⟨1, 213, none⟩), .pointer (some ⟨w.heap.size, 0, none⟩), .int .u64 150] 237)).alloc (.cells #[.pointer (some ⟨1, 213, none⟩), .pointer (some ⟨w.heap.size, 0, none⟩), .int .u64 150] 237)).alloc (.cells #[.int .i64 k] 149))
    (by rw [World.cell?_alloc_at _ _ _ _ (by simp)]; rfl)
    (by rw [World.cell?_alloc_lt _ _ t (by simp; omega), World.cell?_alloc_lt _ _ t (by simp; omega), World.cell?_alloc_lt _ _ t (by simp; omega), World.cell?_alloc_lt _ _ t htl]; exact ht0)
    (by rw [World.frozen?_alloc_old _ _ t (by simp; omega), World.frozen?_alloc_old _ _ t (by simp; omega), World.frozen?_alloc_old _ _ t (by simp; omega), World.frozen?_alloc_old _ _ t (Nat.ne_of_lt htl)]; exact hf0)
  go_enter Tryd.func143, Tryd.ntmps143
  go_wp2
  refine wp_loop_rounds 1 ?_
  rw [rounds_succ]
  go_wp2
  go_ret
  exact ⟨rfl, rfl⟩
end Go.Proofs.YthlflklamgdkfaaDoor
/- The contracts of plain.Told and of vaultsame.Error. -/
namespace Go.Proofs.YthlflklamgdkfaaDoor
open Go.RowKit

theorem told_nil (w : World) : Calls Tryd.prog 87 #[.nilIface] w fun e w' => e = .returned (.int .i64 0) ∧ w = w' := by
  go_enter Tryd.func87, Tryd.ntmps87
  go_wp2_with fail
  go_ret
  exact ⟨rfl, rfl⟩
theorem told_errno (k : Int) (w : World) (hg : HasType w) : Calls Tryd.prog 87 #[.iface 149 (.int .i64 k)] w fun e w' => e = .returned (.int .i64 k) ∧ Below w.heap.size w w' := by
  have hW : Below w.heap.size w (w.alloc (.cells #[.int .i64 0] 149)) := (Below.refl _ _).alloc (Nat.le_refl _) _
  have hg1 := hg.below hg.lt hW
  have HC := Hidden.mk (as_errno k ⟨w.heap.size, 0, none⟩ (.int .i64 0) _ hg1 (by simp) (by simp))
  clear hg1
  go_enter Tryd.func87, Tryd.ntmps87
  go_wp2_with fail
  refine HC.out.mono ?_
  rintro e w' ⟨rfl, hw'⟩
  have hB : Below w.heap.size w w' := by
    rw [hw']
    exact ((((hW.alloc hW.size _).alloc (by simp; omega) _).alloc (by simp; omega) _).alloc (by simp; omega) _).setCell (p := ⟨w.heap.size, 0, none⟩) (Nat.le_refl _) _
  have hc : w'.cell? ⟨w.heap.size, 0, none⟩ = some (.int .i64 k) := by
    rw [hw']
    refine World.cell?_setCell_same' _ _ _ ?_
    rw [(((((Below.refl _ (w.alloc (.cells #[.int .i64 0] 149))).alloc (Nat.le_refl _) _).alloc (by simp) _).alloc (by simp) _).alloc (by simp) _).cell (p := ⟨w.heap.size, 0, none⟩) (by simp)]
    simp
  clear hw' HC hW
  go_wp2_with fail
  go_ret
  exact ⟨rfl, hB⟩
theorem err_nil (x : Int) (w : World) : Calls Tryd.prog 17 #[.nilIface, .int .i64 x] w fun e w' => e = .returned (.bool ((0 : Int) == x)) ∧ Below w.heap.size w w' := by
  go_enter Tryd.func17, Tryd.ntmps17
  go_wp2_with fail
  refine (told_nil _).mono ?_
  rintro e w' ⟨rfl, rfl⟩
  go_wp2_with fail
  go_ret
  exact ⟨rfl, Below.refl _ _⟩
theorem err_some (k x : Int) (w : World) (hg : HasType w) : Calls Tryd.prog 17 #[.iface 149 (.int .i64 k), .int .i64 x] w fun e w' => e = .returned (.bool (k == x)) ∧ Below w.heap.size w w' := by
  go_enter Tryd.func17, Tryd.ntmps17
  go_wp2_with fail
  refine (told_errno k _ hg).mono ?_
  rintro e w' ⟨rfl, hb⟩
  go_wp2_with fail
  go_ret
  exact ⟨rfl, hb⟩
/-- .. of an error that is nil or a number -/
theorem err_any (n : Nat) (x : Int) (w : World) (hg : HasType w) : Calls Tryd.prog 17 #[errV n, .int .i64 x] w fun e w' => e = .returned (.bool ((n : Int) == x)) ∧ Below w.heap.size w w' := by
  unfold errV
  by_cases h : n = 0
  · rw [if_pos h, h]; exact err_nil x w
  · rw [if_neg h]; exact err_some n x w hg
end Go.Proofs.YthlflklamgdkfaaDoor
/- What comes in: the program's own slices, opened. -/
namespace Go.Proofs.YthlflklamgdkfaaDoor
open Go.RowKit Go.ChangeShapes Go.WideShapes Go.ChangeAt

section
variable {H : Type} {enc : TypeId × Value → H} {w : World} {v : Value} {d : DataW H} {ps : List MemPlace} {base : Nat} {r : Reach}
set_option maxRecDepth 20000 in
theorem open_pages (hv : Value.okWide Tryd.prog w r base 110 v) (h : DataW.Trod enc Tryd.prog w 0 (fun _ => true) true 110 v d ps) (hz : (d.weights Tryd.prog 110).all (· ≤ reachBytes) = true) :
    ∃ (A : Option Addr) (c : Nat) (L : List PgX), v = .slice A L.length c ∧ L.length ≤ c ∧ c ≤ 140737488351232 ∧ (∀ x ∈ L, PgOk w x) ∧ RdX pcells 2 w A L := by
  have hb : decide (1 ≤ Tryd.prog.bytesOf 112) = true := by kernel_rfl
  have hC : Tryd.prog.cellsOf 112 = 2 := by kernel_rfl
  refine open_seq (P := Tryd.prog) pcells 2 PgOk Tryd.underlying110 hC (by omega) (of_decide_eq_true hb) (fun n cs x hl ht hz => ?_) hv h hz
  obtain ⟨v0, v1, y0, y1, m, rfl, t0, t1, z0, z1⟩ := open_two Tryd.underlying112 ⟨rfl, by kernel_rfl⟩ ⟨rfl, by kernel_rfl⟩ hl ht hz
  obtain ⟨a, ha, -, wa⟩ := DataW.trod_int Tryd.underlying3 t0
  obtain ⟨A, c, l, hb, hc, hm, hr⟩ := open_bytes_in Tryd.underlying22 Tryd.underlying5 (by kernel_rfl) (by kernel_rfl) t1 z1
  simp only [List.cons.injEq, and_true] at ha
  have hw := wf_i64' wa
  exact ⟨⟨a, A, c, l⟩, by rw [ha, hb]; rfl, hw.1, hw.2, hc, hm, hr⟩
set_option maxRecDepth 20000 in
/-- booleans that came in -/
theorem open_bools (hv : Value.okWide Tryd.prog w r base 79 v) (h : DataW.Trod enc Tryd.prog w 0 (fun _ => true) true 79 v d ps) (hz : (d.weights Tryd.prog 79).all (· ≤ reachBytes) = true) :
    ∃ (A : Option Addr) (c : Nat) (L : List Bool), v = .slice A L.length c ∧ L.length ≤ c ∧ c ≤ 140737488351232 ∧ (∀ x ∈ L, True) ∧ RdX (fun b => [.bool b]) 1 w A L := by
  have hb : decide (1 ≤ Tryd.prog.bytesOf 4) = true := by kernel_rfl
  have hC : Tryd.prog.cellsOf 4 = 1 := by kernel_rfl
  refine open_seq (P := Tryd.prog) (fun b => [.bool b]) 1 (fun _ _ => True) Tryd.underlying79 hC (by omega) (of_decide_eq_true hb) (fun n cs x hl ht hz => ?_) hv h hz
  match cs, hl with
  | [c0], _ =>
    obtain ⟨b, hb, _⟩ := DataW.trod_bool Tryd.underlying4 ht
    exact ⟨b, by simpa using hb, trivial⟩
set_option maxRecDepth 20000 in
/-- entries that came in -/
theorem open_entries (hv : Value.okWide Tryd.prog w r base 150 v) (h : DataW.Trod enc Tryd.prog w 0 (fun _ => true) true 150 v d ps) (hz : (d.weights Tryd.prog 150).all (· ≤ reachBytes) = true) :
    ∃ (A : Option Addr) (c : Nat) (L : List EntX), v = .slice A L.length c ∧ L.length ≤ c ∧ c ≤ 140737488351232 ∧ (∀ x ∈ L, EntOk w x) ∧ RdX xcells 4 w A L := by
  have hb : decide (1 ≤ Tryd.prog.bytesOf 137) = true := by kernel_rfl
  have hC : Tryd.prog.cellsOf 137 = 4 := by kernel_rfl
  refine open_seq (P := Tryd.prog) xcells 4 EntOk Tryd.underlying150 hC (by omega) (of_decide_eq_true hb) (fun n cs x hl ht _ => ?_) hv h hz
  match cs, hl with
  | [c0, c1, c2, c3], _ =>
    obtain ⟨xs, n, _, hx, _, hlen, hg⟩ := DataW.trod_struct Tryd.underlying137 ht
    match xs, hlen with
    | [y0, y1, y2], _ =>
      have k0 : Tryd.prog.cellsOf 3 = 1 := by kernel_rfl
      have k1 : Tryd.prog.cellsOf 135 = 2 := by kernel_rfl
      have t0 : DataW.trod enc Tryd.prog w 0 (fun _ => true) true n 3 [c0] = some y0 := by simpa [k0] using hg 0 _ rfl
      have t1 : DataW.trod enc Tryd.prog w 0 (fun _ => true) true n 135 [c1, c2] = some y1 := by simpa [k1] using hg 1 _ rfl
      have t2 : DataW.trod enc Tryd.prog w 0 (fun _ => true) true n 3 [c3] = some y2 := by simpa [k0] using hg 2 _ rfl
      obtain ⟨ys, n', _, hx', _, hlen', hg'⟩ := DataW.trod_struct Tryd.underlying135 t1
      match ys, hlen' with
      | [z0, z1], _ =>
        have u0 : DataW.trod enc Tryd.prog w 0 (fun _ => true) true n' 3 [c1] = some z0 := by simpa [k0] using hg' 0 _ rfl
        have u1 : DataW.trod enc Tryd.prog w 0 (fun _ => true) true n' 3 [c2] = some z1 := by simpa [k0] using hg' 1 _ rfl
        obtain ⟨a, ha, -, wa⟩ := DataW.trod_int Tryd.underlying3 t0
        obtain ⟨b, hb', -, wb⟩ := DataW.trod_int Tryd.underlying3 u0
        obtain ⟨c, hc, -, wc⟩ := DataW.trod_int Tryd.underlying3 u1
        obtain ⟨e, he, -, we⟩ := DataW.trod_int Tryd.underlying3 t2
        simp only [List.cons.injEq, and_true] at ha hb' hc he
        subst ha hb' hc he
        exact ⟨⟨a, b, c, e⟩, rfl, wf_i64' wa, wf_i64' wb, wf_i64' wc, wf_i64' we⟩
set_option maxRecDepth 20000 in
/-- roots that came in -/
theorem open_roots (hv : Value.okWide Tryd.prog w r base 70 v) (h : DataW.Trod enc Tryd.prog w 0 (fun _ => true) true 70 v d ps) (hz : (d.weights Tryd.prog 70).all (· ≤ reachBytes) = true) :
    ∃ (A : Option Addr) (c : Nat) (L : List RotX), v = .slice A L.length c ∧ L.length ≤ c ∧ c ≤ 140737488351232 ∧ (∀ x ∈ L, RotOk w x) ∧ RdX ycells 2 w A L := by
  have hb : decide (1 ≤ Tryd.prog.bytesOf 76) = true := by kernel_rfl
  have hC : Tryd.prog.cellsOf 76 = 2 := by kernel_rfl
  refine open_seq (P := Tryd.prog) ycells 2 RotOk Tryd.underlying70 hC (by omega) (of_decide_eq_true hb) (fun n cs x hl ht hz => ?_) hv h hz
  obtain ⟨v0, v1, y0, y1, m, rfl, t0, t1, z0, z1⟩ := open_two Tryd.underlying76 ⟨rfl, by kernel_rfl⟩ ⟨rfl, by kernel_rfl⟩ hl ht hz
  obtain ⟨s, ha, hy, -⟩ := DataW.trod_string Tryd.underlying9 t0
  obtain ⟨b, hb', -, wb⟩ := DataW.trod_int Tryd.underlying3 t1
  simp only [List.cons.injEq, and_true] at ha hb'
  subst ha hb' hy
  have h2 := of_decide_eq_true (List.all_eq_true.1 z0 s.data.toList.length (by simp [DataW.weights]))
  have h3 : reachBytes = 140737488351232 := by decide
  exact ⟨⟨s.data.toList, b⟩, rfl, by simp only at *; omega, wf_i64' wb⟩
end
end Go.Proofs.YthlflklamgdkfaaDoor
/- ImageBack: what the walk leans on. -/
namespace Go.Proofs.YthlflklamgdkfaaDoor
open Go.RowKit

theorem iget_t (A : Option Addr) (n c : Nat) (l : Bytes) (k : Nat) (w : World) (hn : l.length = n) (hr : rightB n = true) (hnc : n ≤ c) (hrd : Rd w A l) (hk : k < 40) (hE : hasE (rawE l k) = true) :
    Calls Tryd.prog 101 #[.slice A n c, .int .i64 ((k : Int) + 1)] w fun e w' => e = .returned (.tuple #[.agg #[.int .i64 ((k : Int) + 1), .int .i64 (rAt (rawE l k)), .int .i64 (rLen (rawE l k)), .int .i64 (rTag (rawE l k))], .nilIface]) ∧ Below w.heap.size w w' :=
  (iget_ok A n c l k w hn hr hnc hrd hk).mono fun _ _ h => ⟨h.1 hE, h.2.2⟩
theorem iget_f (A : Option Addr) (n c : Nat) (l : Bytes) (k : Nat) (w : World) (hn : l.length = n) (hr : rightB n = true) (hnc : n ≤ c) (hrd : Rd w A l) (hk : k < 40) (hE : hasE (rawE l k) = false) :
    Calls Tryd.prog 101 #[.slice A n c, .int .i64 ((k : Int) + 1)] w fun e w' => e = .returned (.tuple #[.agg #[.int .i64 0, .int .i64 0, .int .i64 0, .int .i64 0], .iface 149 (.int .i64 5)]) ∧ Below w.heap.size w w' :=
  (iget_ok A n c l k w hn hr hnc hrd hk).mono fun _ _ h => ⟨h.2.1 hE, h.2.2⟩
theorem below_four {w w' : World} {a b c d : Value} {t : TypeId} (hb : Below (w.alloc (.cells #[a, b, c, d] t)).heap.size (w.alloc (.cells #[a, b, c, d] t)) w') :
    w'.cell? ⟨w.heap.size, 0, none⟩ = some a ∧ w'.cell? ⟨w.heap.size, 1, none⟩ = some b ∧ w'.cell? ⟨w.heap.size, 2, none⟩ = some c ∧ w'.cell? ⟨w.heap.size, 3, none⟩ = some d := by
  have h := (hb.block w.heap.size (by simp)).trans (heap_alloc_new w (.cells #[a, b, c, d] t))
  refine ⟨?_, ?_, ?_, ?_⟩ <;> simp [World.cell?, h]
/-- the image that the law has come to -/
structure ImB (w wr : World) (n gb cap : Nat) (lb : Bytes) (i : Nat) : Prop where
  row : Row wr 5 gb cap lb
  len : lb.length = n
  no : NoRoots lb i
  bel : Below w.heap.size w wr
theorem ImB.below {w wr w' : World} {n gb cap i : Nat} {lb : Bytes} (h : ImB w wr n gb cap lb i) (hb : Below wr.heap.size wr w') : ImB w w' n gb cap lb i :=
  ⟨h.row.below hb h.row.lt, h.len, h.no, h.bel.trans (hb.mono h.bel.size)⟩
theorem ImB.up {w wr : World} {n gb cap i : Nat} {lb : Bytes} (h : ImB w wr n gb cap lb i) : ImB w wr n gb cap lb (i + 1) :=
  ⟨h.row, h.len, fun j h1 h2 => h.no j (by omega) h2, h.bel⟩
theorem noRoots_new (n : Nat) (hn : 288 ≤ n) : NoRoots (List.replicate n 0) 0 := fun j _ hj => by
  unfold rawR
  rw [List.drop_replicate, List.take_replicate]
  congr 1; omega
theorem ent_back (l : Bytes) (kk : Nat) (a b t : Int) (hk : kk < 40) (hl : 200 ≤ l.length) (ha : 0 ≤ a ∧ a < 65536) (hb : 0 ≤ b ∧ b < 65536) (ht : 0 ≤ t ∧ t ≤ 15) :
    putEnt l ((kk : Int) + 1) a b t = splice l (5 * kk) (entB a.toNat b.toNat t.toNat) ∧ hasE (rawE (putEnt l ((kk : Int) + 1) a b t) kk) = true ∧ (rAt (rawE (putEnt l ((kk : Int) + 1) a b t) kk) : Int) = a ∧ (rLen (rawE (putEnt l ((kk : Int) + 1) a b t) kk) : Int) = b ∧ rTag (rawE (putEnt l ((kk : Int) + 1) a b t) kk) = t := by
  have hp : putEnt l ((kk : Int) + 1) a b t = splice l (5 * kk) (entB a.toNat b.toNat t.toNat) := by unfold putEnt; rw [entO_k]
  have hr : rawE (putEnt l ((kk : Int) + 1) a b t) kk = entB a.toNat b.toNat t.toNat := by rw [hp, rawE_splice _ _ _ _ (entB_len _ _ _) hk hk hl, if_pos rfl]
  obtain ⟨h1, h2, h3, h4⟩ := entB_rd a.toNat b.toNat t.toNat (by omega) (by omega) (by omega)
  rw [hr]
  exact ⟨hp, h1, by rw [h2]; omega, by rw [h3]; omega, by rw [h4]; omega⟩
theorem rootB_zero (s : Bytes) (h : Int) (hh : handleB h = true) : zeroE (rootB s h) = false := by
  have hb := handleB_true.1 hh
  have hd : (UInt8.ofNat h.toNat).toNat = h.toNat := by rw [UInt8.toNat_ofNat', Nat.mod_eq_of_lt (by omega)]
  unfold zeroE
  rw [Bool.not_eq_false', List.any_eq_true]
  refine ⟨UInt8.ofNat h.toNat, by simp [rootB], ?_⟩
  unfold nonZero
  rw [bne_iff_ne]
  intro e
  rw [e] at hd
  simp at hd
  omega
theorem rootB_P (s : Bytes) (h : Int) (hh : handleB h = true) (hnm : isName s = true) : rootP (rootB s h) = (s, h.toNat) := by
  have hb := handleB_true.1 hh
  have hd : (UInt8.ofNat h.toNat).toNat = h.toNat := by rw [UInt8.toNat_ofNat', Nat.mod_eq_of_lt (by omega)]
  have h8 := nameB_len s hnm
  obtain ⟨h1, h2⟩ := nameB_back s hnm
  have ht : (rootB s h).take 8 = nameB s := by unfold rootB; rw [List.take_append_of_le_length (by omega), List.take_of_length_le (by omega)]
  have h3 : nmR (rootB s h) = s := by unfold nmR; rw [ht]; exact h2
  unfold rootP
  rw [ht, if_pos h1, h3]
  congr 1
  unfold rootB
  rw [List.getD_eq_getElem?_getD, List.getElem?_append_right (by omega), h8]
  exact hd
theorem rootB_len (s : Bytes) (h : Int) (hnm : isName s = true) : (rootB s h).length = 11 := by unfold rootB; simp [nameB_len s hnm]
theorem root_back (gb n c : Nat) (l : Bytes) (i : Nat) (s : Bytes) (h : Int) (w : World) (hs : s.length ≤ 140737488351232) (hn : l.length = n) (hnc : n ≤ c) (hrd : Rd w (some ⟨gb, 0, none⟩) l) (hr : rightB n = true) (hi : i < 8) (hz : NoRoots l i) :
    Calls Tryd.prog 156 #[.slice (some ⟨gb, 0, none⟩) n c, .int .i64 (i : Int), rootV s h] w fun e w' => (∃ x, e = .returned (.tuple #[.slice none 0 0, .iface 149 (.int .i64 x)]) ∧ Below w.heap.size w w') ∨
      (∃ g cp lc, e = .returned (.tuple #[.slice (some ⟨g, 0, none⟩) n cp, .nilIface]) ∧ n ≤ cp ∧ Row w' 5 g cp lc ∧ lc.length = n ∧ NoRoots lc (i + 1) ∧ Below w.heap.size w w' ∧
        ((s.isEmpty = true ∧ rootsL lc = rootsL l) ∨ (s.isEmpty = false ∧ rootsL lc = rootsL l ++ [(s, h.toNat)] ∧ (h.toNat : Int) = h))) := by
  have hnb := rightB_true.1 hr
  have hsp : ∀ X : Bytes, X.length = 11 → (splice l (rootO (i : Int)) X).length = n := fun X hX => by rw [rootO_k, splice_len _ _ _ (by omega)]; exact hn
  by_cases h0 : s = [] ∧ h = 0
  · obtain ⟨rfl, rfl⟩ := h0
    refine (root_zero (some ⟨gb, 0, none⟩) n c l i w hn hnc hrd hr (by omega) (by omega)).mono ?_
    rintro e w' ⟨g, cap, he, hg, hrow, hb⟩
    have h1 := roots_put l (List.replicate 11 0) i (by simp) hi (by omega) hz
    have h2 := hsp (List.replicate 11 0) (by simp)
    rw [zeros_zero, if_pos rfl, List.append_nil] at h1
    rw [rootO_k] at hrow h2
    exact .inr ⟨g, cap, _, he, by have := hrow.le.1; omega, hrow, h2, h1.2, hb, .inl ⟨rfl, h1.1⟩⟩
  cases hh : handleB h with
  | false => exact (root_e1h _ n c i s h w hr (by omega) (by omega) h0 hh).mono fun e w' he => .inl ⟨1, he⟩
  | true =>
    cases hnm : isName s with
    | false => exact (root_e2 _ n c i s h w hs hr (by omega) (by omega) hh hnm).mono fun e w' he => .inl ⟨2, he⟩
    | true =>
      refine (root_ok _ n c l i s h w hn hrd hr (by omega) (by omega) hh hnm).mono ?_
      rintro e w' ⟨g, cap, he, hg, hrow, hb⟩
      have hb' := handleB_true.1 hh
      have h11 := rootB_len s h hnm
      have h1 := roots_put l (rootB s h) i h11 hi (by omega) hz
      have h2 := hsp (rootB s h) h11
      rw [rootB_zero s h hh, rootB_P s h hh hnm, if_neg (by simp)] at h1
      rw [rootO_k] at hrow h2
      have hse : s.isEmpty = false := by
        cases s with
        | nil => cases hnm
        | cons x r => rfl
      exact .inr ⟨g, cap, _, he, by have := hrow.le.1; omega, hrow, h2, h1.2, hb, .inr ⟨hse, h1.1, by omega⟩⟩
theorem flatMap_at {X : Type} (f : X → List Value) (C : Nat) (hC : ∀ x, (f x).length = C) : ∀ (L : List X) (i : Nat) (h : i < L.length) (q : Nat), q < C → (L.flatMap f)[i * C + q]? = (f L[i])[q]?
  | [], i, h, _, _ => absurd h (by simp)
  | x :: r, 0, _, q, hq => by
    rw [List.flatMap_cons, Nat.zero_mul, Nat.zero_add, List.getElem?_append_left (by rw [hC]; exact hq)]; rfl
  | x :: r, i + 1, h, q, hq => by
    have hx := hC x
    rw [List.flatMap_cons, List.getElem?_append_right (by rw [hx, Nat.succ_mul]; omega), hx, show (i + 1) * C + q - C = i * C + q by rw [Nat.succ_mul]; omega]
    exact flatMap_at f C hC r i (by simpa using h) q hq
theorem own_rdX {X : Type} {f : X → List Value} {C : Nat} {w : World} {base : Nat} {e : TypeId} {v : Value} {L : List X} (hC : ∀ x, (f x).length = C) (h : w.ownsRow base e C v L.length (L.flatMap f)) : ∃ A c, v = .slice A L.length c ∧ L.length ≤ c ∧ RdX f C w A L := by
  rcases h.2 with ⟨rfl, h0⟩ | ⟨g, cap, cur, rfl, _, hh, hc, hm, hz, ht⟩
  · exact ⟨none, 0, by rw [h0], by omega, fun i hi => by omega⟩
  · refine ⟨_, cap, rfl, hc, fun i hi => ⟨g, 0, rfl, fun q u hq => ?_⟩⟩
    have hqC : q < C := by rw [← hC L[i]]; exact (List.getElem?_eq_some_iff.1 hq).1
    have := h.cells (g := g) rfl (i * C + q) u (by rw [flatMap_at f C hC L i hi q hqC]; exact hq)
    rw [Addr.add_lit] at this
    rw [Nat.add_assoc]
    exact this
theorem rcells_len (x : Bytes × Nat) : (rcells x).length = 2 := rfl
end Go.Proofs.YthlflklamgdkfaaDoor
/- vaultsame.Entries and Roots of lists that are the same. -/
namespace Go.Proofs.YthlflklamgdkfaaDoor
open Go.RowKit

theorem ecells_len (x : Int × Bytes) : (ecells x).length = 4 := rfl
set_option maxRecDepth 100000 in
theorem sameRoots_eq (A B : Option Addr) (ca cb : Nat) (L : List (Bytes × Nat)) (w : World) (hl : L.length ≤ 1000) (hA : RdX rcells 2 w A L) (hB : RdX rcells 2 w B L) :
    Calls Tryd.prog 41 #[.slice A L.length ca, .slice B L.length cb] w fun e w' => e = .returned (.bool true) ∧ Below w.heap.size w w' := by
  have HA := Hidden.mk hA
  have HB := Hidden.mk hB
  clear hA hB
  go_enter Tryd.func41, Tryd.ntmps41
  go_wp2_with fail
  go_loopg [5] L.length (fun m i wr => ∃ j : Nat, j ≤ L.length ∧ m = L.length - j ∧ i = .int .i64 (j : Int) ∧ Below w.heap.size w wr)
  case atStart => exact ⟨0, by omega, rfl, rfl, Below.refl _ _⟩
  case round =>
    obtain ⟨j, hj, rfl, rfl, hbel⟩ := hrel
    by_cases hlt : j < L.length
    · have hp' := (HA.out.below hbel) j hlt
      obtain ⟨p, off, rfl, hp'⟩ := hp'
      have hq' := (HB.out.below hbel) j hlt
      obtain ⟨q, oq, rfl, hq'⟩ := hq'
      have x0 := hp' 0 _ rfl
      have x1 := hp' 1 _ rfl
      have y0 := hq' 0 _ rfl
      have y1 := hq' 1 _ rfl
      rw [Nat.add_zero] at x0 y0
      generalize L[j].1 = b0 at *
      generalize (L[j].2 : Int) = b1 at *
      have k0 : (0 : Int) ≤ j := by omega
      have k1 : (j : Int) < L.length := by omega
      have HBL := Hidden.mk hbel
      clear hp' hq' hbel
      go_wp2_with fail
      go_quiet (fail)
      clear x0 x1 y0 y1
      have hbn := below_drewN HBL.out nq
      go_wp2_with fail
      go_roundg (L.length - (j + 1))
      case measure => omega
      case rel => exact ⟨j + 1, by omega, rfl, by go_num, hbn⟩
    · obtain rfl : j = L.length := by omega
      go_wp2_with fail
      go_ret
      exact ⟨rfl, hbel⟩
end Go.Proofs.YthlflklamgdkfaaDoor
/- RootTells: the walk. -/
namespace Go.Proofs.YthlflklamgdkfaaDoor
open Go.RowKit

theorem objT_gT {l : Bytes} {k : Nat} (h : hE l ((k : Int) + 1) = 0) : objT l k = gT l ((k : Int) + 1) := by
  obtain ⟨j, _, e1, e2, e3⟩ := hE_zero h
  obtain rfl : j = k := by omega
  unfold objT gT
  rw [if_pos e2, if_pos h, e3]
theorem leadR_mem {L : List (Bytes × Nat)} {s : Bytes} (h : leadR L s ≠ 0) : ∃ r ∈ L, r.2 = leadR L s := by
  unfold leadR at h ⊢
  cases hf : L.find? (fun r => r.1 == s) with
  | none => rw [hf] at h; exact absurd rfl h
  | some r => exact ⟨r, List.mem_of_find?_eq_some hf, rfl⟩
theorem Good.rt {l : Bytes} (h : Good l) : rightB l.length = true := h.1
set_option maxRecDepth 100000 in
theorem rootTells_walk (A : Option Addr) (n c : Nat) (b s : Bytes) (tag : Int) (w : World) (hg : HasType w) (hn : b.length = n) (hnc : n ≤ c) (hrd : Rd w A b) (hs : s.length ≤ 140737488351232) :
    Calls Tryd.prog 6 #[.slice A n c, sv s, .int .i64 tag] w fun e w' => e = .returned (.bool true) ∧ Below w.heap.size w w' := by
  have HG := Hidden.mk hg
  have HLD := Hidden.mk (loaded_ok A n c b w hn hnc hrd)
  have HM := Hidden.mk (loadL_good b)
  generalize loadL b = m at *
  clear hg hn hnc hrd
  have HE : Hidden (getRE m s tag = if isName s = false then 2 else if tag < -1 ∨ 15 < tag then 1 else if leadR (rootsL m) s = 0 then 5 else if 0 ≤ tag ∧ gT m (leadR (rootsL m) s) ≠ tag then 8 else 0) := ⟨rfl⟩
  have HH : Hidden (getRH m s tag = if getRE m s tag = 0 then leadR (rootsL m) s else 0) := ⟨rfl⟩
  have HLEN : Hidden ((rootsL m).length ≤ 8) := ⟨rootsF_len _ _⟩
  have HS := Hidden.mk hs
  go_enter Tryd.func6, Tryd.ntmps6
  go_wp2_with fail
  refine HLD.out.mono ?_
  rintro e w1 ⟨h, F, p, off, c1, rfl, hc1, hp, hr, -⟩
  have HP := Hidden.mk hp
  have HR := Hidden.mk hr
  have HNM := Hidden.mk (refName_any s w1 hs)
  have HGET : Hidden (∀ W, Hp w W F h m → Calls Tryd.prog 40 #[.pointer (some ⟨h, 0, none⟩), sv s, .int .i64 tag] W fun e w' => e = .returned (.tuple #[.int .i64 (getRH m s tag : Int), errV (getRE m s tag)]) ∧ Below W.heap.size W w') := ⟨fun W hW => rget_any s tag hW HM.out HS.out⟩
  have HLEAD := Hidden.mk (refLead_ok p off m.length c1 m s w1 rfl HM.out.rt hc1 hr)
  clear hp hr HLD hs
  generalize getRE m s tag = ge at *
  generalize getRH m s tag = gh at *
  go_wp2_with fail
  refine HNM.out.mono ?_
  rintro e w2 ⟨rfl, rfl⟩
  have HBX := Hidden.mk (Below.refl w1.heap.size w1)
  clear HNM
  cases hnm : isName s with
  | false =>
    have he : ge = 2 := by rw [HE.out, if_pos hnm]
    have hh : gh = 0 := by rw [HH.out, he]; rfl
    clear HE HH HLEAD hnm
    go_wp2_with fail
    refine (HGET.out _ (HP.out.below HBX.out)).mono ?_
    rintro e w7 ⟨rfl, hb7⟩
    have HB7 := Hidden.mk (HBX.out.trans (hb7.mono HBX.out.size))
    have HERR := Hidden.mk (err_any ge ge w7 (HG.out.below HG.out.lt (HP.out.bel.trans (HB7.out.mono HP.out.bel.size))))
    rw [beq_self_eq_true] at HERR
    subst he hh
    clear hb7 HGET HBX
    go_wp2_with fail
    refine HERR.out.mono ?_
    rintro e w8 ⟨rfl, hb8⟩
    have HB8 := Hidden.mk (HB7.out.trans (hb8.mono HB7.out.size))
    have HALL := Hidden.mk (rall_any (HP.out.below HB8.out))
    clear hb8 HERR HB7
    go_wp2_with fail
    refine HALL.out.mono ?_
    rintro e w9 ⟨v9, rfl, hown9, hb9⟩
    obtain ⟨A9, c9, rfl, hc9, -⟩ := own_split hown9
    have HX9 := Hidden.mk (own_rdX3 (f := rcells) (fun _ => rfl) rfl hown9)
    have HB9 := Hidden.mk (HB8.out.trans (hb9.mono HB8.out.size))
    have HRR := Hidden.mk (refRoots_ok p off m.length c1 m w9 rfl HM.out.rt hc1 (HR.out.below HB9.out))
    clear hown9 hb9 HALL HB8
    go_wp2_with fail
    refine HRR.out.mono ?_
    rintro e w10 ⟨v10, rfl, hown10, hb10⟩
    obtain ⟨A10, c10, rfl, hc10, -⟩ := own_split hown10
    have HX10 := Hidden.mk (own_rdX3 (f := rcells) (fun _ => rfl) rfl hown10)
    have HSR := Hidden.mk (sameRoots_eq A9 A10 c9 c10 (rootsL m) w10 (by have := HLEN.out; omega) (HX9.out.below hb10) HX10.out)
    have HB10 := Hidden.mk (HB9.out.trans (hb10.mono HB9.out.size))
    clear hown10 hb10 HRR HB9 HX9 HX10
    go_wp2_with fail
    refine HSR.out.mono ?_
    rintro e w11 ⟨rfl, hb11⟩
    have HB11 := Hidden.mk (HP.out.bel.trans ((HB10.out.trans (hb11.mono HB10.out.size)).mono HP.out.bel.size))
    clear hb11 HSR HB10
    go_wp2_with fail
    go_ret
    exact ⟨rfl, HB11.out⟩
  | true =>
  have HE := Hidden.mk (show ge = if tag < -1 ∨ 15 < tag then 1 else if leadR (rootsL m) s = 0 then 5 else if 0 ≤ tag ∧ gT m (leadR (rootsL m) s) ≠ tag then 8 else 0 by rw [HE.out, if_neg (by rw [hnm]; decide)])
  clear hnm
  by_cases t1 : tag < -1
  · have he : ge = 1 := by rw [HE.out, if_pos (.inl t1)]
    have hh : gh = 0 := by rw [HH.out, he]; rfl
    have d1 : decide (tag < -1) = true := by simpa using t1
    clear HE HH HLEAD t1
    go_wp2_with fail
    refine (HGET.out _ (HP.out.below HBX.out)).mono ?_
    rintro e w7 ⟨rfl, hb7⟩
    have HB7 := Hidden.mk (HBX.out.trans (hb7.mono HBX.out.size))
    have HERR := Hidden.mk (err_any ge ge w7 (HG.out.below HG.out.lt (HP.out.bel.trans (HB7.out.mono HP.out.bel.size))))
    rw [beq_self_eq_true] at HERR
    subst he hh
    clear hb7 HGET HBX
    go_wp2_with fail
    refine HERR.out.mono ?_
    rintro e w8 ⟨rfl, hb8⟩
    have HB8 := Hidden.mk (HB7.out.trans (hb8.mono HB7.out.size))
    have HALL := Hidden.mk (rall_any (HP.out.below HB8.out))
    clear hb8 HERR HB7
    go_wp2_with fail
    refine HALL.out.mono ?_
    rintro e w9 ⟨v9, rfl, hown9, hb9⟩
    obtain ⟨A9, c9, rfl, hc9, -⟩ := own_split hown9
    have HX9 := Hidden.mk (own_rdX3 (f := rcells) (fun _ => rfl) rfl hown9)
    have HB9 := Hidden.mk (HB8.out.trans (hb9.mono HB8.out.size))
    have HRR := Hidden.mk (refRoots_ok p off m.length c1 m w9 rfl HM.out.rt hc1 (HR.out.below HB9.out))
    clear hown9 hb9 HALL HB8
    go_wp2_with fail
    refine HRR.out.mono ?_
    rintro e w10 ⟨v10, rfl, hown10, hb10⟩
    obtain ⟨A10, c10, rfl, hc10, -⟩ := own_split hown10
    have HX10 := Hidden.mk (own_rdX3 (f := rcells) (fun _ => rfl) rfl hown10)
    have HSR := Hidden.mk (sameRoots_eq A9 A10 c9 c10 (rootsL m) w10 (by have := HLEN.out; omega) (HX9.out.below hb10) HX10.out)
    have HB10 := Hidden.mk (HB9.out.trans (hb10.mono HB9.out.size))
    clear hown10 hb10 HRR HB9 HX9 HX10
    go_wp2_with fail
    refine HSR.out.mono ?_
    rintro e w11 ⟨rfl, hb11⟩
    have HB11 := Hidden.mk (HP.out.bel.trans ((HB10.out.trans (hb11.mono HB10.out.size)).mono HP.out.bel.size))
    clear hb11 HSR HB10
    go_wp2_with fail
    go_ret
    exact ⟨rfl, HB11.out⟩
  by_cases t2 : 15 < tag
  · have he : ge = 1 := by rw [HE.out, if_pos (.inr t2)]
    have hh : gh = 0 := by rw [HH.out, he]; rfl
    have d1 : decide (tag < -1) = false := by simpa using t1
    have d2 : decide (15 < tag) = true := by simpa using t2
    clear HE HH HLEAD t1 t2
    go_wp2_with fail
    refine (HGET.out _ (HP.out.below HBX.out)).mono ?_
    rintro e w7 ⟨rfl, hb7⟩
    have HB7 := Hidden.mk (HBX.out.trans (hb7.mono HBX.out.size))
    have HERR := Hidden.mk (err_any ge ge w7 (HG.out.below HG.out.lt (HP.out.bel.trans (HB7.out.mono HP.out.bel.size))))
    rw [beq_self_eq_true] at HERR
    subst he hh
    clear hb7 HGET HBX
    go_wp2_with fail
    refine HERR.out.mono ?_
    rintro e w8 ⟨rfl, hb8⟩
    have HB8 := Hidden.mk (HB7.out.trans (hb8.mono HB7.out.size))
    have HALL := Hidden.mk (rall_any (HP.out.below HB8.out))
    clear hb8 HERR HB7
    go_wp2_with fail
    refine HALL.out.mono ?_
    rintro e w9 ⟨v9, rfl, hown9, hb9⟩
    obtain ⟨A9, c9, rfl, hc9, -⟩ := own_split hown9
    have HX9 := Hidden.mk (own_rdX3 (f := rcells) (fun _ => rfl) rfl hown9)
    have HB9 := Hidden.mk (HB8.out.trans (hb9.mono HB8.out.size))
    have HRR := Hidden.mk (refRoots_ok p off m.length c1 m w9 rfl HM.out.rt hc1 (HR.out.below HB9.out))
    clear hown9 hb9 HALL HB8
    go_wp2_with fail
    refine HRR.out.mono ?_
    rintro e w10 ⟨v10, rfl, hown10, hb10⟩
    obtain ⟨A10, c10, rfl, hc10, -⟩ := own_split hown10
    have HX10 := Hidden.mk (own_rdX3 (f := rcells) (fun _ => rfl) rfl hown10)
    have HSR := Hidden.mk (sameRoots_eq A9 A10 c9 c10 (rootsL m) w10 (by have := HLEN.out; omega) (HX9.out.below hb10) HX10.out)
    have HB10 := Hidden.mk (HB9.out.trans (hb10.mono HB9.out.size))
    clear hown10 hb10 HRR HB9 HX9 HX10
    go_wp2_with fail
    refine HSR.out.mono ?_
    rintro e w11 ⟨rfl, hb11⟩
    have HB11 := Hidden.mk (HP.out.bel.trans ((HB10.out.trans (hb11.mono HB10.out.size)).mono HP.out.bel.size))
    clear hb11 HSR HB10
    go_wp2_with fail
    go_ret
    exact ⟨rfl, HB11.out⟩
  have d1 : decide (tag < -1) = false := by simpa using t1
  have d2 : decide (15 < tag) = false := by simpa using t2
  have HE := Hidden.mk (show ge = if leadR (rootsL m) s = 0 then 5 else if 0 ≤ tag ∧ gT m (leadR (rootsL m) s) ≠ tag then 8 else 0 by rw [HE.out, if_neg (by omega)])
  clear t1 t2 HBX
  go_wp2_with fail
  refine HLEAD.out.mono ?_
  rintro e w3 ⟨rfl, hb3⟩
  have HBX := Hidden.mk hb3
  clear hb3 HLEAD d1 d2
  have HLR : Hidden (leadR (rootsL m) s ≠ 0 → 1 ≤ leadR (rootsL m) s ∧ leadR (rootsL m) s ≤ 40 ∧ hE m (leadR (rootsL m) s) = 0) := ⟨fun h => by
    obtain ⟨r, h1, h2⟩ := leadR_mem h
    rw [← h2]; exact good_roots HM.out h1⟩
  generalize leadR (rootsL m) s = ld at *
  by_cases hl0 : ld = 0
  · have he : ge = 5 := by rw [HE.out, if_pos hl0]
    have hh : gh = 0 := by rw [HH.out, he]; rfl
    subst hl0
    rw [show ((0 : Nat) : Int) = 0 from rfl]
    clear HE HH HLR
    go_wp2_with fail
    refine (HGET.out _ (HP.out.below HBX.out)).mono ?_
    rintro e w7 ⟨rfl, hb7⟩
    have HB7 := Hidden.mk (HBX.out.trans (hb7.mono HBX.out.size))
    have HERR := Hidden.mk (err_any ge ge w7 (HG.out.below HG.out.lt (HP.out.bel.trans (HB7.out.mono HP.out.bel.size))))
    rw [beq_self_eq_true] at HERR
    subst he hh
    clear hb7 HGET HBX
    go_wp2_with fail
    refine HERR.out.mono ?_
    rintro e w8 ⟨rfl, hb8⟩
    have HB8 := Hidden.mk (HB7.out.trans (hb8.mono HB7.out.size))
    have HALL := Hidden.mk (rall_any (HP.out.below HB8.out))
    clear hb8 HERR HB7
    go_wp2_with fail
    refine HALL.out.mono ?_
    rintro e w9 ⟨v9, rfl, hown9, hb9⟩
    obtain ⟨A9, c9, rfl, hc9, -⟩ := own_split hown9
    have HX9 := Hidden.mk (own_rdX3 (f := rcells) (fun _ => rfl) rfl hown9)
    have HB9 := Hidden.mk (HB8.out.trans (hb9.mono HB8.out.size))
    have HRR := Hidden.mk (refRoots_ok p off m.length c1 m w9 rfl HM.out.rt hc1 (HR.out.below HB9.out))
    clear hown9 hb9 HALL HB8
    go_wp2_with fail
    refine HRR.out.mono ?_
    rintro e w10 ⟨v10, rfl, hown10, hb10⟩
    obtain ⟨A10, c10, rfl, hc10, -⟩ := own_split hown10
    have HX10 := Hidden.mk (own_rdX3 (f := rcells) (fun _ => rfl) rfl hown10)
    have HSR := Hidden.mk (sameRoots_eq A9 A10 c9 c10 (rootsL m) w10 (by have := HLEN.out; omega) (HX9.out.below hb10) HX10.out)
    have HB10 := Hidden.mk (HB9.out.trans (hb10.mono HB9.out.size))
    clear hown10 hb10 HRR HB9 HX9 HX10
    go_wp2_with fail
    refine HSR.out.mono ?_
    rintro e w11 ⟨rfl, hb11⟩
    have HB11 := Hidden.mk (HP.out.bel.trans ((HB10.out.trans (hb11.mono HB10.out.size)).mono HP.out.bel.size))
    clear hb11 HSR HB10
    go_wp2_with fail
    go_ret
    exact ⟨rfl, HB11.out⟩
  obtain ⟨l1, l2, l3⟩ := HLR.out hl0
  have HE := Hidden.mk (show ge = if 0 ≤ tag ∧ gT m ld ≠ tag then 8 else 0 by rw [HE.out, if_neg hl0])
  obtain ⟨k, rfl⟩ : ∃ k, ld = k + 1 := ⟨ld - 1, by omega⟩
  have c0 : (((k : Int) + 1) == 0) = false := by simp; omega
  have HOB := Hidden.mk (refObj_ok p off m.length c1 m k w3 rfl HM.out hc1 (HR.out.below HBX.out) (by omega))
  rw [show ((k + 1 : Nat) : Int) = (k : Int) + 1 from rfl] at *
  rw [objT_gT l3] at HOB
  generalize gT m ((k : Int) + 1) = gt at *
  generalize objS m k = os at *
  clear HLR hl0 l1 l2 l3
  go_wp2_with fail
  refine HOB.out.mono ?_
  rintro e w4 ⟨rfl, hb4⟩
  have HBX := Hidden.mk (HBX.out.trans (hb4.mono HBX.out.size))
  clear hb4 HOB c0
  by_cases t1 : 0 ≤ tag
  · have d1 : decide (0 ≤ tag) = true := by simpa using t1
    by_cases t2 : gt = tag
    · have he : ge = 0 := by rw [HE.out, if_neg (by omega)]
      have hh : gh = k + 1 := by rw [HH.out, he]; rfl
      have d2 : (gt == tag) = true := by simpa using t2
      have d3 : (gt != tag) = false := by simpa using t2
      clear HE HH t1 t2
      go_wp2_with fail
      refine (HGET.out _ (HP.out.below HBX.out)).mono ?_
      rintro e w7 ⟨rfl, hb7⟩
      have HB7 := Hidden.mk (HBX.out.trans (hb7.mono HBX.out.size))
      have HERR := Hidden.mk (err_any ge ge w7 (HG.out.below HG.out.lt (HP.out.bel.trans (HB7.out.mono HP.out.bel.size))))
      rw [beq_self_eq_true] at HERR
      subst he hh
      clear hb7 HGET HBX
      go_wp2_with fail
      refine HERR.out.mono ?_
      rintro e w8 ⟨rfl, hb8⟩
      have HB8 := Hidden.mk (HB7.out.trans (hb8.mono HB7.out.size))
      have HALL := Hidden.mk (rall_any (HP.out.below HB8.out))
      clear hb8 HERR HB7
      go_wp2_with fail
      refine HALL.out.mono ?_
      rintro e w9 ⟨v9, rfl, hown9, hb9⟩
      obtain ⟨A9, c9, rfl, hc9, -⟩ := own_split hown9
      have HX9 := Hidden.mk (own_rdX3 (f := rcells) (fun _ => rfl) rfl hown9)
      have HB9 := Hidden.mk (HB8.out.trans (hb9.mono HB8.out.size))
      have HRR := Hidden.mk (refRoots_ok p off m.length c1 m w9 rfl HM.out.rt hc1 (HR.out.below HB9.out))
      clear hown9 hb9 HALL HB8
      go_wp2_with fail
      refine HRR.out.mono ?_
      rintro e w10 ⟨v10, rfl, hown10, hb10⟩
      obtain ⟨A10, c10, rfl, hc10, -⟩ := own_split hown10
      have HX10 := Hidden.mk (own_rdX3 (f := rcells) (fun _ => rfl) rfl hown10)
      have HSR := Hidden.mk (sameRoots_eq A9 A10 c9 c10 (rootsL m) w10 (by have := HLEN.out; omega) (HX9.out.below hb10) HX10.out)
      have HB10 := Hidden.mk (HB9.out.trans (hb10.mono HB9.out.size))
      clear hown10 hb10 HRR HB9 HX9 HX10
      go_wp2_with fail
      refine HSR.out.mono ?_
      rintro e w11 ⟨rfl, hb11⟩
      have HB11 := Hidden.mk (HP.out.bel.trans ((HB10.out.trans (hb11.mono HB10.out.size)).mono HP.out.bel.size))
      clear hb11 HSR HB10
      go_wp2_with fail
      go_ret
      exact ⟨rfl, HB11.out⟩
    · have he : ge = 8 := by rw [HE.out, if_pos ⟨t1, t2⟩]
      have hh : gh = 0 := by rw [HH.out, he]; rfl
      have d2 : (gt == tag) = false := by simpa using t2
      have d3 : (gt != tag) = true := by simpa using t2
      clear HE HH t1 t2
      go_wp2_with fail
      refine (HGET.out _ (HP.out.below HBX.out)).mono ?_
      rintro e w7 ⟨rfl, hb7⟩
      have HB7 := Hidden.mk (HBX.out.trans (hb7.mono HBX.out.size))
      have HERR := Hidden.mk (err_any ge ge w7 (HG.out.below HG.out.lt (HP.out.bel.trans (HB7.out.mono HP.out.bel.size))))
      rw [beq_self_eq_true] at HERR
      subst he hh
      clear hb7 HGET HBX
      go_wp2_with fail
      refine HERR.out.mono ?_
      rintro e w8 ⟨rfl, hb8⟩
      have HB8 := Hidden.mk (HB7.out.trans (hb8.mono HB7.out.size))
      have HALL := Hidden.mk (rall_any (HP.out.below HB8.out))
      clear hb8 HERR HB7
      go_wp2_with fail
      refine HALL.out.mono ?_
      rintro e w9 ⟨v9, rfl, hown9, hb9⟩
      obtain ⟨A9, c9, rfl, hc9, -⟩ := own_split hown9
      have HX9 := Hidden.mk (own_rdX3 (f := rcells) (fun _ => rfl) rfl hown9)
      have HB9 := Hidden.mk (HB8.out.trans (hb9.mono HB8.out.size))
      have HRR := Hidden.mk (refRoots_ok p off m.length c1 m w9 rfl HM.out.rt hc1 (HR.out.below HB9.out))
      clear hown9 hb9 HALL HB8
      go_wp2_with fail
      refine HRR.out.mono ?_
      rintro e w10 ⟨v10, rfl, hown10, hb10⟩
      obtain ⟨A10, c10, rfl, hc10, -⟩ := own_split hown10
      have HX10 := Hidden.mk (own_rdX3 (f := rcells) (fun _ => rfl) rfl hown10)
      have HSR := Hidden.mk (sameRoots_eq A9 A10 c9 c10 (rootsL m) w10 (by have := HLEN.out; omega) (HX9.out.below hb10) HX10.out)
      have HB10 := Hidden.mk (HB9.out.trans (hb10.mono HB9.out.size))
      clear hown10 hb10 HRR HB9 HX9 HX10
      go_wp2_with fail
      refine HSR.out.mono ?_
      rintro e w11 ⟨rfl, hb11⟩
      have HB11 := Hidden.mk (HP.out.bel.trans ((HB10.out.trans (hb11.mono HB10.out.size)).mono HP.out.bel.size))
      clear hb11 HSR HB10
      go_wp2_with fail
      go_ret
      exact ⟨rfl, HB11.out⟩
  · have d1 : decide (0 ≤ tag) = false := by simpa using t1
    have he : ge = 0 := by rw [HE.out, if_neg (fun h => t1 h.1)]
    have hh : gh = k + 1 := by rw [HH.out, he]; rfl
    clear HE HH t1
    go_wp2_with fail
    refine (HGET.out _ (HP.out.below HBX.out)).mono ?_
    rintro e w7 ⟨rfl, hb7⟩
    have HB7 := Hidden.mk (HBX.out.trans (hb7.mono HBX.out.size))
    have HERR := Hidden.mk (err_any ge ge w7 (HG.out.below HG.out.lt (HP.out.bel.trans (HB7.out.mono HP.out.bel.size))))
    rw [beq_self_eq_true] at HERR
    subst he hh
    clear hb7 HGET HBX
    go_wp2_with fail
    refine HERR.out.mono ?_
    rintro e w8 ⟨rfl, hb8⟩
    have HB8 := Hidden.mk (HB7.out.trans (hb8.mono HB7.out.size))
    have HALL := Hidden.mk (rall_any (HP.out.below HB8.out))
    clear hb8 HERR HB7
    go_wp2_with fail
    refine HALL.out.mono ?_
    rintro e w9 ⟨v9, rfl, hown9, hb9⟩
    obtain ⟨A9, c9, rfl, hc9, -⟩ := own_split hown9
    have HX9 := Hidden.mk (own_rdX3 (f := rcells) (fun _ => rfl) rfl hown9)
    have HB9 := Hidden.mk (HB8.out.trans (hb9.mono HB8.out.size))
    have HRR := Hidden.mk (refRoots_ok p off m.length c1 m w9 rfl HM.out.rt hc1 (HR.out.below HB9.out))
    clear hown9 hb9 HALL HB8
    go_wp2_with fail
    refine HRR.out.mono ?_
    rintro e w10 ⟨v10, rfl, hown10, hb10⟩
    obtain ⟨A10, c10, rfl, hc10, -⟩ := own_split hown10
    have HX10 := Hidden.mk (own_rdX3 (f := rcells) (fun _ => rfl) rfl hown10)
    have HSR := Hidden.mk (sameRoots_eq A9 A10 c9 c10 (rootsL m) w10 (by have := HLEN.out; omega) (HX9.out.below hb10) HX10.out)
    have HB10 := Hidden.mk (HB9.out.trans (hb10.mono HB9.out.size))
    clear hown10 hb10 HRR HB9 HX9 HX10
    go_wp2_with fail
    refine HSR.out.mono ?_
    rintro e w11 ⟨rfl, hb11⟩
    have HB11 := Hidden.mk (HP.out.bel.trans ((HB10.out.trans (hb11.mono HB10.out.size)).mono HP.out.bel.size))
    clear hb11 HSR HB10
    go_wp2_with fail
    go_ret
    exact ⟨rfl, HB11.out⟩
end Go.Proofs.YthlflklamgdkfaaDoor
