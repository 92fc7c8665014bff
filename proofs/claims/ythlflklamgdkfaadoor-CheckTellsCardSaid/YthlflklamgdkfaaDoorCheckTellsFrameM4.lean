/- Contracts and plain laws, put together: RefC3, RefI5, Root1, MapI, SameP, SameR, Same2, DiffA, DiffA1, Same3, Same4, Told, Told2, Told3, CheckTells1. -/
import Derived.Test.YthlflklamgdkfaaDoorCheckTellsFrameM3
import Derived.Test.YthlflklamgdkfaaDoorCheckTellsFrameM2
import Derived.Deep.RegionHeld3
import Derived.Test.YthlflklamgdkfaaDoorCheckTellsFrameM1
import Derived.Maps.Own
import Derived.Maps.OwnSet
import Derived.Maps.RangeWalk
import Derived.Deep.LoopGhost
import Derived.LaidEql
import Derived.Stop.Asserts
import Derived.RowKitTokens
/- The reference's Fine and Mend; an image that is loaded. -/
namespace Go.Proofs.YthlflklamgdkfaaDoor
open Go.RowKit

def fineE (l : Bytes) : Nat := if rightB l.length = false then 3 else if checkL l = [] then 0 else 6
theorem refFine_no (A : Option Addr) (n c : Nat) (w : World) (hr : rightB n = false) :
    Calls Tryd.prog 20 #[.slice A n c] w fun e w' => e = .returned (.int .i64 3) ∧ w = w' := by
  go_enter Tryd.func20, Tryd.ntmps20
  go_wp2_with fail
  refine (ref_right_any _ _).mono ?_
  rintro e w1 ⟨rfl, rfl⟩
  rw [hr]
  go_wp2_with fail
  go_ret
  exact ⟨rfl, rfl⟩
theorem refFine_yes (A : Option Addr) (n c : Nat) (l : Bytes) (w : World) (hn : l.length = n) (hr : rightB n = true) (hnc : n ≤ c) (hrd : Rd w A l) :
    Calls Tryd.prog 20 #[.slice A n c] w fun e w' => e = .returned (.int .i64 (fineE l : Int)) ∧ Below w.heap.size w w' := by
  have HC := Hidden.mk (refCheck_ok A n c l w hn hr hnc hrd)
  have HF : Hidden (fineE l = if checkL l = [] then 0 else 6) := ⟨by unfold fineE; rw [hn, if_neg (by rw [hr]; decide)]⟩
  have h48 := checkL_len l
  generalize checkL l = F at *
  generalize fineE l = fe at *
  clear hn hrd
  go_enter Tryd.func20, Tryd.ntmps20
  go_wp2_with fail
  refine (ref_right_any _ _).mono ?_
  rintro e w1 ⟨rfl, rfl⟩
  rw [hr]
  go_wp2_with fail
  refine HC.out.mono ?_
  rintro e w1 ⟨v, rfl, hown, hb⟩
  obtain ⟨A1, c1, rfl, -, -⟩ := Src.of_own hown
  have HB := Hidden.mk hb
  clear hown hb HC
  by_cases h0 : F = []
  · have hfe : fe = 0 := by rw [HF.out, if_pos h0]
    subst hfe h0
    clear HF
    go_wp2_with fail
    go_ret
    exact ⟨rfl, HB.out⟩
  · have hfe : fe = 6 := by rw [HF.out, if_neg h0]
    have hl := List.length_pos_iff.2 h0
    have t1 : decide (0 < F.length) = true := by simpa using hl
    subst hfe
    clear HF h0 hl
    go_wp2_with fail
    go_ret
    exact ⟨rfl, HB.out⟩
set_option maxRecDepth 100000 in
theorem refMend_ok (p off n c : Nat) (l : Bytes) (w : World) (hn : l.length = n) (hr : rightB n = true) (hnc : n ≤ c) (hrd : Rd w (some ⟨p, off, none⟩) l) :
    Calls Tryd.prog 15 #[.slice (some ⟨p, off, none⟩) n c] w fun e w' => ∃ p' off' c', e = .returned (.slice (some ⟨p', off', none⟩) n c') ∧ n ≤ c' ∧ Rd w' (some ⟨p', off', none⟩) (mendL l) ∧ Below w.heap.size w w' := by
  have hnb := rightB_true.1 hr
  have HM : Hidden (mendL l = clearAll l (checkL l)) := ⟨rfl⟩
  have HID : Hidden (checkL l = [] → mendL l = l) := ⟨mend_id⟩
  have HCLEAN : Hidden (checkL (mendL l) = []) := ⟨mend_clean (by omega)⟩
  have HML : Hidden ((mendL l).length = n) := ⟨by rw [mendL_len (by omega), hn]⟩
  have HN := Hidden.mk hn
  have HIN : Hidden (∀ f ∈ checkL l, FltIn l.length f) := ⟨fun _ hf => flt_in (by omega) hf⟩
  have HRG : Hidden (∀ f ∈ checkL l, ((f.what = 4 ∨ f.what = 5) ∧ f.which < 8) ∨ (f.what ≠ 4 ∧ f.what ≠ 5 ∧ 1 ≤ f.which ∧ f.which ≤ 40)) := ⟨fun _ hf => flt_range hf⟩
  have HW3 : Hidden (∀ f ∈ checkL l, f.what ≤ 5) := ⟨fun f hf => by
    rcases mem_checkL.1 hf with ⟨k, _, hk, rfl⟩ | ⟨k, _, hk, rfl⟩
    · have := kindH_cases l.length (rawE l) k; dsimp only; omega
    · have := kindR_cases (leadsE l.length (rawE l)) (rawR l) k; dsimp only; omega⟩
  have hcl48 := checkL_len l
  have HRD := Hidden.mk hrd
  clear hn hrd
  go_enter Tryd.func15, Tryd.ntmps15
  go_wp2_with fail
  go_loopg [0] 2 (fun k b wr => ∃ (lb : Bytes) (p off c : Nat), b = .slice (some ⟨p, off, none⟩) n c ∧ n ≤ c ∧ Hidden (Below w.heap.size w wr ∧ Rd wr (some ⟨p, off, none⟩) lb ∧ ((k = 2 ∧ lb = l) ∨ (k = 1 ∧ lb = mendL l))))
  case atStart => exact ⟨l, p, off, c, rfl, hnc, ⟨Below.refl _ _, HRD.out, .inl ⟨rfl, rfl⟩⟩⟩
  case round =>
    obtain ⟨lb, p, off, c, rfl, hnc, hst⟩ := hrel
    have HLB : Hidden (lb.length = n) := ⟨by rcases hst.out.2.2 with ⟨_, rfl⟩ | ⟨_, rfl⟩; exact HN.out; exact HML.out⟩
    have HFIN : Hidden (checkL lb = [] → lb = mendL l) := ⟨fun h0 => by rcases hst.out.2.2 with ⟨_, rfl⟩ | ⟨_, rfl⟩; exact (HID.out h0).symm; rfl⟩
    have HFIRST : Hidden (checkL lb ≠ [] → gk = 2 ∧ lb = l) := ⟨fun h0 => by rcases hst.out.2.2 with h | ⟨_, rfl⟩; exact h; exact absurd HCLEAN.out h0⟩
    have HCK := Hidden.mk (refCheck_ok (some ⟨p, off, none⟩) n c lb wr HLB.out hr hnc hst.out.2.1)
    have HS0 := Hidden.mk (And.intro hst.out.1 hst.out.2.1)
    clear hst
    go_wp2_with fail
    refine HCK.out.mono ?_
    rintro e w2 ⟨v, rfl, hown, hb2⟩
    have HS2 := Hidden.mk (And.intro (HS0.out.1.trans (hb2.mono HS0.out.1.size)) (HS0.out.2.below hb2))
    obtain ⟨Af, cf, rfl, hcf, hrf⟩ := own_rdFs hown
    have HRF := Hidden.mk hrf
    obtain ⟨F, hFF⟩ : ∃ F, checkL lb = F := ⟨_, rfl⟩
    rw [hFF] at HRF hcf
    rw [hFF]
    have HFF := Hidden.mk hFF
    clear hFF hown hb2 hrf HS0 HCK
    by_cases hF : F = []
    · subst hF
      have hfin := HFIN.out HFF.out
      subst hfin
      have HR := HS2
      clear HS2
      go_wp2_with fail
      go_ret
      exact ⟨p, off, c, rfl, hnc, HR.out.2, HR.out.1⟩
    · have hfi := HFIRST.out (by rw [HFF.out]; exact hF)
      obtain ⟨rfl, rfl⟩ := hfi
      have hl48 : F.length ≤ 48 := by rw [← HFF.out]; exact hcl48
      have hne : 0 < F.length := List.length_pos_iff.2 hF
      have t1 : (F.length == 0) = false := by simp; omega
      have t1' : ((F.length : Int) == 0) = false := by simp; omega
      clear hF hcl48 hcf HFIN HFIRST
      go_wp2_with fail
      clear t1 t1'
      go_loopg [0, 4] F.length (fun q b i wr => ∃ (j p off c : Nat), j ≤ F.length ∧ q = F.length - j ∧ i = .int .i64 (j : Int) ∧ b = .slice (some ⟨p, off, none⟩) n c ∧ n ≤ c ∧ Hidden (Below w.heap.size w wr ∧ Below w2.heap.size w2 wr ∧ Rd wr (some ⟨p, off, none⟩) (clearAll lb (F.take j))))
      case atStart => exact ⟨0, p, off, c, by omega, rfl, rfl, rfl, hnc, ⟨HS2.out.1, Below.refl _ _, HS2.out.2⟩⟩
      case round =>
        obtain ⟨j, p, off, c, hj, rfl, rfl, rfl, hnc, hst⟩ := hrel
        by_cases hlt : j < F.length
        · obtain ⟨gf, of, rfl, c0, c1⟩ := (HRF.out.below hst.out.2.1) j hlt
          have HCL : Hidden (clearAll lb (F.take (j + 1)) = clearF (clearAll lb (F.take j)) F[j]) := ⟨clearAll_snoc lb F j hlt⟩
          have HLJ : Hidden ((clearAll lb (F.take j)).length = n) := ⟨by rw [clearAll_len _ _ (fun f hf => HIN.out f (by rw [HFF.out]; exact List.mem_of_mem_take hf)), HN.out]⟩
          have hrg := HRG.out F[j] (by rw [HFF.out]; exact List.getElem_mem hlt)
          have hw5 := HW3.out F[j] (by rw [HFF.out]; exact List.getElem_mem hlt)
          have i0 : (0 : Int) ≤ j := by omega
          have i1 : (j : Int) < F.length := by omega
          have s1 : IntKind.i64.wrap ((j : Int) + 1) = (j : Int) + 1 := IntWalk.i64_in _ (by omega)
          generalize F[j] = f at *
          obtain ⟨what, which⟩ := f
          dsimp only at *
          by_cases h4 : 3 < what
          · have hw8 : which < 8 := by omega
            have hEQ : clearF (clearAll lb (F.take j)) ⟨what, which⟩ = splice (clearAll lb (F.take j)) (200 + 11 * which) (List.replicate 11 0) := by
              have : what = 4 ∨ what = 5 := by omega
              simp [clearF, fltO, fltN, this]
            have d1 : decide (3 < what) = true := by simpa using h4
            have d2 : decide ((3 : Int) < (what : Int)) = true := by simp; omega
            have s2 : IntKind.i64.wrap (11 * (which : Int)) = 11 * (which : Int) := IntWalk.i64_in _ (by omega)
            have s3 : IntKind.i64.wrap (200 + 11 * (which : Int)) = ((200 + 11 * which : Nat) : Int) := by rw [IntWalk.i64_in _ (by omega)]; omega
            have HWP := Hidden.mk (refWipe_ok p off n c _ (200 + 11 * which) 11 wr HLJ.out (by omega) (by omega) (by omega) hst.out.2.2)
            rw [← hEQ, ← HCL.out] at HWP
            rw [show ((11 : Nat) : Int) = 11 from rfl] at HWP
            generalize 200 + 11 * which = oo at *
            clear hEQ h4 hrg hw5 HCL HLJ
            go_wp2_with fail
            refine HWP.out.mono ?_
            rintro e w4 ⟨g4, c4, rfl, hg4, hc4, hrow4, hb4⟩
            have HN2 := Hidden.mk (And.intro (hst.out.1.trans (hb4.mono hst.out.1.size)) (And.intro (hst.out.2.1.trans (hb4.mono hst.out.2.1.size)) hrow4.rd))
            clear hst hrow4 hb4 HWP c0 c1
            go_wp2_with fail
            go_roundg (F.length - (j + 1))
            case measure => omega
            case rel => exact ⟨j + 1, g4, 0, c4, by omega, rfl, by go_num, rfl, hc4, HN2⟩
          · obtain ⟨m, rfl⟩ : ∃ m, which = m + 1 := ⟨which - 1, by omega⟩
            have hw8 : m < 40 := by omega
            have hEQ : clearF (clearAll lb (F.take j)) ⟨what, m + 1⟩ = splice (clearAll lb (F.take j)) (5 * m) (List.replicate 5 0) := by
              have h1 : ¬ what = 4 := by omega
              have h2 : ¬ what = 5 := by omega
              simp [clearF, fltO, fltN, h1, h2]
            have d1 : decide (3 < what) = false := by simpa using h4
            have d2 : decide ((3 : Int) < (what : Int)) = false := by simp; omega
            have s2 : IntKind.i64.wrap (((m + 1 : Nat) : Int) - 1) = (m : Int) := by rw [IntWalk.i64_in _ (by omega)]; omega
            have s2' : IntKind.i64.wrap ((m : Int) + 1 - 1) = (m : Int) := by rw [IntWalk.i64_in _ (by omega)]; omega
            have s2'' : IntKind.i64.wrap (m : Int) = (m : Int) := IntWalk.i64_in _ (by omega)
            have s3 : IntKind.i64.wrap (5 * (m : Int)) = ((5 * m : Nat) : Int) := by rw [IntWalk.i64_in _ (by omega)]; omega
            have HWP := Hidden.mk (refWipe_ok p off n c _ (5 * m) 5 wr HLJ.out (by omega) (by omega) (by omega) hst.out.2.2)
            rw [← hEQ, ← HCL.out] at HWP
            rw [show ((5 : Nat) : Int) = 5 from rfl] at HWP
            generalize 5 * m = oo at *
            clear hEQ h4 hrg hw5 HCL HLJ
            go_wp2_with fail
            refine HWP.out.mono ?_
            rintro e w4 ⟨g4, c4, rfl, hg4, hc4, hrow4, hb4⟩
            have HN2 := Hidden.mk (And.intro (hst.out.1.trans (hb4.mono hst.out.1.size)) (And.intro (hst.out.2.1.trans (hb4.mono hst.out.2.1.size)) hrow4.rd))
            clear hst hrow4 hb4 HWP c0 c1
            go_wp2_with fail
            go_roundg (F.length - (j + 1))
            case measure => omega
            case rel => exact ⟨j + 1, g4, 0, c4, by omega, rfl, by go_num, rfl, hc4, HN2⟩
        · obtain rfl : j = F.length := by omega
          have hend : clearAll lb (F.take F.length) = mendL lb := by rw [List.take_of_length_le (Nat.le_refl _), HM.out, HFF.out]
          have HE := Hidden.mk (And.intro hst.out.1 (hend ▸ hst.out.2.2))
          have j1 : decide (((F.length : Nat) : Int) < F.length) = false := by simp
          clear hst hend
          go_wp2_with fail
          go_roundg 1
          case measure => omega
          case rel => exact ⟨_, p, off, c, rfl, hnc, ⟨HE.out.1, HE.out.2, .inr ⟨rfl, rfl⟩⟩⟩
/-- an image, mended ahead; of none an empty one -/
def loadL (b : Bytes) : Bytes := if rightB b.length = true then mendL b else List.replicate 320 0
theorem loadL_good (b : Bytes) : Good (loadL b) := by
  unfold loadL
  by_cases hr : rightB b.length = true
  · rw [if_pos hr]
    have := rightB_true.1 hr
    exact ⟨by rw [mendL_len (by omega)]; exact hr, mend_clean (by omega)⟩
  · rw [if_neg hr]; exact good_zero' rfl
set_option maxRecDepth 100000 in
theorem loaded_ok (A : Option Addr) (n c : Nat) (b : Bytes) (w : World) (hn : b.length = n) (hnc : n ≤ c) (hrd : Rd w A b) :
    Calls Tryd.prog 36 #[.slice A n c] w fun e w' => ∃ h F p off c', e = .returned (.tuple #[.pointer (some ⟨h, 0, none⟩), .slice (some ⟨p, off, none⟩) (loadL b).length c']) ∧ (loadL b).length ≤ c' ∧ Hp w w' F h (loadL b) ∧ Rd w' (some ⟨p, off, none⟩) (loadL b) ∧ ¬ F p := by
  have hG := loadL_good b
  have HG := Hidden.mk hG
  cases hr : rightB n with
  | true =>
    have hnb := rightB_true.1 hr
    obtain ⟨p, off, rfl, hpl⟩ := hrd.lt (by omega)
    have HM := Hidden.mk (refMend_ok p off n c b w hn hr hnc hrd)
    have hl : loadL b = mendL b := by unfold loadL; rw [hn, if_pos hr]
    have hln : (loadL b).length = n := by rw [hl, mendL_len (by omega)]; exact hn
    rw [← hl] at HM
    have HLN := Hidden.mk hln
    generalize loadL b = m at *
    clear hl hln hrd hn hG
    go_enter Tryd.func36, Tryd.ntmps36
    go_wp2_with fail
    refine (ref_right_any _ _).mono ?_
    rintro e w1 ⟨rfl, rfl⟩
    rw [hr]
    go_wp2_with fail
    refine HM.out.mono ?_
    rintro e w1 ⟨p1, o1, c1, rfl, hc1, hr1, hb1⟩
    have HL := Hidden.mk (hload_ok (some ⟨p1, o1, none⟩) n c1 m w w1 HLN.out HG.out hc1 hr1 hb1)
    have hp1 := hr1.lt (by rw [HLN.out]; omega)
    have HR := Hidden.mk hr1
    clear hr1 hb1 HM
    go_wp2_with fail
    refine HL.out.mono ?_
    rintro e w2 ⟨h, F, rfl, hp, hb2, hF⟩
    have HE : Hidden (Hp w w2 F h m ∧ Rd w2 (some ⟨p1, o1, none⟩) m ∧ ¬ F p1) := ⟨hp, HR.out.below hb2, fun hk => by
      obtain ⟨q, oq, hq, hlt⟩ := hp1
      have hq := Option.some.inj hq
      injection hq with hq
      have := hF _ hk
      omega⟩
    clear hp hb2 hF HL HR hp1
    go_wp2_with fail
    go_ret2
    exact ⟨h, F, p1, o1, c1, by rw [HLN.out]; rfl, by rw [HLN.out]; exact hc1, HE.out⟩
  | false =>
    have hl : loadL b = List.replicate 320 0 := by unfold loadL; rw [hn, if_neg (by rw [hr]; decide)]
    have hmk := mk_bytes 320 320 (by omega) (by omega) w
    have hrow := row_zeros w 320 (by simp only [maxLen]; omega)
    have hm0 : mendL (List.replicate 320 0) = List.replicate 320 0 := mend_id (good_zero' (n := 320) rfl).chk
    have HM := Hidden.mk (refMend_ok w.heap.size 0 320 320 (List.replicate 320 0) (w.alloc (.cells (zeroRow 320) 5)) (by simp) rfl (by omega) hrow.rd)
    rw [hm0] at HM
    have HAL := Hidden.mk ((Below.refl w.heap.size w).alloc (Nat.le_refl _) (.cells (zeroRow 320) 5))
    have hg0 := HG.out
    rw [hl] at hg0 ⊢
    have HG0 := Hidden.mk hg0
    have HLN : Hidden ((List.replicate 320 (0 : UInt8)).length = 320) := ⟨by simp⟩
    generalize List.replicate 320 (0 : UInt8) = m at *
    clear hl hrd hn hG HG hg0 hrow hm0
    go_enter Tryd.func36, Tryd.ntmps36
    go_wp2_with fail
    refine (ref_right_any _ _).mono ?_
    rintro e w1 ⟨rfl, rfl⟩
    rw [hr]
    go_wp2_with fail
    clear hmk
    refine HM.out.mono ?_
    rintro e w1 ⟨p1, o1, c1, rfl, hc1, hr1, hb1⟩
    have HL := Hidden.mk (hload_ok (some ⟨p1, o1, none⟩) 320 c1 m w w1 HLN.out HG0.out hc1 hr1 (HAL.out.trans (hb1.mono HAL.out.size)))
    have hp1 := hr1.lt (by rw [HLN.out]; omega)
    have HR := Hidden.mk hr1
    clear hr1 hb1 HM
    go_wp2_with fail
    refine HL.out.mono ?_
    rintro e w2 ⟨h, F, rfl, hp, hb2, hF⟩
    have HE : Hidden (Hp w w2 F h m ∧ Rd w2 (some ⟨p1, o1, none⟩) m ∧ ¬ F p1) := ⟨hp, HR.out.below hb2, fun hk => by
      obtain ⟨q, oq, hq, hlt⟩ := hp1
      have hq := Option.some.inj hq
      injection hq with hq
      have := hF _ hk
      omega⟩
    clear hp hb2 hF HL HR hp1
    go_wp2_with fail
    go_ret2
    exact ⟨h, F, p1, o1, c1, by rw [HLN.out]; rfl, by rw [HLN.out]; exact hc1, HE.out⟩
end Go.Proofs.YthlflklamgdkfaaDoor
/- The reference on images: PutRoot. -/
namespace Go.Proofs.YthlflklamgdkfaaDoor
open Go.RowKit

/-- the fault of a root that is put -/
def rootE (i : Int) (s : Bytes) (h : Int) : Nat := if i < 0 ∨ 8 ≤ i then 1 else if s = [] ∧ h = 0 then 0 else if handleB h = false then 1 else if isName s = false then 2 else 0
def rootF (l : Bytes) (i : Int) (s : Bytes) (h : Int) : Bytes := if rootE i s h = 0 then splice l (rootO i) (if s = [] ∧ h = 0 then List.replicate 11 0 else rootB s h) else []
theorem rootB_get (s : Bytes) (h : Int) (h8 : s.length ≤ 8) (q : Nat) : (rootB s h)[q]? = if q < s.length then s[q]? else if q < 10 then some 0 else if q = 10 then some (UInt8.ofNat h.toNat) else none := by
  unfold rootB nameB
  by_cases h1 : q < s.length
  · rw [if_pos h1, List.append_assoc, List.getElem?_append_left h1]
  · rw [if_neg h1, List.append_assoc, List.getElem?_append_right (by omega)]
    have he : ∀ r, r < 10 - s.length → ((List.replicate (8 - s.length) (0 : UInt8)) ++ [0, 0, UInt8.ofNat h.toNat])[r]? = some 0 := fun r hr => by
      by_cases h2 : r < 8 - s.length
      · rw [List.getElem?_append_left (by simpa using h2)]; simp [h2]
      · rw [List.getElem?_append_right (by simpa using h2), List.length_replicate]
        have : r - (8 - s.length) = 0 ∨ r - (8 - s.length) = 1 := by omega
        rcases this with h | h <;> rw [h] <;> rfl
    by_cases h2 : q < 10
    · rw [if_pos h2, he _ (by omega)]
    · rw [if_neg h2]
      by_cases h3 : q = 10
      · rw [if_pos h3, List.getElem?_append_right (by simp; omega), List.length_replicate, show q - s.length - (8 - s.length) = 2 by omega]; rfl
      · rw [if_neg h3, List.getElem?_append_right (by simp; omega), List.length_replicate]
        apply List.getElem?_eq_none
        simp; omega
theorem rootB_set (l s : Bytes) (o : Nat) (h : Int) (h8 : s.length ≤ 8) (ho : o + 11 ≤ l.length) : (splice (splice l o (List.replicate 11 0)) o s).set (o + 10) (UInt8.ofNat h.toNat) = splice l o (rootB s h) := by
  have hrl : (rootB s h).length = 11 := by unfold rootB nameB; simp; omega
  have hl1 : (splice l o (List.replicate 11 (0 : UInt8))).length = l.length := splice_len _ _ _ (by simpa using ho)
  have hl2 : (splice (splice l o (List.replicate 11 (0 : UInt8))) o s).length = l.length := by rw [splice_len _ _ _ (by rw [hl1]; omega)]; exact hl1
  apply List.ext_getElem?
  intro p
  rw [List.getElem?_set, hl2, splice_at _ _ _ _ (by rw [hl1]; omega), splice_at _ _ _ _ (by simpa using ho), splice_at _ _ _ _ (by rw [hrl]; exact ho), rootB_get s h h8, hrl, List.length_replicate]
  by_cases h1 : o ≤ p ∧ p < o + 11
  · simp only [if_pos h1]
    by_cases h2 : p - o < s.length
    · rw [if_pos h2, if_neg (by omega), if_pos (by omega)]
    · rw [if_neg h2]
      by_cases h3 : p - o < 10
      · rw [if_pos h3, if_neg (by omega), if_neg (by omega), List.getElem?_replicate, if_pos (by omega)]
      · rw [if_neg h3, if_pos (by omega), if_pos (by omega), if_pos (by omega)]
  · simp only [if_neg h1]
    rw [if_neg (by omega), if_neg (by omega)]
theorem two_cells {w w' : World} {a b : Value} {t : TypeId} (hb : Below (w.alloc (.cells #[a, b] t)).heap.size (w.alloc (.cells #[a, b] t)) w') : w'.cell? ⟨w.heap.size, 0, none⟩ = some a ∧ w'.cell? ⟨w.heap.size, 1, none⟩ = some b := by
  have h := (hb.block w.heap.size (by simp)).trans (heap_alloc_new w (.cells #[a, b] t))
  refine ⟨?_, ?_⟩ <;> simp [World.cell?, h]
/-- the program's PutRoot, told likewise -/
theorem iroot_ans (A : Option Addr) (n c : Nat) (l : Bytes) (i : Int) (s : Bytes) (h : Int) (w : World) (hs : s.length ≤ 140737488351232) (hln : l.length = n) (hnc : n ≤ c) (hr : rightB n = true) (hrd : Rd w A l) :
    Calls Tryd.prog 156 #[.slice A n c, .int .i64 i, rootV s h] w fun e w' => RowAns w w' e (rootF l i s h) (errV (rootE i s h)) := by
  have hnb := rightB_true.1 hr
  have hlen : ∀ X : Bytes, X.length = 11 → 0 ≤ i → i < 8 → (splice l (rootO i) X).length = n := fun X hX h1 h2 => by
    rw [splice_len _ _ _ (by unfold rootO; omega)]; exact hln
  unfold rootF
  by_cases hi : i < 0 ∨ 8 ≤ i
  · have hE : rootE i s h = 1 := by unfold rootE; rw [if_pos hi]
    rw [hE]
    exact (root_e1 A n c i s h w hr hi).mono fun e w' ⟨he, hb⟩ => ⟨none, 0, he, Rd.nil_, hb⟩
  by_cases h0 : s = [] ∧ h = 0
  · have hE : rootE i s h = 0 := by unfold rootE; rw [if_neg hi, if_pos h0]
    rw [hE, if_pos rfl, if_pos h0]
    obtain ⟨rfl, rfl⟩ := h0
    refine (root_zero A n c l i w hln hnc hrd hr (by omega) (by omega)).mono ?_
    rintro e w' ⟨g, cap, rfl, hg, hrow, hb⟩
    exact ⟨some ⟨g, 0, none⟩, cap, by rw [hlen _ (by simp) (by omega) (by omega)]; rfl, hrow.rd, hb⟩
  cases hh : handleB h with
  | false =>
    have hE : rootE i s h = 1 := by unfold rootE; rw [if_neg hi, if_neg h0, if_pos hh]
    rw [hE]
    exact (root_e1h A n c i s h w hr (by omega) (by omega) h0 hh).mono fun e w' ⟨he, hb⟩ => ⟨none, 0, he, Rd.nil_, hb⟩
  | true =>
    cases hnm : isName s with
    | false =>
      have hE : rootE i s h = 2 := by unfold rootE; rw [if_neg hi, if_neg h0, if_neg (by simp [hh]), if_pos hnm]
      rw [hE]
      exact (root_e2 A n c i s h w hs hr (by omega) (by omega) hh hnm).mono fun e w' ⟨he, hb⟩ => ⟨none, 0, he, Rd.nil_, hb⟩
    | true =>
      have hE : rootE i s h = 0 := by unfold rootE; rw [if_neg hi, if_neg h0, if_neg (by simp [hh]), if_neg (by simp [hnm])]
      rw [hE, if_pos rfl, if_neg h0]
      refine (root_ok A n c l i s h w hln hrd hr (by omega) (by omega) hh hnm).mono ?_
      rintro e w' ⟨g, cap, rfl, hg, hrow, hb⟩
      have hl11 : (rootB s h).length = 11 := by have := nameB_len s hnm; unfold rootB; simp; omega
      exact ⟨some ⟨g, 0, none⟩, cap, by rw [hlen _ hl11 (by omega) (by omega)]; rfl, hrow.rd, hb⟩
end Go.Proofs.YthlflklamgdkfaaDoor
/- Names that lead: root.Get; the reference's Lead and Object. -/
namespace Go.Proofs.YthlflklamgdkfaaDoor
open Go.RowKit

/-- where a name leads first; 0: nowhere -/
def leadR (L : List (Bytes × Nat)) (s : Bytes) : Nat := match L.find? (fun r => r.1 == s) with
  | none => 0
  | some r => r.2
theorem leadR_none {L : List (Bytes × Nat)} {s : Bytes} (h : ∀ x ∈ L, (x.1 == s) = false) : leadR L s = 0 := by
  unfold leadR
  rw [List.find?_eq_none.2 (fun x hx => by rw [h x hx]; decide)]
theorem leadR_at {L : List (Bytes × Nat)} {s : Bytes} (k : Nat) (hk : k < L.length) (h : (L[k].1 == s) = true) (hn : ∀ j (hj : j < k), (L[j].1 == s) = false) : leadR L s = L[k].2 := by
  unfold leadR
  rw [(List.find?_eq_some_iff_getElem (p := fun r : Bytes × Nat => r.1 == s)).2 ⟨h, k, hk, rfl, fun j hj => by rw [hn j hj]; rfl⟩]
theorem good_roots {l : Bytes} (hg : Good l) {r : Bytes × Nat} (h : r ∈ rootsL l) : 1 ≤ r.2 ∧ r.2 ≤ 40 ∧ hE l r.2 = 0 := by
  unfold rootsL rootsF at h
  simp only [List.mem_map, List.mem_filter, List.mem_range, Bool.not_eq_true'] at h
  obtain ⟨i, ⟨hi, hz⟩, rfl⟩ := h
  have hb := badR_lead (hg.s.root i hi hz)
  obtain ⟨k, hk, hh, hx⟩ := leadsS_iff.1 hb
  have he := (hE_has hk hh).1
  simp only [rootP]
  rw [hx]
  exact ⟨by omega, by omega, by simpa using he⟩
def getRE (l s : Bytes) (tag : Int) : Nat := if isName s = false then 2 else if tag < -1 ∨ 15 < tag then 1 else if leadR (rootsL l) s = 0 then 5 else if 0 ≤ tag ∧ gT l (leadR (rootsL l) s) ≠ tag then 8 else 0
def getRH (l s : Bytes) (tag : Int) : Nat := if getRE l s tag = 0 then leadR (rootsL l) s else 0
section
variable {w0 w : World} {F : Nat → Prop} {h : Nat} {l : Bytes}
set_option maxRecDepth 100000 in
theorem rget_any (s : Bytes) (tag : Int) (hp : Hp w0 w F h l) (hg : Good l) (hs : s.length ≤ 140737488351232) :
    Calls Tryd.prog 40 #[.pointer (some ⟨h, 0, none⟩), sv s, .int .i64 tag] w fun e w' => e = .returned (.tuple #[.int .i64 (getRH l s tag : Int), errV (getRE l s tag)]) ∧ Below w.heap.size w w' := by
  have HAL := Hidden.mk ((Below.refl w.heap.size w).alloc (Nat.le_refl _) (.cells #[sv s] 9))
  have HBX := Hidden.mk (heap_alloc_new w (.cells #[sv s] 9))
  have HP := Hidden.mk hp
  have HE : Hidden (getRE l s tag = if isName s = false then 2 else if tag < -1 ∨ 15 < tag then 1 else if leadR (rootsL l) s = 0 then 5 else if 0 ≤ tag ∧ gT l (leadR (rootsL l) s) ≠ tag then 8 else 0) := ⟨rfl⟩
  have HH : Hidden (getRH l s tag = if getRE l s tag = 0 then leadR (rootsL l) s else 0) := ⟨rfl⟩
  have hbx0 : (w.alloc (.cells #[sv s] 9)).cell? ⟨w.heap.size, 0, none⟩ = some (sv s) := by simp only [World.cell?]; rw [HBX.out]; rfl
  clear hp
  cases hn : isName s with
  | false =>
    have he : getRE l s tag = 2 := by rw [HE.out, if_pos hn]
    have hh : getRH l s tag = 0 := by rw [HH.out, he]; rfl
    rw [he, hh]
    have HC := Hidden.mk (putName_no s (w.alloc (.cells #[sv s] 9)) hs hn)
    clear HE HH he hh hn hg
    go_enter Tryd.func40, Tryd.ntmps40
    go_wp2_with fail
    generalize w.alloc (.cells #[sv s] 9) = w1 at *
    refine HC.out.mono ?_
    rintro e w2 ⟨rfl, hb2⟩
    have HB := Hidden.mk (HAL.out.trans (hb2.mono HAL.out.size))
    clear hb2 HC hbx0
    go_wp2_with fail
    go_ret2
    exact ⟨rfl, HB.out⟩
  | true =>
    have HC := Hidden.mk (putName_ok s (w.alloc (.cells #[sv s] 9)) hn)
    have HE := Hidden.mk (show getRE l s tag = if tag < -1 ∨ 15 < tag then 1 else if leadR (rootsL l) s = 0 then 5 else if 0 ≤ tag ∧ gT l (leadR (rootsL l) s) ≠ tag then 8 else 0 by rw [HE.out, if_neg (by rw [hn]; decide)])
    have HGR : Hidden (∀ r ∈ rootsL l, 1 ≤ r.2 ∧ r.2 ≤ 40 ∧ hE l r.2 = 0) := ⟨fun r hr => good_roots hg hr⟩
    have HRT : Hidden (∀ W, Hp w0 W F h l → Calls Tryd.prog 107 #[.pointer (some ⟨h, 0, none⟩)] W fun e w' => ∃ v, e = .returned v ∧ w'.ownsRow W.heap.size 76 2 v (rootsL l).length ((rootsL l).flatMap rcells) ∧ Below W.heap.size W w') := ⟨fun W hW => hroots_any hW⟩
    have HRL : Hidden ((rootsL l).length ≤ 8) := ⟨rootsF_len _ _⟩
    generalize getRE l s tag = ge at *
    generalize getRH l s tag = gh at *
    generalize rootsL l = RL at *
    clear hn hg hs
    go_enter Tryd.func40, Tryd.ntmps40
    go_wp2_with fail
    generalize w.alloc (.cells #[sv s] 9) = w1 at *
    refine HC.out.mono ?_
    rintro e w2 ⟨gn, rfl, -, -, hb2⟩
    have HB2 := Hidden.mk (HAL.out.trans (hb2.mono HAL.out.size))
    have HBX2 := Hidden.mk ((hb2.block _ (Array.getElem?_eq_some_iff.1 HBX.out).1).trans HBX.out)
    clear hb2 HC hbx0 HBX HAL
    by_cases t1 : tag < -1
    · have he : ge = 1 := by rw [HE.out, if_pos (.inl t1)]
      have hh : gh = 0 := by rw [HH.out, he]; rfl
      have d1 : decide (tag < -1) = true := by simpa using t1
      subst he hh
      clear HE HH t1
      go_wp2_with fail
      go_ret2
      exact ⟨rfl, HB2.out⟩
    by_cases t2 : 15 < tag
    · have he : ge = 1 := by rw [HE.out, if_pos (.inr t2)]
      have hh : gh = 0 := by rw [HH.out, he]; rfl
      have d1 : decide (tag < -1) = false := by simpa using t1
      have d2 : decide (15 < tag) = true := by simpa using t2
      subst he hh
      clear HE HH t1 t2
      go_wp2_with fail
      go_ret2
      exact ⟨rfl, HB2.out⟩
    have d1 : decide (tag < -1) = false := by simpa using t1
    have d2 : decide (15 < tag) = false := by simpa using t2
    have HE := Hidden.mk (show ge = if leadR RL s = 0 then 5 else if 0 ≤ tag ∧ gT l (leadR RL s) ≠ tag then 8 else 0 by rw [HE.out, if_neg (by omega)])
    clear t1 t2
    go_wp2_with fail
    clear d1 d2
    refine (HRT.out _ (HP.out.below HB2.out)).mono ?_
    rintro e w3 ⟨v, rfl, hown, hb3⟩
    have HB3 := Hidden.mk (HB2.out.trans (hb3.mono HB2.out.size))
    have HBX3 := Hidden.mk ((hb3.block _ (Array.getElem?_eq_some_iff.1 HBX2.out).1).trans HBX2.out)
    obtain ⟨A3, c3, rfl, hc3, -⟩ := own_split hown
    have HRX := Hidden.mk (own_rdX3 (f := rcells) (fun _ => rfl) rfl hown)
    have HCF := Hidden.mk (idxR_get (fun r => r.1 == s) A3 RL.length c3 RL (.pointer (some ⟨w.heap.size, 0, none⟩)) w3 rfl (by have := HRL.out; omega) HRX.out
      (fun y _ W hW => root1_get y s w.heap.size W (by have := (hW.block _ (Array.getElem?_eq_some_iff.1 HBX3.out).1).trans HBX3.out; simp [World.cell?, this])))
    clear hown hb3 HRT HBX2 HB2
    go_wp2_with fail
    refine HCF.out.mono ?_
    rintro e w4 ⟨rfl, hb4⟩
    have HB4 := Hidden.mk (HB3.out.trans (hb4.mono HB3.out.size))
    have HRX4 := Hidden.mk (HRX.out.below hb4)
    clear hb4 HCF HRX HB3 HBX3
    by_cases ha : RL.any (fun r => r.1 == s) = true
    · obtain ⟨k, hk, e1, e2, e3⟩ := ixP_lt (fun r : Bytes × Nat => r.1 == s) RL ha
      have hl := leadR_at k hk e2 e3
      have hgr := HGR.out RL[k] (List.getElem_mem hk)
      rw [e1]
      obtain ⟨pp, off, rfl, hcx⟩ := HRX4.out k hk
      have x1 := hcx 1 _ rfl
      have plt : pp < w4.heap.size := block_lt_of_cell x1
      have HT := Hidden.mk (htag_any (RL[k].2 : Int) (HP.out.below HB4.out))
      rw [hgr.2.2, show errV 0 = Value.nilIface from rfl] at HT
      rw [hl] at HE HH
      generalize RL[k].2 = hd at *
      generalize gT l (hd : Int) = gt at *
      have HE := Hidden.mk (show ge = if 0 ≤ tag ∧ gt ≠ tag then 8 else 0 by rw [HE.out, if_neg (by omega)])
      have i0 : decide ((k : Int) < 0) = false := by simp
      have i1 : (0 : Int) ≤ k := by omega
      have i2 : (k : Int) < RL.length := by omega
      have HX1 : Hidden (∀ W, Below w4.heap.size w4 W → W.cell? ⟨pp, off + k * 2 + 1, none⟩ = some (.int .i64 hd)) := ⟨fun W hW => (hW.cell (p := ⟨pp, off + k * 2 + 1, none⟩) plt).trans x1⟩
      clear hcx e1 e2 e3 ha hl hgr HRX4 HGR plt HRL
      go_wp2_with fail
      refine HT.out.mono ?_
      rintro e w5 ⟨rfl, hb5⟩
      have x5 := HX1.out w5 hb5
      have HB5 := Hidden.mk (HB4.out.trans (hb5.mono HB4.out.size))
      clear hb5 HT x1
      by_cases t1 : 0 ≤ tag
      · have d1 : decide (0 ≤ tag) = true := by simpa using t1
        by_cases t2 : gt = tag
        · have he : ge = 0 := by rw [HE.out, if_neg (by omega)]
          have hh : gh = hd := by rw [HH.out, he]; rfl
          have d2 : (gt == tag) = true := by simpa using t2
          have d3 : (gt != tag) = false := by simpa using t2
          subst he hh
          clear HE HH t1 t2 HX1
          go_wp2_with fail
          go_ret2
          exact ⟨rfl, HB5.out⟩
        · have he : ge = 8 := by rw [HE.out, if_pos ⟨t1, t2⟩]
          have hh : gh = 0 := by rw [HH.out, he]; rfl
          have d2 : (gt == tag) = false := by simpa using t2
          have d3 : (gt != tag) = true := by simpa using t2
          subst he hh
          clear HE HH t1 t2 HX1
          go_wp2_with fail
          go_ret2
          exact ⟨rfl, HB5.out⟩
      · have d1 : decide (0 ≤ tag) = false := by simpa using t1
        have he : ge = 0 := by rw [HE.out, if_neg (fun h => t1 h.1)]
        have hh : gh = hd := by rw [HH.out, he]; rfl
        subst he hh
        clear HE HH t1 HX1
        go_wp2_with fail
        go_ret2
        exact ⟨rfl, HB5.out⟩
    · have ha' : ∀ x ∈ RL, (x.1 == s) = false := by
        rw [Bool.not_eq_true, List.any_eq_false] at ha
        intro x hx
        simpa using ha x hx
      rw [ixP_none _ _ ha']
      have hl := leadR_none ha'
      have he : ge = 5 := by rw [HE.out, if_pos hl]
      have hh : gh = 0 := by rw [HH.out, he]; rfl
      subst he hh
      clear HE HH ha ha' hl HRX4
      go_wp2_with fail
      go_ret2
      exact ⟨rfl, HB4.out⟩
theorem rall_any (hp : Hp w0 w F h l) :
    Calls Tryd.prog 42 #[.pointer (some ⟨h, 0, none⟩)] w fun e w' => ∃ v, e = .returned v ∧ w'.ownsRow w.heap.size 76 2 v (rootsL l).length ((rootsL l).flatMap rcells) ∧ Below w.heap.size w w' := by
  have HC := Hidden.mk (hroots_any hp)
  clear hp
  go_enter Tryd.func42, Tryd.ntmps42
  go_wp2_with fail
  refine HC.out.mono ?_
  rintro e w1 ⟨v, rfl, hown, hb1⟩
  have HB := Hidden.mk (And.intro hown hb1)
  clear hb1 hown HC
  go_wp2_with fail
  go_ret
  exact ⟨v, rfl, HB.out⟩
end
set_option maxRecDepth 100000 in
theorem refLead_ok (p off n c : Nat) (l s : Bytes) (w : World) (hn : l.length = n) (hr : rightB n = true) (hnc : n ≤ c) (hrd : Rd w (some ⟨p, off, none⟩) l) :
    Calls Tryd.prog 38 #[.slice (some ⟨p, off, none⟩) n c, sv s] w fun e w' => e = .returned (.int .i64 (leadR (rootsL l) s : Int)) ∧ Below w.heap.size w w' := by
  have HC := Hidden.mk (refRoots_ok p off n c l w hn hr hnc hrd)
  have hle : (rootsL l).length ≤ 8 := rootsF_len _ _
  generalize rootsL l = L at *
  clear hn hrd
  go_enter Tryd.func38, Tryd.ntmps38
  go_wp2_with fail
  refine HC.out.mono ?_
  rintro e w1 ⟨v, rfl, hown, hb1⟩
  obtain ⟨A3, c3, rfl, hc3, -⟩ := own_split hown
  have HRX := Hidden.mk (own_rdX3 (f := rcells) (fun _ => rfl) rfl hown)
  have HB := Hidden.mk hb1
  clear hown hb1 HC
  go_wp2_with fail
  go_loopg [6] L.length (fun q i wr => ∃ j : Nat, j ≤ L.length ∧ q = L.length - j ∧ i = .int .i64 (j : Int) ∧ w1 = wr ∧ Hidden (∀ x ∈ L.take j, (x.1 == s) = false))
  case atStart => exact ⟨0, by omega, rfl, rfl, rfl, ⟨by simp⟩⟩
  case round =>
    obtain ⟨j, hj, rfl, rfl, rfl, hno⟩ := hrel
    by_cases hlt : j < L.length
    · obtain ⟨pp, oo, rfl, hcx⟩ := HRX.out j hlt
      have x0 := hcx 0 _ rfl
      have x1 := hcx 1 _ rfl
      rw [Nat.add_zero] at x0
      have k0 : (0 : Int) ≤ j := by omega
      have k1 : (j : Int) < L.length := by omega
      have s1 : IntKind.i64.wrap ((j : Int) + 1) = (j : Int) + 1 := IntWalk.i64_in _ (by omega)
      have HAT : Hidden ((L[j].1 == s) = true → leadR L s = L[j].2) := ⟨fun h => leadR_at j hlt h (fun i hi => hno.out L[i] (List.mem_take_iff_getElem.2 ⟨i, by omega, rfl⟩))⟩
      have HNX : Hidden ((L[j].1 == s) = false → ∀ x ∈ L.take (j + 1), (x.1 == s) = false) := ⟨fun h => forall_take_succ' (p := fun x => x.1 == s) hlt hno.out h⟩
      generalize L[j] = x at *
      obtain ⟨xs, xh⟩ := x
      dsimp only at *
      clear hcx hno
      cases he : (xs == s) with
      | true =>
        have HV := Hidden.mk (HAT.out he)
        clear HAT HNX
        go_wp2_with fail
        go_ret
        exact ⟨by rw [HV.out]; rfl, HB.out⟩
      | false =>
        have HV := Hidden.mk (HNX.out he)
        clear HAT HNX
        go_wp2_with fail
        go_roundg (L.length - (j + 1))
        case measure => omega
        case rel => exact ⟨j + 1, by omega, rfl, by go_num, rfl, HV⟩
    · obtain rfl : j = L.length := by omega
      have hv := leadR_none (L := L) (s := s) (by have := hno.out; rwa [List.take_of_length_le (Nat.le_refl _)] at this)
      have HV := Hidden.mk hv
      clear hv hno
      go_wp2_with fail
      go_ret
      exact ⟨by rw [HV.out]; rfl, HB.out⟩
/-- an object's tag, and its bytes, as the reference tells them -/
def objT (l : Bytes) (k : Nat) : Int := if hasE (rawE l k) = true then rTag (rawE l k) else -1
def objS (l : Bytes) (k : Nat) : Bytes := if hasE (rawE l k) = true then (l.drop (rAt (rawE l k))).take (rLen (rawE l k)) else []
set_option maxRecDepth 100000 in
theorem refObj_ok (p off n c : Nat) (l : Bytes) (k : Nat) (w : World) (hn : l.length = n) (hg : Good l) (hnc : n ≤ c) (hrd : Rd w (some ⟨p, off, none⟩) l) (hk : k < 40) :
    Calls Tryd.prog 39 #[.slice (some ⟨p, off, none⟩) n c, .int .i64 ((k : Int) + 1)] w fun e w' => e = .returned (.tuple #[.int .i64 (objT l k), sv (objS l k)]) ∧ Below w.heap.size w w' := by
  have hb := hg.bd
  have HC := Hidden.mk (refEntry_ok (some ⟨p, off, none⟩) n c l k w hn (by omega) hnc hrd hk)
  unfold entR entV at HC
  unfold objT objS
  cases hh : hasE (rawE l k) with
  | false =>
    rw [hh] at HC
    simp only [Bool.false_eq_true, if_false]
    generalize (rAt (rawE l k) : Int) = a1 at *
    generalize (rLen (rawE l k) : Int) = a2 at *
    generalize rTag (rawE l k) = a3 at *
    clear hn hg hrd hh
    go_enter Tryd.func39, Tryd.ntmps39
    go_wp2_with fail
    refine HC.out.mono ?_
    rintro e w1 ⟨rfl, hb1⟩
    have HB := Hidden.mk (hb1.alloc hb1.size (.cells #[.int .i64 ((k : Int) + 1), .int .i64 a1, .int .i64 a2, .int .i64 a3] 137))
    clear hb1 HC
    go_wp2_with fail
    go_ret2
    exact ⟨rfl, HB.out⟩
  | true =>
    rw [hh] at HC
    simp only [if_true]
    have hin := strayE_false (hg.s.fit k hk hh)
    have hcut := hrd.cut (rAt (rawE l k)) (rLen (rawE l k)) (by omega)
    rw [Option.map_some, Addr.add_lit] at hcut
    have hcl : ((l.drop (rAt (rawE l k))).take (rLen (rawE l k))).length = rLen (rawE l k) := by simp; omega
    generalize (l.drop (rAt (rawE l k))).take (rLen (rawE l k)) = body at *
    generalize rAt (rawE l k) = a1 at *
    generalize rLen (rawE l k) = a2 at *
    generalize rTag (rawE l k) = a3 at *
    have s1 : IntKind.i64.wrap ((a1 : Int) + a2) = (a1 : Int) + a2 := IntWalk.i64_in _ (by omega)
    have hsl := run_cut p off n c a1 (a1 + a2) (by omega) (by omega) (by omega)
    rw [Nat.add_sub_cancel_left] at hsl
    simp only [Int.natCast_add] at hsl
    have HCV : Hidden (∀ W, Below w.heap.size w W → (convert 22 9 (.slice (some ⟨p, off + a1, none⟩) a2 (c - a1))).run Tryd.prog W = .ok (sv body) W) := ⟨fun W hW => conv_text W _ a2 _ body hcl (hcut.below hW)⟩
    clear hn hg hrd hh hin hcut hcl
    go_enter Tryd.func39, Tryd.ntmps39
    go_wp2_with fail
    refine HC.out.mono ?_
    rintro e w1 ⟨rfl, hb1⟩
    have HB := Hidden.mk (hb1.alloc hb1.size (.cells #[.int .i64 ((k : Int) + 1), .int .i64 a1, .int .i64 a2, .int .i64 a3] 137))
    have hf := fourAt_one w1 ((k : Int) + 1) (a1 : Int) (a2 : Int) a3 137
    go_upto_region 2 with (fail)
    generalize w1.alloc (.cells #[.int .i64 ((k : Int) + 1), .int .i64 (a1 : Int), .int .i64 (a2 : Int), .int .i64 a3] 137) = w2 at *
    generalize w1.heap.size = bx at *
    obtain ⟨f0, f1, f2, f3⟩ := hf
    have hcv := HCV.out w2.drew HB.out.drew
    have KF := Hidden.mk (And.intro f1 (And.intro f2 (And.intro f3 hcv)))
    clear hb1 HC hcv
    go_wp2_with fail
    go_region_held3 (fun W => W.cell? ⟨bx, 1, none⟩ = some (.int .i64 (a1 : Int)) ∧ W.cell? ⟨bx, 2, none⟩ = some (.int .i64 (a2 : Int)) ∧ W.cell? ⟨bx, 3, none⟩ = some (.int .i64 a3) ∧ (convert 22 9 (.slice (some ⟨p, off + a1, none⟩) a2 (c - a1))).run Tryd.prog W = .ok (sv body) W) (first | exact KF.out) (fail)
    all_goals
      go_wp2_with fail
      go_ret2
      exact ⟨rfl, HB.out.drew⟩
end Go.Proofs.YthlflklamgdkfaaDoor
/- Maps told by a function from keys to values: lookup, store, len, clear as equations; over whatever program. -/
namespace Go.Proofs.YthlflklamgdkfaaDoor
open Go.RowKit Go.Maps Go.ChangeMaps

/-- any value, as it stands -/
def heldR (v : Value) : Option (DataW Value × List MemPlace) := some (.held v, [])
section
variable {P : Program} {T K E : TypeId} {κ : Type} {kl : κ → Lit} {w w' : World} {b cnt : Nat} {f : κ → Option Value}
/-- what a datum has at each key -/
def Has (kl : κ → Lit) (D : DataW Value) (f : κ → Option Value) : Prop := (∀ k, (f k = none → Maps.has D (kl k) = false) ∧ ∀ v, f k = some v → Maps.has D (kl k) = true ∧ ∀ z, D.atKey (kl k) z = .held v) ∧ ∀ l, Maps.has D l = true → ∃ k, l = kl k ∧ (f k).isSome = true
/-- block b is a map of cnt entries: at each key what f says -/
def IM (P : Program) (K : TypeId) (kl : κ → Lit) (w : World) (b : Nat) (f : κ → Option Value) (cnt : Nat) : Prop :=
  ∃ D : DataW Value, w.ownsMap P K heldR b cnt D ∧ Maps.size D = cnt ∧ Has kl D f
theorem ownsMap_tight {D : DataW Value} {n : Nat} (h : w.ownsMap P K heldR b n D) : w.ownsMap P K heldR b (Maps.size D) D := by
  obtain ⟨es, clock, hb, F, _, rfl⟩ := h
  refine ⟨es, clock, hb, F, ?_, rfl⟩
  simp [Maps.size, length_sorted]
theorem IM.made (w : World) : IM P K kl (w.alloc (.map #[] 0)) w.heap.size (fun _ => none) 0 :=
  ⟨_, World.ownsMap_made w P K heldR, rfl, fun k => ⟨fun _ => rfl, fun v h => by cases h⟩, fun l h => by cases h⟩
theorem IM.block (h : IM P K kl w b f cnt) (hb : w'.heap[b]? = w.heap[b]?) : IM P K kl w' b f cnt := by
  obtain ⟨D, ⟨es, clock, h1, h2⟩, h3⟩ := h
  exact ⟨D, ⟨es, clock, hb.trans h1, h2⟩, h3⟩
theorem IM.lt (h : IM P K kl w b f cnt) : b < w.heap.size := by
  obtain ⟨D, h, _⟩ := h
  exact h.lt
theorem IM.isMap (h : IM P K kl w b f cnt) : ∃ es clock, w.heap[b]? = some (.map es clock) := by
  obtain ⟨D, ⟨es, clock, hb, _⟩, _⟩ := h
  exact ⟨es, clock, hb⟩
theorem IM.look_some (h : IM P K kl w b f cnt) (KL : Keyed P K) (ht : P.underlying T = some (.map K E)) {z : Value} (hz : (zeroValue E).run P w = .ok z w) {key : Value} {k : κ} (hkey : keyOf P K key = some (kl k)) {v : Value} (hf : f k = some v) :
    (Instr.lookup T (.map (some b)) key true).run P w = .ok (.tuple #[v, .bool true]) w ∧ (Instr.lookup T (.map (some b)) key false).run P w = .ok v w := by
  obtain ⟨D, h, _, hh⟩ := h
  obtain ⟨h1, h2⟩ := (hh.1 k).2 v hf
  constructor
  · obtain ⟨v', ps, hrun, hv⟩ := h.look_ok KL ht hz (zd := .held z) (zp := []) rfl hkey
    rw [h2, heldR] at hv
    simp only [Option.some.injEq, Prod.mk.injEq, DataW.held.injEq] at hv
    rw [h1, hv.1] at hrun
    exact hrun
  · obtain ⟨v', ps, hrun, hv⟩ := h.lookup KL ht hz (zd := .held z) (zp := []) rfl hkey
    rw [h2, heldR] at hv
    simp only [Option.some.injEq, Prod.mk.injEq, DataW.held.injEq] at hv
    rw [hv.1] at hrun
    exact hrun
theorem IM.look_none (h : IM P K kl w b f cnt) (KL : Keyed P K) (ht : P.underlying T = some (.map K E)) {z : Value} (hz : (zeroValue E).run P w = .ok z w) {key : Value} {k : κ} (hkey : keyOf P K key = some (kl k)) (hf : f k = none) :
    (Instr.lookup T (.map (some b)) key true).run P w = .ok (.tuple #[z, .bool false]) w ∧ (Instr.lookup T (.map (some b)) key false).run P w = .ok z w := by
  obtain ⟨D, h, _, hh⟩ := h
  have h1 := (hh.1 k).1 hf
  constructor
  · obtain ⟨v', ps, hrun, hv⟩ := h.look_ok KL ht hz (zd := .held z) (zp := []) rfl hkey
    rw [atKey_of_not_has h1, heldR] at hv
    simp only [Option.some.injEq, Prod.mk.injEq, DataW.held.injEq] at hv
    rw [h1, hv.1] at hrun
    exact hrun
  · obtain ⟨v', ps, hrun, hv⟩ := h.lookup KL ht hz (zd := .held z) (zp := []) rfl hkey
    rw [atKey_of_not_has h1, heldR] at hv
    simp only [Option.some.injEq, Prod.mk.injEq, DataW.held.injEq] at hv
    rw [hv.1] at hrun
    exact hrun
/-- f with another value at one key -/
def upd [DecidableEq κ] (f : κ → Option Value) (k : κ) (v : Value) : κ → Option Value := fun x => if x = k then some v else f x
theorem IM.store [DecidableEq κ] (h : IM P K kl w b f cnt) (KL : Keyed P K) (hinj : ∀ x y, kl x = kl y → x = y) (ht : P.underlying T = some (.map K E)) (hn : cnt < maxLen) {key : Value} {k : κ} (hkey : keyOf P K key = some (kl k)) (v : Value) :
    ∃ w', (Instr.mapUpdate T (.map (some b)) key v).run P w = .ok () w' ∧ IM P K kl w' b (upd f k v) (if (f k).isSome then cnt else cnt + 1) ∧ w.grownBy w' (some b) ∧ w'.heap.size = w.heap.size := by
  obtain ⟨D, h, hs, hh⟩ := h
  obtain ⟨w', hrun, h', ht'⟩ := h.store KL ht hn (d := .held v) (ps := []) hkey rfl
  obtain ⟨w2, hrun2, _, hg⟩ := h.update KL ht hn (d := .held v) (ps := []) hkey rfl
  have e : w' = w2 := by
    rw [hrun] at hrun2
    injection hrun2
  subst e
  have hik : WideAt.IsKeyLit (kl k) := KL.key hkey
  have hsz : Maps.size (D.put (kl k) (.held v)) = if (f k).isSome then cnt else cnt + 1 := by
    rw [size_put (h.tidy KL), hs]
    cases hf : f k with
    | none => rw [(hh.1 k).1 hf]; simp
    | some u => rw [((hh.1 k).2 u hf).1]; simp
  refine ⟨w', hrun, ⟨_, ?_, hsz, fun x => ?_, fun l hl => ?_⟩, hg, ?_⟩
  · rw [← hsz]; exact ownsMap_tight h'
  · unfold upd
    by_cases hx : x = k
    · subst hx
      rw [if_pos rfl]
      refine ⟨(fun h => by cases h), fun u hu => ?_⟩
      obtain rfl := Option.some.inj hu
      exact ⟨has_put_same h.isMap hik _, fun z => atKey_put_same h.isMap hik _ z⟩
    · rw [if_neg hx]
      have hne : kl x ≠ kl k := fun e => hx (hinj _ _ e)
      refine ⟨fun h0 => by rw [has_put_other hne]; exact (hh.1 x).1 h0, fun u hu => ?_⟩
      rw [has_put_other hne]
      exact ⟨((hh.1 x).2 u hu).1, fun z => by rw [atKey_put_other hne]; exact ((hh.1 x).2 u hu).2 z⟩
  · by_cases hx : l = kl k
    · exact ⟨k, hx, by unfold upd; rw [if_pos rfl]; rfl⟩
    · rw [has_put_other hx] at hl
      obtain ⟨x, hx', hfx⟩ := hh.2 l hl
      refine ⟨x, hx', ?_⟩
      unfold upd
      split
      · rfl
      · exact hfx
  · obtain ⟨es, clock, es', clock', _, hw⟩ := ht'
    rw [hw]; simp [setBlock]
theorem IM.len_ (h : IM P K kl w b f cnt) (ht : P.underlying T = some (.map K E)) (ty : TypeId) : (Builtin.len_ #[T] ty #[.map (some b)]).run P w = .ok (.int .i64 cnt) w := by
  obtain ⟨D, h, hs, _⟩ := h
  rw [← hs]
  exact h.len ht ty
theorem IM.clear_ (h : IM P K kl w b f cnt) (ht : P.underlying T = some (.map K E)) (ty : TypeId) :
    ∃ w', (Builtin.clear_ #[T] ty #[.map (some b)]).run P w = .ok (.tuple #[]) w' ∧ IM P K kl w' b (fun _ => none) 0 ∧ w.grownBy w' (some b) ∧ w'.heap.size = w.heap.size := by
  obtain ⟨D, ⟨es, clock, hb, F, _⟩, _⟩ := h
  refine ⟨setBlock w b (.map #[] clock), ?_, ⟨.map [], ⟨#[], clock, heap_setBlock_same hb _, ⟨by simp, ?_, by simp⟩, Nat.le_refl _, rfl⟩, rfl, fun k => ⟨fun _ => rfl, fun v h => by cases h⟩, fun l h => by cases h⟩,
    ⟨rfl, rfl, rfl, by simp [setBlock], fun i _ hi => heap_setBlock_other hb _ (fun e => hi (by rw [e]))⟩, by simp [setBlock]⟩
  · simp [Builtin.clear_, run_underlying ht, MapKept.run_getObj_map hb, MapKept.run_setObj_map _ hb, Result.andThen, setBlock]
  · exact MapKept.stamped_empty _
end
end Go.Proofs.YthlflklamgdkfaaDoor
/- Plain words: what two images have alike. No walk here. -/
namespace Go.Proofs.YthlflklamgdkfaaDoor
open Go.RowKit Go.Maps Go.ChangeMaps

/-- an object's tag and bytes; nothing: there is none -/
def objL (l : Bytes) (k : Nat) : Bytes := if hasE (rawE l k) = true then objB l (rawE l k) else []
/-- where a name leads, of a list -/
def leadN (L : List (Bytes × Nat)) (s : Bytes) : Option Nat := L.foldl (fun o x => if s = x.1 then some x.2 else o) none
def leadC (L : List (Bytes × Nat)) : Nat := (L.foldl (fun (p : List (Bytes × Nat) × Nat) x => (p.1 ++ [x], if (leadN p.1 x.1).isSome then p.2 else p.2 + 1)) ([], 0)).2
theorem leadN_snoc (L : List (Bytes × Nat)) (x : Bytes × Nat) (s : Bytes) : leadN (L ++ [x]) s = if s = x.1 then some x.2 else leadN L s := by
  unfold leadN; rw [List.foldl_append]; rfl
theorem leadC_fst (L : List (Bytes × Nat)) : ∀ (P : List (Bytes × Nat)) (n : Nat), (L.foldl (fun (p : List (Bytes × Nat) × Nat) x => (p.1 ++ [x], if (leadN p.1 x.1).isSome then p.2 else p.2 + 1)) (P, n)).1 = P ++ L := by
  induction L with
  | nil => intro P n; simp
  | cons x L ih => intro P n; rw [List.foldl_cons, ih]; simp
theorem leadC_snoc (L : List (Bytes × Nat)) (x : Bytes × Nat) : leadC (L ++ [x]) = if (leadN L x.1).isSome then leadC L else leadC L + 1 := by
  unfold leadC
  rw [List.foldl_append, List.foldl_cons, List.foldl_nil, leadC_fst]
  simp only [List.nil_append]
theorem snoc_ind {α : Type} {p : List α → Prop} (h0 : p []) (h1 : ∀ L x, p L → p (L ++ [x])) (L : List α) : p L := by
  rw [← List.reverse_reverse L]
  induction L.reverse with
  | nil => exact h0
  | cons x L ih => rw [List.reverse_cons]; exact h1 _ _ ih
theorem leadC_le (L : List (Bytes × Nat)) : leadC L ≤ L.length := by
  induction L using snoc_ind with
  | h0 => exact Nat.le_refl _
  | h1 L x ih => rw [leadC_snoc, List.length_append]; split <;> simp <;> omega
theorem leadN_mem {L : List (Bytes × Nat)} {s : Bytes} {h : Nat} (hs : leadN L s = some h) : (s, h) ∈ L := by
  induction L using snoc_ind with
  | h0 => cases hs
  | h1 L x ih =>
    rw [leadN_snoc] at hs
    split at hs
    · rename_i e
      obtain rfl := Option.some.inj hs
      subst e
      simp
    · exact List.mem_append_left _ (ih hs)
theorem leadN_has {L : List (Bytes × Nat)} {x : Bytes × Nat} (hx : x ∈ L) : (leadN L x.1).isSome = true := by
  induction L using snoc_ind with
  | h0 => cases hx
  | h1 L y ih =>
    rw [leadN_snoc]
    split
    · rfl
    · rename_i e
      rcases List.mem_append.1 hx with h | h
      · exact ih h
      · rw [List.mem_singleton.1 h] at e; exact absurd rfl e
/-- the values as the map holds them -/
def leadF (L : List (Bytes × Nat)) (s : Bytes) : Option Value := (leadN L s).map fun h => .int .i64 h
theorem leadF_snoc (L : List (Bytes × Nat)) (x : Bytes × Nat) : leadF (L ++ [x]) = upd (leadF L) x.1 (.int .i64 x.2) := by
  funext s
  unfold leadF upd
  rw [leadN_snoc]
  split <;> rfl
theorem leadF_isSome (L : List (Bytes × Nat)) (s : Bytes) : (leadF L s).isSome = (leadN L s).isSome := by
  unfold leadF; cases leadN L s <;> rfl
/-- do the names of two lists lead alike? -/
def leadsB (x y : List (Bytes × Nat)) : Bool := (x.all fun p => (leadN y p.1).getD 0 == (leadN x p.1).getD 0) && leadC x == leadC y
def objsB (a b : Bytes) : Bool := (List.range 40).all fun k => objL a k == objL b k
/-- have two images the same? -/
def sameB (a b : Bytes) : Bool := objsB a b && leadsB (rootsL a) (rootsL b)
theorem objsB_false {a b : Bytes} {k : Nat} (hk : k < 40) (h : objL a k ≠ objL b k) : sameB a b = false := by
  unfold sameB objsB
  rw [Bool.and_eq_false_iff]
  left
  rw [List.all_eq_false]
  exact ⟨k, List.mem_range.2 hk, by simpa using h⟩
theorem objsB_true {a b : Bytes} (h : ∀ k, k < 40 → objL a k = objL b k) : objsB a b = true := by
  unfold objsB
  rw [List.all_eq_true]
  intro k hk
  simpa using h k (List.mem_range.1 hk)
theorem leadsB_refl (x : List (Bytes × Nat)) : leadsB x x = true := by
  unfold leadsB; simp
theorem sameB_refl (a : Bytes) : sameB a a = true := by
  unfold sameB
  rw [objsB_true fun _ _ => rfl, leadsB_refl]; rfl
end Go.Proofs.YthlflklamgdkfaaDoor
/- When the reference calls two images the same: the plain law, and its contract. -/
namespace Go.Proofs.YthlflklamgdkfaaDoor
open Go.RowKit

/-- names that differ -/
def NamesD (L : List (Bytes × Nat)) : Prop := L.Pairwise fun a b => a.1 ≠ b.1
theorem find_map_congr {L : List (Bytes × Nat)} (s : Bytes) : leadR L s = ((L.find? (fun r => r.1 == s)).map Prod.snd).getD 0 := by
  unfold leadR
  cases L.find? (fun r => r.1 == s) <;> rfl
theorem leadN_find {L : List (Bytes × Nat)} (h : NamesD L) (s : Bytes) : leadN L s = (L.find? (fun r => r.1 == s)).map Prod.snd := by
  induction L using snoc_ind with
  | h0 => rfl
  | h1 L x ih =>
    unfold NamesD at h
    rw [List.pairwise_append] at h
    obtain ⟨hL, _, hx⟩ := h
    rw [leadN_snoc, List.find?_append]
    by_cases e : s = x.1
    · rw [if_pos e]
      have hn : L.find? (fun r => r.1 == s) = none := List.find?_eq_none.2 (fun r hr => by
        have := hx r hr x (by simp)
        simpa [e] using this)
      rw [hn, Option.none_or, List.find?_cons_of_pos (by simp [e])]
      rfl
    · rw [if_neg e, ih hL, List.find?_cons_of_neg (by simpa using fun h => e h.symm), List.find?_nil, Option.or_none]
theorem leadR_N {L : List (Bytes × Nat)} (h : NamesD L) (s : Bytes) : leadR L s = (leadN L s).getD 0 := by rw [leadN_find h, find_map_congr]
theorem NamesD.inj {L : List (Bytes × Nat)} (h : NamesD L) {x y : Bytes × Nat} (hx : x ∈ L) (hy : y ∈ L) (e : x.1 = y.1) : x = y := by
  obtain ⟨i, hi, rfl⟩ := List.getElem_of_mem hx
  obtain ⟨j, hj, rfl⟩ := List.getElem_of_mem hy
  have hp := List.pairwise_iff_getElem.1 h
  rcases Nat.lt_trichotomy i j with hij | rfl | hij
  · exact absurd e (hp i j hi hj hij)
  · rfl
  · exact absurd e.symm (hp j i hj hi hij)
theorem leadN_own {L : List (Bytes × Nat)} (h : NamesD L) {x : Bytes × Nat} (hx : x ∈ L) : leadN L x.1 = some x.2 := by
  have h1 := leadN_has hx
  cases hn : leadN L x.1 with
  | none => rw [hn] at h1; cases h1
  | some k =>
    have := h.inj (leadN_mem hn) hx rfl
    rw [← this]
theorem leadC_len {L : List (Bytes × Nat)} (h : NamesD L) : leadC L = L.length := by
  induction L using snoc_ind with
  | h0 => rfl
  | h1 L x ih =>
    have h' := h
    unfold NamesD at h
    rw [List.pairwise_append] at h
    obtain ⟨hL, _, hx⟩ := h
    rw [leadC_snoc, ih hL, List.length_append]
    have hn : (leadN L x.1).isSome = false := by
      cases hn : leadN L x.1 with
      | none => rfl
      | some k => exact absurd rfl (hx _ (leadN_mem hn) x (by simp))
    rw [hn]; rfl
theorem Good.names {l : Bytes} (h : Good l) : NamesD (rootsL l) := by
  unfold NamesD rootsL rootsF
  rw [List.pairwise_map]
  have hp : (List.range 8).Pairwise (fun a b => a < b) := List.pairwise_lt_range
  refine (hp.filter (fun i => !zeroE (rawR l i))).imp_of_mem ?_
  intro a b ha hb hab
  have ha := List.mem_filter.1 ha
  have hb := List.mem_filter.1 hb
  have z1 : zeroE (rawR l a) = false := by simpa using ha.2
  have z2 : zeroE (rawR l b) = false := by simpa using hb.2
  have a8 := List.mem_range.1 ha.1
  have b8 := List.mem_range.1 hb.1
  have g : ∀ i, i < 8 → zeroE (rawR l i) = false → gotName ((rawR l i).take 8) = true := fun i hi hz => by
    have := h.s.root i hi hz
    unfold badR at this
    simp only [Bool.or_eq_false_iff] at this
    simpa using this.1.1.1
  unfold rootP
  rw [if_pos (g a a8 z1), if_pos (g b b8 z2)]
  exact fun e => h.s.name b b8 a hab z2 z1 e.symm
/-- as the reference tells it -/
def rsameB (a b : Bytes) : Bool := ((List.range 40).all fun k => objT a k == objT b k && objS a k == objS b k) && ((rootsL a).all (fun r => leadR (rootsL b) r.1 == r.2) && (rootsL a).length == (rootsL b).length)
theorem objT_range {l : Bytes} (h : Good l) {k : Nat} (hk : k < 40) (hh : hasE (rawE l k) = true) : objT l k = rTag (rawE l k) ∧ 0 ≤ rTag (rawE l k) ∧ rTag (rawE l k) ≤ 15 := by
  have := strayE_false (h.s.fit k hk hh)
  unfold objT
  rw [if_pos hh]
  exact ⟨rfl, this.1.1, this.1.2⟩
theorem obj_same {a b : Bytes} (ha : Good a) (hb : Good b) {k : Nat} (hk : k < 40) : (objL a k == objL b k) = (objT a k == objT b k && objS a k == objS b k) := by
  cases h1 : hasE (rawE a k) with
  | false =>
    have ta : objT a k = -1 := by unfold objT; rw [if_neg (by rw [h1]; decide)]
    have sa : objS a k = [] := by unfold objS; rw [if_neg (by rw [h1]; decide)]
    have la : objL a k = [] := by unfold objL; rw [if_neg (by rw [h1]; decide)]
    cases h2 : hasE (rawE b k) with
    | false =>
      have tb : objT b k = -1 := by unfold objT; rw [if_neg (by rw [h2]; decide)]
      have sb : objS b k = [] := by unfold objS; rw [if_neg (by rw [h2]; decide)]
      have lb : objL b k = [] := by unfold objL; rw [if_neg (by rw [h2]; decide)]
      rw [ta, sa, la, tb, sb, lb]; rfl
    | true =>
      obtain ⟨tb, t0, t1⟩ := objT_range hb hk h2
      have lb : objL b k = objB b (rawE b k) := by unfold objL; rw [if_pos h2]
      have e : (-1 == rTag (rawE b k)) = false := by simp; omega
      rw [ta, la, tb, lb, e]
      rfl
  | true =>
    obtain ⟨ta, t0, t1⟩ := objT_range ha hk h1
    have sa : objS a k = (a.drop (rAt (rawE a k))).take (rLen (rawE a k)) := by unfold objS; rw [if_pos h1]
    have la : objL a k = objB a (rawE a k) := by unfold objL; rw [if_pos h1]
    cases h2 : hasE (rawE b k) with
    | false =>
      have tb : objT b k = -1 := by unfold objT; rw [if_neg (by rw [h2]; decide)]
      have lb : objL b k = [] := by unfold objL; rw [if_neg (by rw [h2]; decide)]
      have e : (rTag (rawE a k) == -1) = false := by simp; omega
      rw [ta, la, tb, lb, e]
      rfl
    | true =>
      obtain ⟨tb, u0, u1⟩ := objT_range hb hk h2
      have sb : objS b k = (b.drop (rAt (rawE b k))).take (rLen (rawE b k)) := by unfold objS; rw [if_pos h2]
      have lb : objL b k = objB b (rawE b k) := by unfold objL; rw [if_pos h2]
      rw [ta, sa, la, tb, sb, lb]
      unfold objB
      generalize (a.drop (rAt (rawE a k))).take (rLen (rawE a k)) = X at *
      generalize (b.drop (rAt (rawE b k))).take (rLen (rawE b k)) = Y at *
      generalize rTag (rawE a k) = ga at *
      generalize rTag (rawE b k) = gb at *
      have e : (UInt8.ofNat ga.toNat = UInt8.ofNat gb.toNat) ↔ ga = gb := by
        constructor
        · intro h
          have := congrArg UInt8.toNat h
          rw [UInt8.toNat_ofNat', UInt8.toNat_ofNat', Nat.mod_eq_of_lt (by omega), Nat.mod_eq_of_lt (by omega)] at this
          omega
        · rintro rfl; rfl
      rw [Bool.eq_iff_iff]
      simp [e]
theorem rsame_eq {a b : Bytes} (ha : Good a) (hb : Good b) : rsameB a b = sameB a b := by
  unfold rsameB sameB objsB leadsB
  rw [leadC_len ha.names, leadC_len hb.names]
  congr 1
  · rw [Bool.eq_iff_iff, List.all_eq_true, List.all_eq_true]
    constructor
    · intro h k hk; rw [obj_same ha hb (List.mem_range.1 hk)]; exact h k hk
    · intro h k hk; rw [← obj_same ha hb (List.mem_range.1 hk)]; exact h k hk
  · congr 1
    rw [Bool.eq_iff_iff, List.all_eq_true, List.all_eq_true]
    constructor
    · intro h r hr
      have := h r hr
      rw [leadN_own ha.names hr, ← leadR_N hb.names]
      exact this
    · intro h r hr
      have := h r hr
      rw [leadN_own ha.names hr, ← leadR_N hb.names] at this
      exact this
theorem rsame_obj {a b : Bytes} {k : Nat} (hk : k < 40) (h : ¬ (objT a k = objT b k ∧ objS a k = objS b k)) : rsameB a b = false := by
  unfold rsameB
  rw [Bool.and_eq_false_iff]
  left
  rw [List.all_eq_false]
  refine ⟨k, List.mem_range.2 hk, ?_⟩
  simpa using h
theorem rsame_objs {a b : Bytes} (h : ∀ k, k < 40 → objT a k = objT b k ∧ objS a k = objS b k) : rsameB a b = ((rootsL a).all (fun r => leadR (rootsL b) r.1 == r.2) && (rootsL a).length == (rootsL b).length) := by
  unfold rsameB
  rw [show ((List.range 40).all fun k => objT a k == objT b k && objS a k == objS b k) = true from by
    rw [List.all_eq_true]
    intro k hk
    simpa using h k (List.mem_range.1 hk), Bool.true_and]
set_option maxRecDepth 100000 in
theorem refSame_ok (p off n c p' off' m d : Nat) (a b : Bytes) (w : World) (hn : a.length = n) (hm : b.length = m) (ha : Good a) (hb : Good b) (hnc : n ≤ c) (hmd : m ≤ d) (ra : Rd w (some ⟨p, off, none⟩) a) (rb : Rd w (some ⟨p', off', none⟩) b) :
    Calls Tryd.prog 21 #[.slice (some ⟨p, off, none⟩) n c, .slice (some ⟨p', off', none⟩) m d] w fun e w' => e = .returned (.bool (rsameB a b)) ∧ Below w.heap.size w w' := by
  have OA : Hidden (∀ k : Nat, k < 40 → ∀ W, Below w.heap.size w W → Calls Tryd.prog 39 #[.slice (some ⟨p, off, none⟩) n c, .int .i64 ((k : Int) + 1)] W fun e w' => e = .returned (.tuple #[.int .i64 (objT a k), sv (objS a k)]) ∧ Below W.heap.size W w') := ⟨fun k hk W hW => refObj_ok p off n c a k W hn ha hnc (ra.below hW) hk⟩
  have OB : Hidden (∀ k : Nat, k < 40 → ∀ W, Below w.heap.size w W → Calls Tryd.prog 39 #[.slice (some ⟨p', off', none⟩) m d, .int .i64 ((k : Int) + 1)] W fun e w' => e = .returned (.tuple #[.int .i64 (objT b k), sv (objS b k)]) ∧ Below W.heap.size W w') := ⟨fun k hk W hW => refObj_ok p' off' m d b k W hm hb hmd (rb.below hW) hk⟩
  have RA : Hidden (∀ W, Below w.heap.size w W → Calls Tryd.prog 43 #[.slice (some ⟨p, off, none⟩) n c] W fun e w' => ∃ v, e = .returned v ∧ w'.ownsRow W.heap.size 76 2 v (rootsL a).length ((rootsL a).flatMap rcells) ∧ Below W.heap.size W w') := ⟨fun W hW => refRoots_ok p off n c a W hn (by rw [← hn]; exact ha.1) hnc (ra.below hW)⟩
  have RB : Hidden (∀ W, Below w.heap.size w W → Calls Tryd.prog 43 #[.slice (some ⟨p', off', none⟩) m d] W fun e w' => ∃ v, e = .returned v ∧ w'.ownsRow W.heap.size 76 2 v (rootsL b).length ((rootsL b).flatMap rcells) ∧ Below W.heap.size W w') := ⟨fun W hW => refRoots_ok p' off' m d b W hm (by rw [← hm]; exact hb.1) hmd (rb.below hW)⟩
  have LB : Hidden (∀ s W, Below w.heap.size w W → Calls Tryd.prog 38 #[.slice (some ⟨p', off', none⟩) m d, sv s] W fun e w' => e = .returned (.int .i64 (leadR (rootsL b) s : Int)) ∧ Below W.heap.size W w') := ⟨fun s W hW => refLead_ok p' off' m d b s W hm (by rw [← hm]; exact hb.1) hmd (rb.below hW)⟩
  have NO : Hidden (∀ k, k < 40 → ¬ (objT a k = objT b k ∧ objS a k = objS b k) → rsameB a b = false) := ⟨fun k hk h => rsame_obj hk h⟩
  have YES : Hidden ((∀ k, k < 40 → objT a k = objT b k ∧ objS a k = objS b k) → rsameB a b = ((rootsL a).all (fun r => leadR (rootsL b) r.1 == r.2) && (rootsL a).length == (rootsL b).length)) := ⟨rsame_objs⟩
  have LA8 : Hidden ((rootsL a).length ≤ 8 ∧ (rootsL b).length ≤ 8) := ⟨rootsF_len _ _, rootsF_len _ _⟩
  generalize rootsL a = X at *
  generalize rootsL b = Y at *
  generalize rsameB a b = res at *
  generalize objT a = ta at *
  generalize objT b = tb at *
  generalize objS a = sa at *
  generalize objS b = sb at *
  clear hn hm ha hb hnc hmd ra rb
  go_enter Tryd.func21, Tryd.ntmps21
  go_wp2_with fail
  go_loopg [5] 40 (fun q i wr => ∃ k : Nat, k ≤ 40 ∧ q = 40 - k ∧ i = .int .i64 ((k : Int) + 1) ∧ Hidden (Below w.heap.size w wr ∧ ∀ x, x < k → ta x = tb x ∧ sa x = sb x))
  case atStart => exact ⟨0, by omega, rfl, rfl, ⟨Below.refl _ _, fun x hx => by omega⟩⟩
  case round =>
    obtain ⟨k, hk, rfl, rfl, hst⟩ := hrel
    by_cases hlt : k < 40
    · have t0 : decide ((k : Int) + 1 ≤ 40) = true := by simp; omega
      have q1 : IntKind.i64.wrap ((k : Int) + 1 + 1) = (k : Int) + 1 + 1 := IntWalk.i64_in _ (by omega)
      have H1 := Hidden.mk (OA.out k hlt wr hst.out.1)
      have NK := Hidden.mk (NO.out k hlt)
      have EQ : Hidden (ta k = tb k ∧ sa k = sb k → ∀ x, x < k + 1 → ta x = tb x ∧ sa x = sb x) := ⟨fun h x hx => by
        by_cases hxk : x = k
        · rw [hxk]; exact h
        · exact hst.out.2 x (by omega)⟩
      have HB := Hidden.mk hst.out.1
      clear hst
      go_wp2_with fail
      refine H1.out.mono ?_
      rintro e w2 ⟨rfl, hb2⟩
      have HB2 := Hidden.mk (HB.out.trans (hb2.mono HB.out.size))
      have H2 := Hidden.mk (OB.out k hlt w2 HB2.out)
      clear hb2 H1 HB
      generalize ta k = ak at *
      generalize tb k = bk at *
      generalize sa k = sk at *
      generalize sb k = uk at *
      go_wp2_with fail
      refine H2.out.mono ?_
      rintro e w3 ⟨rfl, hb3⟩
      have HB3 := Hidden.mk (HB2.out.trans (hb3.mono HB2.out.size))
      clear hb3 H2 HB2 t0
      by_cases e1 : ak = bk
      · have d1 : (ak != bk) = false := by simpa using e1
        by_cases e2 : sk = uk
        · have d2 : (sk == uk) = true := by simpa using e2
          have EE := Hidden.mk (EQ.out ⟨e1, e2⟩)
          clear e1 EQ NK
          go_wp2_with fail
          go_roundg (40 - (k + 1))
          case measure => omega
          case rel => exact ⟨k + 1, by omega, rfl, by go_num, ⟨HB3.out, EE.out⟩⟩
        · have d2 : (sk == uk) = false := by simpa using e2
          have hres := NK.out (fun h => e2 h.2)
          clear e1 e2 EQ NK
          go_wp2_with fail
          go_ret
          exact ⟨by rw [hres]; rfl, HB3.out⟩
      · have d1 : (ak != bk) = true := by simpa using e1
        have hres := NK.out (fun h => e1 h.1)
        clear e1 EQ NK
        go_wp2_with fail
        go_ret
        exact ⟨by rw [hres]; rfl, HB3.out⟩
    · obtain rfl : k = 40 := by omega
      have t0 : decide (((40 : Nat) : Int) + 1 ≤ 40) = false := by decide
      have YE := Hidden.mk (YES.out hst.out.2)
      have H1 := Hidden.mk (RA.out wr hst.out.1)
      have HB := Hidden.mk hst.out.1
      clear hst YES NO
      go_wp2_with fail
      refine H1.out.mono ?_
      rintro e w2 ⟨v2, rfl, hown2, hb2⟩
      obtain ⟨A2, c2, rfl, hc2, -⟩ := own_split hown2
      have HX2 := Hidden.mk (own_rdX3 (f := rcells) (fun _ => rfl) rfl hown2)
      have HB2 := Hidden.mk (HB.out.trans (hb2.mono HB.out.size))
      have H2 := Hidden.mk (RB.out w2 HB2.out)
      clear hown2 hb2 H1 HB t0
      go_wp2_with fail
      refine H2.out.mono ?_
      rintro e w3 ⟨v3, rfl, hown3, hb3⟩
      obtain ⟨A3, c3, rfl, hc3, -⟩ := own_split hown3
      have HX3 := Hidden.mk (HX2.out.below hb3)
      have HB3 := Hidden.mk (HB2.out.trans (hb3.mono HB2.out.size))
      clear hown3 hb3 H2 HB2 HX2
      go_wp2_with fail
      go_loopg [12] X.length (fun q i wr => ∃ j : Nat, j ≤ X.length ∧ q = X.length - j ∧ i = .int .i64 (j : Int) ∧ Hidden (Below w3.heap.size w3 wr ∧ (X.take j).all (fun r => leadR Y r.1 == r.2) = true))
      case atStart => exact ⟨0, by omega, rfl, rfl, ⟨Below.refl _ _, rfl⟩⟩
      case round =>
        obtain ⟨j, hj, rfl, rfl, hst⟩ := hrel
        by_cases hlt : j < X.length
        · obtain ⟨pp, oo, rfl, hcx⟩ := (HX3.out.below hst.out.1) j hlt
          have x0 := hcx 0 _ rfl
          have x1 := hcx 1 _ rfl
          rw [Nat.add_zero] at x0
          have lt1 := block_lt_of_cell x1
          have k0 : (0 : Int) ≤ j := by omega
          have k1 : (j : Int) < X.length := by omega
          have s1 : IntKind.i64.wrap ((j : Int) + 1) = (j : Int) + 1 := IntWalk.i64_in _ (by have := LA8.out; omega)
          have NX : Hidden ((leadR Y X[j].1 == X[j].2) = true → (X.take (j + 1)).all (fun r => leadR Y r.1 == r.2) = true) := ⟨fun h => by rw [List.take_succ_eq_append_getElem hlt, List.all_append, hst.out.2]; simpa using h⟩
          have NO2 : Hidden ((leadR Y X[j].1 == X[j].2) = false → res = false) := ⟨fun h => by
            rw [YE.out, Bool.and_eq_false_iff]
            left
            rw [List.all_eq_false]
            exact ⟨X[j], List.getElem_mem hlt, by rw [h]; decide⟩⟩
          have HL : Hidden (∀ W, Below wr.heap.size wr W → Calls Tryd.prog 38 #[.slice (some ⟨p', off', none⟩) m d, sv X[j].1] W fun e w' => e = .returned (.int .i64 (leadR Y X[j].1 : Int)) ∧ Below W.heap.size W w') := ⟨fun W hW => LB.out X[j].1 W ((HB3.out.trans (hst.out.1.mono HB3.out.size)).trans (hW.mono (HB3.out.trans (hst.out.1.mono HB3.out.size)).size))⟩
          have HBW := Hidden.mk hst.out.1
          have HX1 : Hidden (∀ W, Below wr.heap.size wr W → W.cell? ⟨pp, oo + j * 2, none⟩ = some (sv X[j].1) ∧ W.cell? ⟨pp, oo + j * 2 + 1, none⟩ = some (.int .i64 X[j].2)) := ⟨fun W hW => ⟨(hW.cell (p := ⟨pp, oo + j * 2, none⟩) lt1).trans x0, (hW.cell (p := ⟨pp, oo + j * 2 + 1, none⟩) lt1).trans x1⟩⟩
          generalize X[j] = x at *
          obtain ⟨xs, xh⟩ := x
          dsimp only at *
          generalize leadR Y xs = ld at *
          clear hcx hst lt1 x0 x1
          by_cases e1 : ld = xh
          · have d1 : ((ld : Int) != (xh : Int)) = false := by simp; omega
            have EE := Hidden.mk (NX.out (by simpa using e1))
            clear NX NO2 e1
            go_wp2_with fail
            go_region_held3 (fun W => W.cell? ⟨pp, oo + j * 2, none⟩ = some (sv xs) ∧ W.cell? ⟨pp, oo + j * 2 + 1, none⟩ = some (.int .i64 xh)) (first | exact HX1.out _ (Below.refl _ _).drew | exact HX1.out _ ((Below.refl _ _).drew.trans hb5))
              ((go_at_call 38; refine (HL.out _ (Below.refl _ _).drew).mono ?_; rintro e w5 ⟨rfl, hb5⟩))
            have HB5 := Hidden.mk (HBW.out.trans (((Below.refl _ _).drew.trans hb5).mono HBW.out.size))
            clear hb5 HL HX1
            go_wp2_with fail
            go_roundg (X.length - (j + 1))
            case measure => omega
            case rel => exact ⟨j + 1, by omega, rfl, by go_num, ⟨HB5.out, EE.out⟩⟩
          · have d1 : ((ld : Int) != (xh : Int)) = true := by simp; omega
            have hres := NO2.out (by simpa using e1)
            clear NX NO2 e1
            go_wp2_with fail
            go_region_held3 (fun W => W.cell? ⟨pp, oo + j * 2, none⟩ = some (sv xs) ∧ W.cell? ⟨pp, oo + j * 2 + 1, none⟩ = some (.int .i64 xh)) (first | exact HX1.out _ (Below.refl _ _).drew | exact HX1.out _ ((Below.refl _ _).drew.trans hb5))
              ((go_at_call 38; refine (HL.out _ (Below.refl _ _).drew).mono ?_; rintro e w5 ⟨rfl, hb5⟩))
            have HB5 := Hidden.mk (HBW.out.trans (((Below.refl _ _).drew.trans hb5).mono HBW.out.size))
            clear hb5 HL HX1
            go_wp2_with fail
            go_ret
            exact ⟨by rw [hres]; rfl, HB3.out.trans (HB5.out.mono HB3.out.size)⟩
        · obtain rfl : j = X.length := by omega
          have hall := hst.out.2
          rw [List.take_of_length_le (Nat.le_refl _)] at hall
          have hres := YE.out
          rw [hall, Bool.true_and] at hres
          have HB5 := Hidden.mk (HB3.out.trans (hst.out.1.mono HB3.out.size))
          have hres : res = ((X.length : Int) == (Y.length : Int)) := by
            rw [hres, Bool.eq_iff_iff]; simp; omega
          clear hst hall YE
          go_wp2_with fail
          go_ret
          exact ⟨by rw [hres]; rfl, HB5.out⟩
end Go.Proofs.YthlflklamgdkfaaDoor
/- The contract of check.Leads. -/
namespace Go.Proofs.YthlflklamgdkfaaDoor
open Go.RowKit Go.Maps Go.ChangeMaps

def strL (s : Bytes) : Lit := .string s
theorem strL_inj (x y : Bytes) (h : strL x = strL y) : x = y := by
  unfold strL at h; injection h
theorem str_keyed : Go.Maps.Keyed Tryd.prog 9 := Go.Maps.string_keyed Tryd.underlying9
theorem str_key {s : Bytes} (hs : s.length ≤ 100000) : keyOf Tryd.prog 9 (sv s) = some (strL s) := by
  have := Go.WideMaps.keyOf_string_mk (P := Tryd.prog) Tryd.underlying9 (s := ⟨s.toArray⟩) (by unfold maxLen; simp [ByteArray.size]; omega)
  simpa [strL] using this
theorem rcells_len2 (x : Bytes × Nat) : (rcells x).length = 2 := rfl
theorem rootP_len (S : Nat → Bytes) (m : Nat) (x : Bytes × Nat) (h : x ∈ rootsF S m) : x.1.length ≤ 8 := by
  unfold rootsF at h
  obtain ⟨i, _, rfl⟩ := List.mem_map.1 h
  unfold rootP
  split
  · unfold nmR nameAt
    rw [List.length_take, List.length_take]; omega
  · simp
set_option maxRecDepth 100000 in
theorem leads_ok (A : Option Addr) (n c : Nat) (l : Bytes) (w : World) (hn : l.length = n) (hr : rightB n = true) (hnc : n ≤ c) (hrd : Rd w A l) :
    Calls Tryd.prog 94 #[.slice A n c] w fun e w' => ∃ b, e = .returned (.map (some b)) ∧ w.heap.size ≤ b ∧ IM Tryd.prog 9 strL w' b (leadF (rootsL l)) (leadC (rootsL l)) ∧ Below w.heap.size w w' := by
  have hB0 : Below w.heap.size w (w.alloc (.map #[] 0)) := (Below.refl _ _).alloc (Nat.le_refl _) _
  have hI0 : IM Tryd.prog 9 strL (w.alloc (.map #[] 0)) w.heap.size (fun _ => none) 0 := IM.made w
  have HI0 := Hidden.mk hI0
  have HB0 := Hidden.mk hB0
  have HSZ : Hidden ((w.alloc (.map #[] 0)).heap.size = w.heap.size + 1) := ⟨by simp⟩
  have HR := Hidden.mk (iroots_ok A n c l (w.alloc (.map #[] 0)) hn hr hnc (hrd.below hB0))
  have hlr := rootsF_len (rawR l) 8
  have HNM : Hidden (∀ x ∈ rootsL l, x.1.length ≤ 8) := ⟨fun x hx => rootP_len _ _ x hx⟩
  have HLR : Hidden ((rootsL l).length ≤ 8) := ⟨hlr⟩
  generalize rootsL l = L at *
  clear hI0 hB0 hlr hr hrd hn
  have hmm := @run_makeMap Tryd.prog
  go_enter Tryd.func94, Tryd.ntmps94
  go_wp2_with fail
  generalize hw0 : w.alloc (.map #[] 0) = w0 at *
  have HW0 := Hidden.mk hw0
  clear hw0 hmm
  refine HR.out.mono ?_
  rintro e w1 ⟨v1, rfl, hown, hb1⟩
  have hI1 : IM Tryd.prog 9 strL w1 w.heap.size (leadF (L.take 0)) (leadC (L.take 0)) := HI0.out.block (hb1.block _ (by have := HSZ.out; omega))
  have hB1 := HB0.out.trans (hb1.mono HB0.out.size)
  obtain ⟨A1, c1, hv1, hc1, -⟩ := own_split hown
  subst hv1
  have HL8 := HLR.out
  generalize hm : L.length = m at *
  have HM := Hidden.mk hm
  clear hm hb1 HR
  go_wp2_with fail
  go_loopg [16] m (fun q i wr => ∃ k : Nat, k ≤ m ∧ q = m - k ∧ i = .int .i64 (k : Int) ∧ Below w.heap.size w wr ∧ wr.ownsRow w0.heap.size 76 2 (.slice A1 m c1) m (L.flatMap rcells) ∧ IM Tryd.prog 9 strL wr w.heap.size (leadF (L.take k)) (leadC (L.take k)))
  case atStart => exact ⟨0, by omega, rfl, rfl, hB1, hown, hI1⟩
  case round =>
    obtain ⟨k, hk, rfl, rfl, hbel, hown, him⟩ := hrel
    by_cases hlt : k < m
    · have hlt' : k < L.length := by have := HM.out; omega
      obtain ⟨g, off, rfl, hg, hgl, hcx⟩ := own_at rcells_len2 hown k hlt' (by omega)
      have c0 := hcx 0 _ rfl
      have c1 := hcx 1 _ rfl
      rw [Nat.add_zero] at c0
      have hs8 := HNM.out L[k] (List.getElem_mem hlt')
      have hts : L.take (k + 1) = L.take k ++ [L[k]] := List.take_succ_eq_append_getElem hlt'
      have HF : Hidden (leadF (L.take (k + 1)) = upd (leadF (L.take k)) L[k].1 (.int .i64 L[k].2)) := ⟨by rw [hts, leadF_snoc]⟩
      have HC : Hidden (leadC (L.take (k + 1)) = if (leadF (L.take k) L[k].1).isSome then leadC (L.take k) else leadC (L.take k) + 1) := ⟨by rw [hts, leadC_snoc, leadF_isSome]⟩
      have hcl : leadC (L.take k) ≤ k := Nat.le_trans (leadC_le _) (List.length_take_le _ _)
      generalize L[k].1 = s at *
      generalize L[k].2 = h at *
      have hal : Below wr.heap.size wr (wr.alloc (.cells #[sv s, .int .i64 (h : Int)] 76)) := (Below.refl _ _).alloc (Nat.le_refl _) _
      have hown2 := own_below hown hal
      have hb2 : Below w.heap.size w (wr.alloc (.cells #[sv s, .int .i64 (h : Int)] 76)) := hbel.trans (hal.mono hbel.size)
      have him2 : IM Tryd.prog 9 strL (wr.alloc (.cells #[sv s, .int .i64 (h : Int)] 76)) w.heap.size (leadF (L.take k)) (leadC (L.take k)) := him.block (hal.block _ him.lt)
      obtain ⟨w5, hrun, him5, hg5, hs5⟩ := him2.store (T := 156) str_keyed strL_inj Tryd.underlying156 (by unfold maxLen; omega) (str_key (s := s) (by omega)) (.int .i64 (h : Int))
      have hown5 := hown2.kept hg5 (.inr (fun e => by have := (hown2.lt _ e).1; have := HSZ.out; omega))
      have hB5 : Below w.heap.size w w5 := hb2.grown hg5 hb2.size (fun q hq => by injection hq with hq; omega)
      have hlt5 : (k : Int) < m := by omega
      rw [← HF.out, ← HC.out] at him5
      have H5 := Hidden.mk (And.intro hB5 (And.intro hown5 him5))
      have s1 : IntKind.i64.wrap ((k : Int) + 1) = (k : Int) + 1 := IntWalk.i64_in _ (by omega)
      clear him5 hown5 hB5 hg5 hs5 him2 hown2 hb2 hal hcx hts him hown hbel
      go_wp2_with fail
      go_roundg (m - (k + 1))
      case measure => omega
      case rel => exact ⟨k + 1, by omega, rfl, by go_num, H5.out.1, H5.out.2.1, H5.out.2.2⟩
    · obtain rfl : k = m := by omega
      have hte : L.take k = L := List.take_of_length_le (by have := HM.out; omega)
      rw [hte] at him
      clear hte
      go_wp2_with fail
      go_ret
      exact ⟨w.heap.size, rfl, Nat.le_refl _, him, hbel⟩
end Go.Proofs.YthlflklamgdkfaaDoor
/- Plain facts on applying changes, and turning them. No program in sight. -/
namespace Go.Proofs.YthlflklamgdkfaaDoor

/-- one change applied: a number of an error, or the bytes -/
def apply1 (b : Bytes) (c : Chg) : Except Int Bytes :=
  if c.at_ < 0 ∨ (b.length : Int) < c.at_ ∨ (b.length : Int) - c.at_ < c.old.length then .error 1
  else if c.old.length ≠ c.new.length then .error 3
  else if (b.drop c.at_.toNat).take c.old.length ≠ c.old then .error 6
  else .ok (splice b c.at_.toNat c.new)
/-- changes applied, one after the other -/
def applyL : Bytes → List Chg → Except Int Bytes
  | b, [] => .ok b
  | b, c :: L => match apply1 b c with
    | .error e => .error e
    | .ok b' => applyL b' L
/-- changes turned -/
def turnC (c : Chg) : Chg := ⟨c.at_, c.new, c.old⟩
def turnL (L : List Chg) : List Chg := L.reverse.map turnC

theorem apply1_len {b b' : Bytes} {c : Chg} (h : apply1 b c = .ok b') : b'.length = b.length := by
  unfold apply1 at h
  split at h
  · cases h
  · split at h
    · cases h
    · split at h
      · cases h
      · rename_i h1 h2 h3
        injection h with h
        subst h
        exact length_splice _ _ _ (by omega)
theorem apply1_ok (b old new : Bytes) (j : Nat) (hn : old.length = new.length) (hj : j + old.length ≤ b.length) (ho : (b.drop j).take old.length = old) : apply1 b ⟨j, old, new⟩ = .ok (splice b j new) := by
  unfold apply1
  simp only [Int.toNat_natCast]
  rw [if_neg (by omega), if_neg (by omega), if_neg (by simpa using ho)]
theorem applyL_append (b : Bytes) (L M : List Chg) : applyL b (L ++ M) = match applyL b L with
    | .error e => .error e
    | .ok b' => applyL b' M := by
  induction L generalizing b with
  | nil => rfl
  | cons c L ih =>
    simp only [List.cons_append, applyL]
    cases apply1 b c with
    | error e => rfl
    | ok b' => exact ih b'
theorem applyL_one (b : Bytes) (c : Chg) : applyL b [c] = apply1 b c := by
  simp only [applyL]
  cases apply1 b c <;> rfl
theorem turnL_append (L M : List Chg) : turnL (L ++ M) = turnL M ++ turnL L := by simp [turnL]
theorem turnL_length (L : List Chg) : (turnL L).length = L.length := by simp [turnL]
theorem take_drop_ext (x y : Bytes) (i r : Nat) (h : ∀ p, i ≤ p → p < i + r → x[p]? = y[p]?) : (x.drop i).take r = (y.drop i).take r := by
  apply List.ext_getElem?
  intro p
  rw [List.getElem?_take, List.getElem?_take]
  split
  · rw [List.getElem?_drop, List.getElem?_drop]; exact h _ (by omega) (by omega)
  · rfl
theorem splice_read (l x : Bytes) (o p : Nat) (h : o + x.length ≤ l.length) : (splice l o x)[p]? = if o ≤ p ∧ p < o + x.length then x[p - o]? else l[p]? := by
  split
  · rename_i hp
    have := splice_get l x o (p - o) h (by omega)
    rwa [show o + (p - o) = p from by omega] at this
  · rename_i hp
    exact (splice_same l x o p h (by omega)).symm
theorem cut_read (x : Bytes) (i r p : Nat) (h1 : i ≤ p) (h2 : p < i + r) : ((x.drop i).take r)[p - i]? = x[p]? := by
  rw [List.getElem?_take, if_pos (by omega), List.getElem?_drop]
  congr 1; omega
/-- what has changed makes of the old the new -/
theorem apply_diffF (a b : Bytes) (hl : a.length = b.length) (f : Nat) : ∀ i cur, a.length - i ≤ f → cur.length = a.length → (∀ p, cur[p]? = if p < i then b[p]? else a[p]?) → applyL cur (diffF a b f i) = .ok b := by
  have hend : ∀ i (cur : Bytes), a.length ≤ i → cur.length = a.length → (∀ p, cur[p]? = if p < i then b[p]? else a[p]?) → cur = b := by
    intro i cur hi hc hp
    apply List.ext_getElem?
    intro p
    rw [hp p]
    split
    · rfl
    · rw [List.getElem?_eq_none (by omega), List.getElem?_eq_none (by omega)]
  induction f with
  | zero =>
    intro i cur hf hc hp
    simp only [diffF, applyL]
    rw [hend i cur (by omega) hc hp]
  | succ f ih =>
    intro i cur hf hc hp
    simp only [diffF]
    by_cases hi : i < a.length
    · rw [if_pos hi]
      have hr := runAt_le a b i hl (by omega)
      have hstop : i + runAt a b i < a.length → a[i + runAt a b i]? = b[i + runAt a b i]? := runAt_stop a b i hl
      generalize runAt a b i = r at *
      by_cases h0 : 0 < r
      · rw [if_pos h0, applyL_append, applyL_one]
        have ho : ((a.drop i).take r).length = r := by simp; omega
        have hn : ((b.drop i).take r).length = r := by simp; omega
        have hm : (cur.drop i).take ((a.drop i).take r).length = (a.drop i).take r := by
          rw [ho]
          exact take_drop_ext _ _ _ _ fun p h1 h2 => by rw [hp p, if_neg (by omega)]
        rw [apply1_ok cur _ _ i (by omega) (by omega) hm]
        dsimp only
        refine ih _ _ (by omega) (by rw [length_splice _ _ _ (by omega), hc]) fun p => ?_
        rw [splice_read _ _ _ _ (by omega), hn]
        by_cases h1 : i ≤ p ∧ p < i + r
        · rw [if_pos h1, if_pos (by omega), cut_read _ _ _ _ h1.1 h1.2]
        · rw [if_neg h1, hp p]
          by_cases h2 : p < i
          · rw [if_pos h2, if_pos (by omega)]
          · rw [if_neg h2]
            by_cases h3 : p < i + r + 1
            · rw [if_pos h3]
              obtain rfl : p = i + r := by omega
              by_cases h4 : i + r < a.length
              · exact hstop h4
              · rw [List.getElem?_eq_none (by omega), List.getElem?_eq_none (by omega)]
            · rw [if_neg h3]
      · obtain rfl : r = 0 := by omega
        rw [if_neg h0, List.nil_append]
        refine ih _ _ (by omega) hc fun p => ?_
        rw [hp p]
        by_cases h2 : p < i
        · rw [if_pos h2, if_pos (by omega)]
        · rw [if_neg h2]
          by_cases h3 : p < i + 0 + 1
          · rw [if_pos h3]
            obtain rfl : p = i := by omega
            exact hstop (by omega)
          · rw [if_neg h3]
    · rw [if_neg hi]
      simp only [applyL]
      rw [hend i cur (by omega) hc hp]
theorem apply_diffL (a b : Bytes) (hl : a.length = b.length) : applyL a (diffL a b) = .ok b :=
  apply_diffF a b hl _ 0 a (by omega) rfl fun p => by rw [if_neg (by omega)]
/-- .. and turned, of the new the old -/
theorem apply_turnF (a b : Bytes) (hl : a.length = b.length) (f : Nat) : ∀ i cur, a.length - i ≤ f → cur.length = a.length → (∀ p, i ≤ p → cur[p]? = b[p]?) →
    ∃ c', applyL cur (turnL (diffF a b f i)) = .ok c' ∧ c'.length = a.length ∧ ∀ p, c'[p]? = if p < i then cur[p]? else a[p]? := by
  have hend : ∀ i (cur : Bytes), a.length ≤ i → cur.length = a.length → ∀ p, cur[p]? = if p < i then cur[p]? else a[p]? := by
    intro i cur hi hc p
    split
    · rfl
    · rw [List.getElem?_eq_none (by omega), List.getElem?_eq_none (by omega)]
  induction f with
  | zero =>
    intro i cur hf hc hp
    exact ⟨cur, rfl, hc, hend i cur (by omega) hc⟩
  | succ f ih =>
    intro i cur hf hc hp
    simp only [diffF]
    by_cases hi : i < a.length
    · rw [if_pos hi]
      have hr := runAt_le a b i hl (by omega)
      have hstop : i + runAt a b i < a.length → a[i + runAt a b i]? = b[i + runAt a b i]? := runAt_stop a b i hl
      generalize runAt a b i = r at *
      obtain ⟨c1, h1, hl1, hp1⟩ := ih (i + r + 1) cur (by omega) hc (fun p h => hp p (by omega))
      rw [turnL_append, applyL_append, h1]
      dsimp only
      by_cases h0 : 0 < r
      · rw [if_pos h0]
        have ho : ((a.drop i).take r).length = r := by simp; omega
        have hn : ((b.drop i).take r).length = r := by simp; omega
        have hm : (c1.drop i).take ((b.drop i).take r).length = (b.drop i).take r := by
          rw [hn]
          exact take_drop_ext _ _ _ _ fun p h1 h2 => by rw [hp1 p, if_pos (by omega), hp p (by omega)]
        refine ⟨splice c1 i ((a.drop i).take r), ?_, by rw [length_splice _ _ _ (by omega), hl1], fun p => ?_⟩
        · simp only [turnL, List.reverse_cons, List.reverse_nil, List.nil_append, List.map_cons, List.map_nil, turnC]
          rw [applyL_one]
          exact apply1_ok c1 _ _ i (by omega) (by omega) hm
        · rw [splice_read _ _ _ _ (by omega), ho]
          by_cases h2 : i ≤ p ∧ p < i + r
          · rw [if_pos h2, if_neg (by omega), cut_read _ _ _ _ h2.1 h2.2]
          · rw [if_neg h2, hp1 p]
            by_cases h3 : p < i
            · rw [if_pos (by omega), if_pos h3]
            · rw [if_neg h3]
              by_cases h4 : p < i + r + 1
              · rw [if_pos h4, hp p (by omega)]
                obtain rfl : p = i + r := by omega
                by_cases h5 : i + r < a.length
                · exact (hstop h5).symm
                · rw [List.getElem?_eq_none (by omega), List.getElem?_eq_none (by omega)]
              · rw [if_neg h4]
      · obtain rfl : r = 0 := by omega
        rw [if_neg h0]
        refine ⟨c1, rfl, hl1, fun p => ?_⟩
        rw [hp1 p]
        by_cases h3 : p < i
        · rw [if_pos (by omega), if_pos h3]
        · rw [if_neg h3]
          by_cases h4 : p < i + 0 + 1
          · rw [if_pos h4, hp p (by omega)]
            obtain rfl : p = i := by omega
            exact (hstop (by omega)).symm
          · rw [if_neg h4]
    · rw [if_neg hi]
      exact ⟨cur, rfl, hc, hend i cur (by omega) hc⟩
theorem apply_turnL (a b : Bytes) (hl : a.length = b.length) : applyL b (turnL (diffL a b)) = .ok a := by
  obtain ⟨c, h, hc, hp⟩ := apply_turnF a b hl a.length 0 b (by omega) hl.symm (fun _ _ => rfl)
  have : c = a := List.ext_getElem? fun p => by rw [hp p, if_neg (by omega)]
  rw [this] at h; exact h
/-- where a change begins, and that two do not touch -/
theorem diffF_apart (a b : Bytes) (hl : a.length = b.length) (f : Nat) : ∀ i, ∀ k c d, (diffF a b f i)[k]? = some c → (diffF a b f i)[k + 1]? = some d → c.at_ + (c.old.length : Int) < d.at_ := by
  induction f with
  | zero => intro i k c d h; simp [diffF] at h
  | succ f ih =>
    intro i k c d h1 h2
    simp only [diffF] at h1 h2
    split at h1
    · rename_i hi
      rw [if_pos hi] at h2
      split at h1
      · rename_i h0
        rw [if_pos h0] at h2
        cases k with
        | zero =>
          simp only [List.singleton_append, List.getElem?_cons_zero, Option.some.injEq, List.getElem?_cons_succ] at h1 h2
          obtain ⟨j, r, hj⟩ := diffF_mem a b hl f _ d (List.mem_of_getElem? h2)
          have hle := runAt_le a b i hl (by omega)
          have ho : ((a.drop i).take (runAt a b i)).length = runAt a b i := by simp; omega
          subst h1
          rw [hj.at_]
          have := hj.lo
          dsimp only
          rw [ho]
          omega
        | succ k =>
          simp only [List.singleton_append, List.getElem?_cons_succ] at h1 h2
          exact ih _ k c d h1 h2
      · rename_i h0
        rw [if_neg h0] at h2
        exact ih _ k c d h1 h2
    · simp at h1
end Go.Proofs.YthlflklamgdkfaaDoor
/- The contract of diff.Apply. -/
namespace Go.Proofs.YthlflklamgdkfaaDoor
open Go.RowKit

/-- the cells of one change, wherever its bytes lie -/
structure ChAny (w : World) (g off i : Nat) (c : Chg) (Ao An : Option Addr) (co cn : Nat) : Prop where
  at_ : w.cell? ⟨g, off + i * 3, none⟩ = some (.int .i64 c.at_)
  old : w.cell? ⟨g, off + i * 3 + 1, none⟩ = some (.slice Ao c.old.length co)
  new : w.cell? ⟨g, off + i * 3 + 2, none⟩ = some (.slice An c.new.length cn)
  rdO : Rd w Ao c.old
  rdN : Rd w An c.new
  leO : c.old.length ≤ co
  leN : c.new.length ≤ cn
/-- the slice at A has the changes L, wherever their bytes lie -/
def RdG (w : World) (A : Option Addr) (L : List Chg) : Prop := ∀ i (h : i < L.length), ∃ g off Ao An co cn, A = some ⟨g, off, none⟩ ∧ ChAny w g off i L[i] Ao An co cn
theorem RdC.rdg {w : World} {A : Option Addr} {L : List Chg} (h : RdC w A L) : RdG w A L := fun i hi => by
  obtain ⟨g, off, go, co, gn, cn, hA, hc⟩ := h i hi
  exact ⟨g, off, _, _, co, cn, hA, hc.at_, hc.old, hc.new, hc.rowO.rd, hc.rowN.rd, hc.rowO.le.1, hc.rowN.le.1⟩
theorem ChAny.below {w w' : World} {g off i : Nat} {c : Chg} {Ao An : Option Addr} {co cn : Nat} (h : ChAny w g off i c Ao An co cn) (hb : Below w.heap.size w w') : ChAny w' g off i c Ao An co cn :=
  ⟨(hb.cell (block_lt_of_cell h.at_)).trans h.at_, (hb.cell (block_lt_of_cell h.old)).trans h.old, (hb.cell (block_lt_of_cell h.new)).trans h.new, h.rdO.below hb, h.rdN.below hb, h.leO, h.leN⟩
theorem RdG.below {w w' : World} {A : Option Addr} {L : List Chg} (h : RdG w A L) (hb : Below w.heap.size w w') : RdG w' A L := fun i hi => by
  obtain ⟨g, off, Ao, An, co, cn, hA, hc⟩ := h i hi
  exact ⟨g, off, Ao, An, co, cn, hA, hc.below hb⟩

/-- b[i:k] of bytes, wherever i stands -/
theorem run_cut_any (A : Option Addr) (n c i k : Nat) (hik : i ≤ k) (hkc : k ≤ c) (W : World) :
    (Instr.sliceAt 22 (.slice A n c) (some (.int .i64 i)) (some (.int .i64 k)) none).run Tryd.prog W = .ok (.slice (if c = i then A else A.map (·.add i)) (k - i) (c - i)) W := by
  obtain ⟨i0, hi0, hz0, hz1, hz2⟩ := info_parts byte_info
  simp [Instr.sliceAt, Instr.slice, Instr.sliceBounds, Instr.sliceBound, run_underlying Tryd.underlying22, asIntOf, sizeOf, typeInfo, hi0, hz1, hik, hkc]
/-- b[i:] of bytes -/
theorem run_tail_any (A : Option Addr) (n c i : Nat) (hin : i ≤ n) (W : World) :
    (Instr.sliceAt 22 (.slice A n c) (some (.int .i64 i)) none none).run Tryd.prog W = .ok (.slice (if c = i then A else A.map (·.add i)) (n - i) (c - i)) W := by
  obtain ⟨i0, hi0, hz0, hz1, hz2⟩ := info_parts byte_info
  simp [Instr.sliceAt, Instr.slice, Instr.sliceBounds, Instr.sliceBound, run_underlying Tryd.underlying22, asIntOf, sizeOf, typeInfo, hi0, hz1, hin]

theorem apply_e4 (A B : Option Addr) (n m c d : Nat) (w : World) (h : 200 < m) :
    Calls Tryd.prog 74 #[.slice A n c, .slice B m d] w fun e w' => e = .returned (.tuple #[.slice none 0 0, .iface 149 (.int .i64 4)]) ∧ w = w' := by
  go_enter Tryd.func74, Tryd.ntmps74
  go_wp2
  go_ret2
  exact ⟨rfl, rfl⟩

set_option maxRecDepth 100000 in
theorem apply_some (ad : Addr) (n c : Nat) (b : Bytes) (LA : Option Addr) (m d : Nat) (L : List Chg) (w : World) (hn : b.length = n) (hnl : n ≤ 140737488351232) (hb : Rd w (some ad) b) (hm : L.length = m) (hm2 : m ≤ 200) (hmd : m ≤ d) (hL : RdG w LA L) :
    Calls Tryd.prog 74 #[.slice (some ad) n c, .slice LA m d] w fun e w' => Below w.heap.size w w' ∧ ((∃ x, applyL b L = .error x ∧ e = .returned (.tuple #[.slice none 0 0, .iface 149 (.int .i64 x)])) ∨
      ∃ b' g cap, applyL b L = .ok b' ∧ e = .returned (.tuple #[.slice (some ⟨g, 0, none⟩) n cap, .nilIface]) ∧ w.heap.size ≤ g ∧ b'.length = n ∧ Row w' 5 g cap b') := by
  subst hn hm
  go_enter Tryd.func74, Tryd.ntmps74
  go_wp2_with fail
  refine (clone_some ad b.length c b _ rfl hnl hb).mono ?_
  rintro e w1 ⟨g, cap, rfl, hg, hrow1, hb1⟩
  have hcap := hrow1.le.1
  go_wp2_with fail
  go_loopw [17] (fun kv wr => ∃ (k : Nat) (cur : Bytes), kv = .int .i64 k ∧ k ≤ L.length ∧ cur.length = b.length ∧ Below w.heap.size w wr ∧ Row wr 5 g cap cur ∧ Hidden (applyL cur (L.drop k) = applyL b L)) (fun kv _ => L.length - (intOf kv).toNat)
  case atStart => exact ⟨0, b, rfl, Nat.zero_le _, rfl, hb1, hrow1, ⟨by simp⟩⟩
  case round =>
    obtain ⟨k, cur, rfl, hk, hcl, hbel, hrow, HL⟩ := hrel
    by_cases hlt : k < L.length
    · have HD : Hidden (applyL b L = match apply1 cur L[k] with | .error e => .error e | .ok b' => applyL b' (L.drop (k + 1))) := ⟨by
        rw [← HL.out, List.drop_eq_getElem_cons hlt]; rfl⟩
      clear HL
      obtain ⟨gl, off, Ao, An, co, cn, rfl, hc⟩ := (hL.below hbel) k hlt
      have k0 : (0 : Int) ≤ k := by omega
      have k1 : (k : Int) < L.length := by omega
      obtain ⟨a1, a2, a3, rO, rN, lO, lN⟩ := hc
      generalize L[k] = ch at *
      obtain ⟨at_, old, new⟩ := ch
      dsimp only at a1 a2 a3 rO rN lO lN HD
      generalize ho : old.length = no at *
      generalize hnw : new.length = nn at *
      have hgl : g < wr.heap.size := hrow.lt
      by_cases h1 : at_ < 0
      · have HE : Hidden (applyL b L = .error 1) := ⟨by rw [HD.out]; simp [apply1, h1]⟩
        clear HD
        go_wp2_with fail
        go_ret2
        exact ⟨hbel.alloc hbel.size _, .inl ⟨1, HE.out, rfl⟩⟩
      · obtain ⟨j, rfl⟩ := Int.eq_ofNat_of_zero_le (show 0 ≤ at_ by omega)
        by_cases h2 : b.length < j
        · have HE : Hidden (applyL b L = .error 1) := ⟨by rw [HD.out]; unfold apply1; rw [if_pos (by dsimp only; omega)]⟩
          clear HD
          go_wp2_with fail
          go_ret2
          exact ⟨hbel.alloc hbel.size _, .inl ⟨1, HE.out, rfl⟩⟩
        · have s1 : IntKind.i64.wrap ((b.length : Int) - j) = (b.length : Int) - j := IntWalk.i64_in _ (by omega)
          by_cases h3 : b.length - j < no
          · have HE : Hidden (applyL b L = .error 1) := ⟨by rw [HD.out]; unfold apply1; rw [if_pos (by dsimp only; omega)]⟩
            clear HD
            go_wp2_with fail
            go_ret2
            exact ⟨hbel.alloc hbel.size _, .inl ⟨1, HE.out, rfl⟩⟩
          · by_cases h4 : no = nn
            · subst h4
              have t1 : decide ((b.length : Int) < j) = false := by simp; omega
              have t2 : decide ((b.length : Int) - j < no) = false := by simp; omega
              have s2 : IntKind.i64.wrap ((j : Int) + no) = (j : Int) + no := IntWalk.i64_in _ (by omega)
              have hcl2 : ((cur.drop j).take no).length = no := by simp; omega
              obtain ⟨A', hA'⟩ : ∃ A' : Option Addr, A' = (if cap = j then some ⟨g, 0, none⟩ else (some (⟨g, 0, none⟩ : Addr)).map (·.add j)) := ⟨_, rfl⟩
              have hcut := run_cut_any (some ⟨g, 0, none⟩) b.length cap j (j + no) (by omega) (by omega)
              have htl := run_tail_any (some ⟨g, 0, none⟩) b.length cap j (by omega)
              rw [Nat.add_sub_cancel_left, Int.natCast_add, ← hA'] at hcut
              rw [← hA'] at htl
              have hBX : Below wr.heap.size wr (wr.alloc (.cells #[.int .i64 j, .slice Ao no co, .slice An no cn] 197)) := (Below.refl _ _).alloc (Nat.le_refl _) _
              have hrdc : Rd wr A' ((cur.drop j).take no) := by
                have := hrow.rd.cutIf j no cap (by omega) (by omega)
                rw [hA']; exact this
              have hrx := hrdc.below hBX
              have rOx := rO.below hBX
              have rNx := rN.below hBX
              have hrowx := hrow.below hBX hgl
              have hbx : Below w.heap.size w (wr.alloc (.cells #[.int .i64 j, .slice Ao no co, .slice An no cn] 197)) := hbel.alloc hbel.size _
              have hc0 : (wr.alloc (.cells #[.int .i64 j, .slice Ao no co, .slice An no cn] 197)).cell? ⟨wr.heap.size, 0, none⟩ = some (.int .i64 j) := by simp
              have hc1 : (wr.alloc (.cells #[.int .i64 j, .slice Ao no co, .slice An no cn] 197)).cell? ⟨wr.heap.size, 1, none⟩ = some (.slice Ao no co) := by simp
              have hc2 : (wr.alloc (.cells #[.int .i64 j, .slice Ao no co, .slice An no cn] 197)).cell? ⟨wr.heap.size, 2, none⟩ = some (.slice An no cn) := by simp
              have HA' := Hidden.mk hA'
              clear hA' hrdc hBX
              go_wp2_with fail
              generalize wr.alloc (.cells #[.int .i64 j, .slice Ao no co, .slice An no cn] 197) = w2 at *
              obtain ⟨q, hq⟩ : ∃ q : Bool, ((cur.drop j).take no == old) = q := ⟨_, rfl⟩
              have HQ := Hidden.mk hq
              clear hq
              go_quiet ((go_at_call 92; refine Calls.quiet_of_same (v := .bool q) ((equal_any A' Ao no no _ _ ((cur.drop j).take no) old _ hcl2 ho (hrx.drewN _) (rOx.drewN _)).mono ?_); rintro e w' ⟨rfl, rfl⟩; exact ⟨by rw [HQ.out], rfl⟩))
              cases q with
              | true =>
                have h5 : (cur.drop j).take no = old := by simpa using HQ.out
                have HE : Hidden (applyL b L = applyL (splice cur j new) (L.drop (k + 1))) := ⟨by
                  rw [HD.out]; unfold apply1
                  rw [if_neg (by dsimp only; omega), if_neg (by dsimp only; omega), if_neg (by dsimp only; rw [ho, Int.toNat_natCast]; simpa using h5)]
                  simp⟩
                clear HD h5 HQ
                go_wp2_with fail
                have hrow3 : Row (w2.drewN nq) 5 g cap cur := hrowx
                have rN3 : Rd (w2.drewN nq) An new := rNx
                have hd0 : (w2.drewN nq).cell? ⟨wr.heap.size, 0, none⟩ = some (.int .i64 j) := hc0
                have hd2 : (w2.drewN nq).cell? ⟨wr.heap.size, 2, none⟩ = some (.slice An no cn) := hc2
                have hb3 : Below w.heap.size w (w2.drewN nq) := below_drewN hbx nq
                clear hc0 hc1 hc2 hbx hrowx rNx rOx hrx
                generalize w2.drewN nq = w3 at *
                obtain ⟨cur0, hcur, _, _, hcs, _⟩ := id hrow3
                have hrow4 := hrow3.set_ j new (by omega) cur0 hcur
                have hB4 : Below w.heap.size w (w3.setRow g (setB cur0 j (new.map bv))) := below_setRow hb3 hg _
                have hcopy : ∀ ty, (Builtin.copy_ #[22, 22] ty #[.slice A' (b.length - j) (cap - j), .slice An no cn]).run Tryd.prog w3.drew = .ok (.int .i64 (no : Int)) ((w3.setRow g (setB cur0 j (new.map bv))).drew) := fun ty => by
                  have hmin : no = Nat.min no (b.length - j) := (Nat.min_eq_left (by omega)).symm
                  by_cases hcj : cap = j
                  · have h0 : no = 0 := by omega
                    rw [HA'.out, if_pos hcj]
                    have := run_copy_rd w3.drew g 0 (b.length - j) (cap - j) no cn no An new cur0 5 hcur hnw rN3 hmin (by omega) ty
                    rw [List.take_of_length_le (by omega)] at this
                    have hnil : new = [] := List.eq_nil_of_length_eq_zero (by omega)
                    rw [hnil] at this ⊢
                    simp only [List.map_nil, setB_nil] at this ⊢
                    exact this
                  · rw [HA'.out, if_neg hcj]
                    have := run_copy_rd w3.drew g j (b.length - j) (cap - j) no cn no An new cur0 5 hcur hnw rN3 hmin (by omega) ty
                    rw [List.take_of_length_le (by omega)] at this
                    simp only [Option.map_some, Addr.add_lit, Nat.zero_add]
                    exact this
                have hsl : (splice cur j new).length = b.length := by rw [splice_len _ _ _ (by omega), hcl]
                generalize w3.setRow g (setB cur0 j (new.map bv)) = w4 at *
                clear hcur hcs hrow3
                go_region
                go_wp2_with fail
                go_roundw
                case rel => exact ⟨k + 1, _, by go_num, by omega, hsl, hB4.drew, hrow4, ⟨HE.out.symm⟩⟩
                case measure => simp [intOf]; omega
              | false =>
                have h5 : ¬ (cur.drop j).take no = old := by simpa using HQ.out
                have HE : Hidden (applyL b L = .error 6) := ⟨by
                  rw [HD.out]; unfold apply1
                  rw [if_neg (by dsimp only; omega), if_neg (by dsimp only; omega), if_pos (by dsimp only; rw [ho, Int.toNat_natCast]; exact h5)]⟩
                clear HD h5 HQ
                go_wp2_with fail
                go_ret2
                exact ⟨below_drewN hbx _, .inl ⟨6, HE.out, rfl⟩⟩
            · have HE : Hidden (applyL b L = .error 3) := ⟨by rw [HD.out]; unfold apply1; rw [if_neg (by dsimp only; omega), if_pos (by dsimp only; omega)]⟩
              have t3 : ((no : Int) != (nn : Int)) = true := by simp; omega
              clear HD
              go_wp2_with fail
              go_ret2
              exact ⟨hbel.alloc hbel.size _, .inl ⟨3, HE.out, rfl⟩⟩
    · go_wp2_with fail
      go_ret2
      have hfin := HL.out
      rw [show L.drop k = [] from by simp; omega] at hfin
      exact ⟨hbel, .inr ⟨cur, g, cap, hfin.symm, rfl, hg, hcl, hrow⟩⟩
end Go.Proofs.YthlflklamgdkfaaDoor
/- The contract of check.Same. -/
namespace Go.Proofs.YthlflklamgdkfaaDoor
open Go.RowKit Go.Maps Go.ChangeMaps

theorem right_stray {l : Bytes} (h : checkL l = []) (k : Nat) (hk : k < 40) (hE : hasE (rawE l k) = true) : strayE l.length (rawE l k) = false := by
  cases hs : strayE l.length (rawE l k) with
  | false => rfl
  | true =>
    have : (⟨1, k + 1⟩ : Flt) ∈ checkL l := mem_checkL.2 (.inl ⟨k, hk, by unfold kindH; rw [hE, hs]; simp, by unfold kindH; rw [hE, hs]; simp⟩)
    rw [h] at this; cases this
theorem obj_any (A : Option Addr) (n c : Nat) (l : Bytes) (k : Nat) (w : World) (hn : l.length = n) (hr : rightB n = true) (hnc : n ≤ c) (hrd : Rd w A l) (hk : k < 40) (h0 : checkL l = []) :
    Calls Tryd.prog 93 #[.slice A n c, .int .i64 ((k : Int) + 1)] w fun e w' => ∃ A' n' c', e = .returned (.slice A' n' c') ∧ (objL l k).length = n' ∧ n' ≤ 70000 ∧ Rd w' A' (objL l k) ∧ Below w.heap.size w w' := by
  unfold objL
  cases hE : hasE (rawE l k) with
  | false =>
    refine (obj_none A n c l k w hn hr hnc hrd hk hE).mono ?_
    rintro e w' ⟨rfl, hb⟩
    exact ⟨none, 0, 0, rfl, by simp, by omega, by simpa using Rd.nil_, hb⟩
  | true =>
    have hs := right_stray h0 k hk hE
    rw [hn] at hs
    refine (obj_some A n c l k w hn hr hnc hrd hk hE hs).mono ?_
    rintro e w' ⟨g, cap, rfl, hg, hrd', hb⟩
    have hst := strayE_false hs
    have hl : (objB l (rawE l k)).length = rLen (rawE l k) + 1 := by unfold objB; simp; omega
    exact ⟨_, _, _, rfl, by simpa using hl, by omega, by simpa using hrd', hb⟩

theorem same_e3 (A B : Option Addr) (n m c d : Nat) (w : World) (hr : rightB n = false ∨ rightB m = false) :
    Calls Tryd.prog 22 #[.slice A n c, .slice B m d] w fun e w' => e = .returned (.tuple #[.bool false, .iface 149 (.int .i64 3)]) ∧ Below w.heap.size w w' := by
  cases h1 : rightB n with
  | false =>
    clear hr
    go_enter Tryd.func22, Tryd.ntmps22
    go_wp2_with fail
    refine (right_any _ _).mono ?_
    rintro e w1 ⟨rfl, rfl⟩
    rw [h1]
    go_wp2_with fail
    go_ret2
    exact ⟨rfl, Below.refl _ _⟩
  | true =>
    have h2 : rightB m = false := by rcases hr with h | h; rw [h1] at h; cases h; exact h
    clear hr
    go_enter Tryd.func22, Tryd.ntmps22
    go_wp2_with fail
    refine (right_any _ _).mono ?_
    rintro e w1 ⟨rfl, rfl⟩
    rw [h1]
    go_wp2_with fail
    refine (right_any _ _).mono ?_
    rintro e w1 ⟨rfl, rfl⟩
    rw [h2]
    go_wp2_with fail
    go_ret2
    exact ⟨rfl, Below.refl _ _⟩
theorem str_sameKey (a b : Bytes) : (strL a).sameKey (strL b) = decide (a = b) := by
  by_cases h : a = b
  · subst h
    simp [WideAt.sameKey_self (show WideAt.IsKeyLit (strL a) from trivial)]
  · rw [decide_eq_false h]
    exact sameKey_ne (fun e => h (strL_inj _ _ e))
theorem zero_int (w : World) : (zeroValue 3).run Tryd.prog w = .ok (.int .i64 0) w := by kernel_rfl
set_option maxRecDepth 100000 in
theorem same_ok (A B : Option Addr) (n m c d : Nat) (a b : Bytes) (w : World) (hn : a.length = n) (hm : b.length = m) (hr : rightB n = true) (hrm : rightB m = true) (hnc : n ≤ c) (hmd : m ≤ d) (ra : Rd w A a) (rb : Rd w B b) (h0 : checkL a = []) (h1 : checkL b = []) :
    Calls Tryd.prog 22 #[.slice A n c, .slice B m d] w fun e w' => e = .returned (.tuple #[.bool (sameB a b), .nilIface]) ∧ Below w.heap.size w w' := by
  have C1 : Hidden (∀ W, Below w.heap.size w W → Calls Tryd.prog 91 #[.slice A n c] W fun e w' => e = .returned .nilIface ∧ Below W.heap.size W w') := ⟨fun W hW => fine_t A n c a W hn hr hnc (ra.below hW) h0⟩
  have C2 : Hidden (∀ W, Below w.heap.size w W → Calls Tryd.prog 91 #[.slice B m d] W fun e w' => e = .returned .nilIface ∧ Below W.heap.size W w') := ⟨fun W hW => fine_t B m d b W hm hrm hmd (rb.below hW) h1⟩
  have C3 : Hidden (∀ k : Nat, k < 40 → ∀ W, Below w.heap.size w W → Calls Tryd.prog 93 #[.slice A n c, .int .i64 ((k : Int) + 1)] W fun e w' => ∃ A' n' c', e = .returned (.slice A' n' c') ∧ (objL a k).length = n' ∧ n' ≤ 70000 ∧ Rd w' A' (objL a k) ∧ Below W.heap.size W w') := ⟨fun k hk W hW => obj_any A n c a k W hn hr hnc (ra.below hW) hk h0⟩
  have C4 : Hidden (∀ k : Nat, k < 40 → ∀ W, Below w.heap.size w W → Calls Tryd.prog 93 #[.slice B m d, .int .i64 ((k : Int) + 1)] W fun e w' => ∃ A' n' c', e = .returned (.slice A' n' c') ∧ (objL b k).length = n' ∧ n' ≤ 70000 ∧ Rd w' A' (objL b k) ∧ Below W.heap.size W w') := ⟨fun k hk W hW => obj_any B m d b k W hm hrm hmd (rb.below hW) hk h1⟩
  have C5 : Hidden (∀ W, Below w.heap.size w W → Calls Tryd.prog 94 #[.slice A n c] W fun e w' => ∃ b, e = .returned (.map (some b)) ∧ W.heap.size ≤ b ∧ IM Tryd.prog 9 strL w' b (leadF (rootsL a)) (leadC (rootsL a)) ∧ Below W.heap.size W w') := ⟨fun W hW => leads_ok A n c a W hn hr hnc (ra.below hW)⟩
  have C6 : Hidden (∀ W, Below w.heap.size w W → Calls Tryd.prog 94 #[.slice B m d] W fun e w' => ∃ q, e = .returned (.map (some q)) ∧ W.heap.size ≤ q ∧ IM Tryd.prog 9 strL w' q (leadF (rootsL b)) (leadC (rootsL b)) ∧ Below W.heap.size W w') := ⟨fun W hW => leads_ok B m d b W hm hrm hmd (rb.below hW)⟩
  have HR := Hidden.mk (And.intro hr hrm)
  clear ra rb h0 h1 hn hm hr hrm
  go_enter Tryd.func22, Tryd.ntmps22
  go_wp2_with fail
  refine (right_any _ _).mono ?_
  rintro e w1 ⟨rfl, rfl⟩
  rw [HR.out.1]
  go_wp2_with fail
  refine (right_any _ _).mono ?_
  rintro e w1 ⟨rfl, rfl⟩
  rw [HR.out.2]
  go_wp2_with fail
  have hal : Below w.heap.size w (w.alloc (.cells #[.slice A n c, .slice B m d] 22)) := (Below.refl _ _).alloc (Nat.le_refl _) _
  have hbk : (w.alloc (.cells #[.slice A n c, .slice B m d] 22)).heap[w.heap.size]? = some (.cells #[.slice A n c, .slice B m d] 22 (0, 0)) := heap_alloc_new w _
  generalize w.alloc (.cells #[.slice A n c, .slice B m d] 22) = w0 at *
  have H0 := Hidden.mk (And.intro hal hbk)
  clear hal hbk
  go_loopg [29] 2 (fun q i wr => ∃ k : Nat, k ≤ 2 ∧ q = 2 - k ∧ i = .int .i64 (k : Int) ∧ Hidden (Below w.heap.size w wr ∧ wr.heap[w.heap.size]? = some (.cells #[.slice A n c, .slice B m d] 22 (0, 0))))
  case atStart => exact ⟨0, by omega, rfl, rfl, H0⟩
  case round =>
    obtain ⟨k, hk, rfl, rfl, hst⟩ := hrel
    by_cases hlt : k < 2
    · have hbk := hst.out.2
      have y0 : wr.cell? ⟨w.heap.size, 0, none⟩ = some (.slice A n c) := by simp [World.cell?, hbk]
      have y1 : wr.cell? ⟨w.heap.size, 1, none⟩ = some (.slice B m d) := by simp [World.cell?, hbk]
      have hw0 : w.heap.size < wr.heap.size := (Array.getElem?_eq_some_iff.1 hbk).1
      clear hbk
      rcases (show k = 0 ∨ k = 1 by omega) with rfl | rfl
      · clear y1
        go_wp2_with fail
        refine (C1.out _ hst.out.1).mono ?_
        rintro e w2 ⟨rfl, hb⟩
        have hst2 := Hidden.mk (And.intro (hst.out.1.trans (hb.mono hst.out.1.size)) ((hb.block _ hw0).trans hst.out.2))
        clear hb hst y0 hw0
        go_wp2_with fail
        go_roundg 1
        case measure => omega
        case rel => exact ⟨1, by omega, rfl, by go_num, hst2⟩
      · clear y0
        go_wp2_with fail
        refine (C2.out _ hst.out.1).mono ?_
        rintro e w2 ⟨rfl, hb⟩
        have hst2 := Hidden.mk (And.intro (hst.out.1.trans (hb.mono hst.out.1.size)) ((hb.block _ hw0).trans hst.out.2))
        clear hb hst y1 hw0
        go_wp2_with fail
        go_roundg 0
        case measure => omega
        case rel => exact ⟨2, by omega, rfl, by go_num, hst2⟩
    · obtain rfl : k = 2 := by omega
      have HB := Hidden.mk hst.out.1
      clear hst H0 C1 C2
      go_wp2_with fail
      go_loopg [9] 40 (fun q i wr => ∃ k : Nat, k ≤ 40 ∧ q = 40 - k ∧ i = .int .i64 ((k : Int) + 1) ∧ Hidden (Below w.heap.size w wr ∧ ∀ j, j < k → objL a j = objL b j))
      case atStart => exact ⟨0, by omega, rfl, rfl, ⟨HB.out, fun j hj => by omega⟩⟩
      case round =>
        obtain ⟨k, hk, rfl, rfl, hst⟩ := hrel
        by_cases hlt : k < 40
        · have k0 : ((k : Int) + 1) ≤ 40 := by omega
          have s1 : IntKind.i64.wrap ((k : Int) + 1 + 1) = (k : Int) + 1 + 1 := IntWalk.i64_in _ (by omega)
          have G3 := Hidden.mk (C3.out k hlt _ hst.out.1)
          have G4 := Hidden.mk (C4.out k hlt)
          have HF : Hidden (objL a k ≠ objL b k → sameB a b = false) := ⟨objsB_false hlt⟩
          have HT : Hidden (objL a k = objL b k → ∀ j, j < k + 1 → objL a j = objL b j) := ⟨fun he j hj => by
            rcases Nat.lt_succ_iff_lt_or_eq.1 hj with h | h
            · exact hst.out.2 j h
            · rw [h]; exact he⟩
          generalize objL a k = oa at *
          generalize objL b k = ob at *
          clear C3 C4
          go_wp2_with fail
          refine G3.out.mono ?_
          rintro e w2 ⟨A2, n2, c2, rfl, hl2, hs2, hr2, hb2⟩
          have hB2 := hst.out.1.trans (hb2.mono hst.out.1.size)
          have K2 := Hidden.mk (And.intro hl2 (And.intro hr2 hB2))
          clear hl2 hr2 hB2 hb2
          go_wp2_with fail
          refine (G4.out _ K2.out.2.2).mono ?_
          rintro e w3 ⟨A3, n3, c3, rfl, hl3, hs3, hr3, hb3⟩
          have hB3 := K2.out.2.2.trans (hb3.mono K2.out.2.2.size)
          have K3 := Hidden.mk (And.intro hl3 (And.intro hr3 (And.intro (K2.out.2.1.below hb3) hB3)))
          clear hl3 hr3 hB3 hb3
          go_wp2_with fail
          refine (equal_any A2 A3 n2 n3 c2 c3 oa ob _ K2.out.1 K3.out.1 K3.out.2.2.1 K3.out.2.1).mono ?_
          rintro e w4 ⟨rfl, rfl⟩
          cases he : (oa == ob) with
          | true =>
            have hst2 := Hidden.mk (And.intro K3.out.2.2.2 (HT.out (by simpa using he)))
            clear he G3 G4 HF HT K2 K3 hst
            go_wp2_with fail
            go_roundg (40 - (k + 1))
            case measure => omega
            case rel => exact ⟨k + 1, by omega, rfl, by go_num, hst2⟩
          | false =>
            have HFF := Hidden.mk (HF.out (by simpa using he))
            clear he G3 G4 HF HT K2 hst
            go_wp2_with fail
            go_ret2
            exact ⟨by rw [HFF.out]; rfl, K3.out.2.2.2⟩
        · obtain rfl : k = 40 := by omega
          have HOB : Hidden (sameB a b = leadsB (rootsL a) (rootsL b)) := ⟨by unfold sameB; rw [objsB_true hst.out.2]; rfl⟩
          have HB := Hidden.mk hst.out.1
          clear hst C3 C4
          go_wp2_with fail
          refine (C5.out _ HB.out).mono ?_
          rintro e w2 ⟨q1, rfl, hq1, him1, hb2⟩
          have hB2 := HB.out.trans (hb2.mono HB.out.size)
          have H2 := Hidden.mk (And.intro him1 (And.intro hB2 hq1))
          clear him1 hB2 hb2 hq1
          go_wp2_with fail
          refine (C6.out _ H2.out.2.1).mono ?_
          rintro e w3 ⟨q2, rfl, hq2, him2, hb3⟩
          have hB3 := H2.out.2.1.trans (hb3.mono H2.out.2.1.size)
          have him1 := H2.out.1.block (hb3.block _ H2.out.1.lt)
          have hqn : q1 ≠ q2 := by have := H2.out.1.lt; omega
          have hq1l := H2.out.2.2
          have hq2l := him2.lt
          obtain ⟨Dm, hown, hms, hhas⟩ := him1
          have HI2 := Hidden.mk him2
          have HHAS := Hidden.mk hhas
          have HMS := Hidden.mk hms
          have HB3 := Hidden.mk hB3
          have HQ := Hidden.mk (And.intro hqn (And.intro hq1l hq2))
          have HC1 : Hidden (leadC (rootsL a) ≤ 8) := ⟨Nat.le_trans (leadC_le _) (rootsF_len _ _)⟩
          have HC2 : Hidden (leadC (rootsL b) ≤ 8) := ⟨Nat.le_trans (leadC_le _) (rootsF_len _ _)⟩
          have HN : Hidden (∀ x ∈ rootsL a, x.1.length ≤ 8) := ⟨fun x hx => rootP_len _ _ x hx⟩
          have HLB : Hidden (leadsB (rootsL a) (rootsL b) = (((rootsL a).all fun p => (leadN (rootsL b) p.1).getD 0 == (leadN (rootsL a) p.1).getD 0) && leadC (rootsL a) == leadC (rootsL b))) := ⟨rfl⟩
          generalize rootsL a = La at *
          generalize rootsL b = Lb at *
          generalize hc1 : leadC La = k1 at *
          generalize hc2 : leadC Lb = k2 at *
          have HK1 := Hidden.mk hc1
          have HK2 := Hidden.mk hc2
          clear hb3 H2 him2 hhas hms hB3 hqn hq1l hq2 hq2l hc1 hc2 C5 C6
          go_wp2_with (at_range; refine wpList_range_own _ rfl _ 156 rfl 9 3 str_keyed Tryd.underlying156 heldR q1 k1 Dm rfl hown ?_; intro w4 hrg4 hg4 hs4)
          go_frame
          generalize hr : w3.heap.size = r at *
          have hB4 : Below w.heap.size w w4 := HB3.out.grown hg4 HB3.out.size (fun q hq => by cases hq)
          have hI4 : IM Tryd.prog 9 strL w4 q2 (leadF Lb) k2 := HI2.out.block (hg4.block _ HI2.out.lt (by simp))
          have HR : Hidden (w3.heap.size = r ∧ q2 < w3.heap.size) := ⟨hr, HI2.out.lt⟩
          have HI4 := Hidden.mk (And.intro hB4 hI4)
          clear hB4 hI4 hr hown hg4 hs4
          go_loopg [] (Maps.size Dm) (fun m wr => ∃ left : Lit → Bool, wr.ranges Tryd.prog 9 heldR q1 r k1 Dm left m ∧ Hidden (Below w.heap.size w wr ∧ IM Tryd.prog 9 strL wr q2 (leadF Lb) k2 ∧ (∀ l, left l = true → Maps.has Dm l = true) ∧ ∀ s h, leadN La s = some h → left (strL s) = false → (leadN Lb s).getD 0 = h))
          case atStart =>
            refine ⟨_, hrg4, ⟨HI4.out.1, HI4.out.2, fun _ h => h, fun s h hs hl => ?_⟩⟩
            have := ((HHAS.out.1 s).2 (.int .i64 h) (by unfold leadF; rw [hs]; rfl)).1
            rw [this] at hl; cases hl
          case round =>
            obtain ⟨left, hrg, hst⟩ := hrel
            clear hrg4 HI4
            go_wp2_with (at_next; refine wpList_next_ranges _ rfl _ rfl 9 str_keyed heldR sv (fun v => v) (fun key kl hkey => (by obtain ⟨x, hx, _⟩ := Go.WideMaps.string_of_keyOf Tryd.underlying9 hkey; exact ⟨x.data.toList, by rw [hx]⟩)) (fun v y _ => ⟨v, rfl⟩) q1 r k1 Dm left _ rfl hrg ?_ ?_)
            · intro hc0 hl0
              have hall : (La.all fun p => (leadN Lb p.1).getD 0 == (leadN La p.1).getD 0) = true := by
                rw [List.all_eq_true]
                intro p hp
                obtain ⟨h, hh⟩ := Option.isSome_iff_exists.1 (leadN_has hp)
                rw [hst.out.2.2.2 p.1 h hh (hl0 _), hh]; simp
              have HF : Hidden (sameB a b = (k1 == k2)) := ⟨by rw [HOB.out, HLB.out, hall]; rfl⟩
              have h1 := IM.len_ (P := Tryd.prog) (K := 9) (T := 156) (E := 3) (kl := strL) (w := wr) (b := q1) (f := leadF La) (cnt := k1) ⟨Dm, hrg.owns, HMS.out, HHAS.out⟩ Tryd.underlying156
              have h2 := IM.len_ (T := 156) hst.out.2.1 Tryd.underlying156
              have HBQ : Hidden (((k1 : Int) == (k2 : Int)) = (k1 == k2)) := ⟨by rw [Bool.eq_iff_iff]; simp; omega⟩
              clear hrg hc0 hl0 hall
              go_wp2_with fail
              go_ret2
              exact ⟨by rw [HF.out, ← HBQ.out]; rfl, hst.out.1⟩
            · intro x c kl y y2 w5 cnt5 hkey hlk hy hat hrg5 hlt5 hg5 hs5 hen
              obtain ⟨s, rfl, hfk⟩ := HHAS.out.2 kl (hst.out.2.2.1 kl hlk)
              obtain ⟨s', es, el, _⟩ := Go.WideMaps.string_of_keyOf Tryd.underlying9 hkey
              have hxs : x = s := by
                unfold sv at es
                unfold strL at el
                injection es with es
                injection el with el
                rw [el, ← es]
              subst hxs
              rw [leadF_isSome] at hfk
              obtain ⟨h, hh⟩ := Option.isSome_iff_exists.1 hfk
              have hch : c = .int .i64 (h : Int) := by
                have ha := ((HHAS.out.1 x).2 _ (show leadF La x = some (.int .i64 (h : Int)) by unfold leadF; rw [hh]; rfl)).2 (.held c)
                rw [hat] at ha
                unfold heldR at hy
                rw [← (Prod.mk.inj (Option.some.inj hy)).1] at ha
                simpa using ha
              subst hch
              have hx8 : x.length ≤ 8 := HN.out _ (leadN_mem hh)
              have him5 := hst.out.2.1.block (hg5.block _ hst.out.2.1.lt (fun e => by obtain ⟨h1, h2⟩ := HR.out; have := Option.some.inj e; omega))
              have hlook : (Instr.lookup 156 (.map (some q2)) (sv x) false).run Tryd.prog w5 = .ok (.int .i64 (((leadN Lb x).getD 0 : Nat) : Int)) w5 := by
                cases hb : leadN Lb x with
                | none => exact (him5.look_none str_keyed (T := 156) Tryd.underlying156 (zero_int w5) (str_key (s := x) (by omega)) (by unfold leadF; rw [hb]; rfl)).2
                | some h' => exact (him5.look_some str_keyed (T := 156) Tryd.underlying156 (zero_int w5) (str_key (s := x) (by omega)) (by unfold leadF; rw [hb]; rfl)).2
              have hB5 : Below w.heap.size w w5 := hst.out.1.grown hg5 hst.out.1.size (fun q hq => by obtain ⟨h1, h2⟩ := HR.out; have := HB3.out.size; have := Option.some.inj hq; omega)
              have HNEXT : Hidden ((leadN Lb x).getD 0 = h → w5.ranges Tryd.prog 9 heldR q1 r k1 Dm (fun z => left z && !z.sameKey (strL x)) cnt5 ∧ Hidden (Below w.heap.size w w5 ∧ IM Tryd.prog 9 strL w5 q2 (leadF Lb) k2 ∧ (∀ l, (left l && !l.sameKey (strL x)) = true → Maps.has Dm l = true) ∧ ∀ s h, leadN La s = some h → (left (strL s) && !(strL s).sameKey (strL x)) = false → (leadN Lb s).getD 0 = h)) := ⟨fun he => ⟨hrg5, ⟨hB5, him5, fun l hl => hst.out.2.2.1 l (by simp only [Bool.and_eq_true] at hl; exact hl.1), fun s2 h2 hs2 hl2 => by
                rw [str_sameKey] at hl2
                by_cases hsx : s2 = x
                · subst hsx; rw [hs2] at hh; rw [Option.some.inj hh]; exact he
                · exact hst.out.2.2.2 s2 h2 hs2 (by simpa [hsx] using hl2)⟩⟩⟩
              have HBAD : Hidden ((leadN Lb x).getD 0 ≠ h → sameB a b = false) := ⟨fun he => by
                rw [HOB.out, HLB.out, Bool.and_eq_false_iff]
                left
                rw [List.all_eq_false]
                exact ⟨(x, h), leadN_mem hh, by rw [hh]; simpa using he⟩⟩
              have HB5 := Hidden.mk hB5
              have HLT := Hidden.mk hlt5
              generalize (leadN Lb x).getD 0 = g at *
              by_cases hgh : g = h
              · subst hgh
                have HN := Hidden.mk (HNEXT.out rfl)
                clear hrg hkey hlk hy hat hrg5 hlt5 hg5 hs5 hfk hh hx8 him5 hB5 HNEXT HBAD hst HHAS es el
                go_wp2_with fail
                go_roundg cnt5
                case measure => exact HLT.out
                case rel => exact ⟨_, HN.out⟩
              · have HF := Hidden.mk (HBAD.out hgh)
                have t1 : (((g : Nat) : Int) == (h : Int)) = false := by simp; omega
                have t2 : (((g : Nat) : Int) != (h : Int)) = true := by simp; omega
                clear hrg hkey hlk hy hat hrg5 hlt5 hg5 hs5 hfk hh hx8 him5 hB5 HNEXT HBAD hst HHAS es el
                go_wp2_with fail
                go_ret2
                exact ⟨by rw [HF.out]; rfl, HB5.out⟩
end Go.Proofs.YthlflklamgdkfaaDoor
/- check.Same of images with faults; vaultsame.Faults of like lists. -/
namespace Go.Proofs.YthlflklamgdkfaaDoor
open Go.RowKit Go.Maps Go.ChangeMaps

set_option maxRecDepth 100000 in
theorem same_e6 (A B : Option Addr) (n m c d : Nat) (a b : Bytes) (w : World) (hn : a.length = n) (hm : b.length = m) (hr : rightB n = true) (hrm : rightB m = true) (hnc : n ≤ c) (hmd : m ≤ d) (ra : Rd w A a) (rb : Rd w B b) (h01 : checkL a ≠ [] ∨ checkL b ≠ []) :
    Calls Tryd.prog 22 #[.slice A n c, .slice B m d] w fun e w' => e = .returned (.tuple #[.bool false, .iface 149 (.int .i64 6)]) ∧ Below w.heap.size w w' := by
  have HR := Hidden.mk (And.intro hr hrm)
  by_cases h0 : checkL a = []
  · have h1 : checkL b ≠ [] := by rcases h01 with h | h; exact absurd h0 h; exact h
    have C1 : Hidden (∀ W, Below w.heap.size w W → Calls Tryd.prog 91 #[.slice A n c] W fun e w' => e = .returned .nilIface ∧ Below W.heap.size W w') := ⟨fun W hW => fine_t A n c a W hn hr hnc (ra.below hW) h0⟩
    have C2 : Hidden (∀ W, Below w.heap.size w W → Calls Tryd.prog 91 #[.slice B m d] W fun e w' => e = .returned (.iface 149 (.int .i64 6)) ∧ Below W.heap.size W w') := ⟨fun W hW => fine_f B m d b W hm hrm hmd (rb.below hW) h1⟩
    clear ra rb h0 h1 h01 hn hm hr hrm
    go_enter Tryd.func22, Tryd.ntmps22
    go_wp2_with fail
    refine (right_any _ _).mono ?_
    rintro e w1 ⟨rfl, rfl⟩
    rw [HR.out.1]
    go_wp2_with fail
    refine (right_any _ _).mono ?_
    rintro e w1 ⟨rfl, rfl⟩
    rw [HR.out.2]
    go_wp2_with fail
    have hal : Below w.heap.size w (w.alloc (.cells #[.slice A n c, .slice B m d] 22)) := (Below.refl _ _).alloc (Nat.le_refl _) _
    have hbk : (w.alloc (.cells #[.slice A n c, .slice B m d] 22)).heap[w.heap.size]? = some (.cells #[.slice A n c, .slice B m d] 22 (0, 0)) := heap_alloc_new w _
    generalize w.alloc (.cells #[.slice A n c, .slice B m d] 22) = w0 at *
    have H0 := Hidden.mk (And.intro hal hbk)
    clear hal hbk
    go_loopg [29] 2 (fun q i wr => ∃ k : Nat, k < 2 ∧ q = 2 - k ∧ i = .int .i64 (k : Int) ∧ Hidden (Below w.heap.size w wr ∧ wr.heap[w.heap.size]? = some (.cells #[.slice A n c, .slice B m d] 22 (0, 0))))
    case atStart => exact ⟨0, by omega, rfl, rfl, H0⟩
    case round =>
      obtain ⟨k, hk, rfl, rfl, hst⟩ := hrel
      have hbk := hst.out.2
      have y0 : wr.cell? ⟨w.heap.size, 0, none⟩ = some (.slice A n c) := by simp [World.cell?, hbk]
      have y1 : wr.cell? ⟨w.heap.size, 1, none⟩ = some (.slice B m d) := by simp [World.cell?, hbk]
      have hw0 : w.heap.size < wr.heap.size := (Array.getElem?_eq_some_iff.1 hbk).1
      clear hbk
      rcases (show k = 0 ∨ k = 1 by omega) with rfl | rfl
      · clear y1
        go_wp2_with fail
        refine (C1.out _ hst.out.1).mono ?_
        rintro e w2 ⟨rfl, hb⟩
        have hst2 := Hidden.mk (And.intro (hst.out.1.trans (hb.mono hst.out.1.size)) ((hb.block _ hw0).trans hst.out.2))
        clear hb hst y0 hw0
        go_wp2_with fail
        go_roundg 1
        case measure => omega
        case rel => exact ⟨1, by omega, rfl, by go_num, hst2⟩
      · clear y0
        go_wp2_with fail
        refine (C2.out _ hst.out.1).mono ?_
        rintro e w2 ⟨rfl, hb⟩
        have HB := Hidden.mk (hst.out.1.trans (hb.mono hst.out.1.size))
        clear hb hst y1 hw0
        go_wp2_with fail
        go_ret2
        exact ⟨rfl, HB.out⟩
  · have C1 : Hidden (∀ W, Below w.heap.size w W → Calls Tryd.prog 91 #[.slice A n c] W fun e w' => e = .returned (.iface 149 (.int .i64 6)) ∧ Below W.heap.size W w') := ⟨fun W hW => fine_f A n c a W hn hr hnc (ra.below hW) h0⟩
    clear ra rb h0 h01 hn hm hr hrm
    go_enter Tryd.func22, Tryd.ntmps22
    go_wp2_with fail
    refine (right_any _ _).mono ?_
    rintro e w1 ⟨rfl, rfl⟩
    rw [HR.out.1]
    go_wp2_with fail
    refine (right_any _ _).mono ?_
    rintro e w1 ⟨rfl, rfl⟩
    rw [HR.out.2]
    go_wp2_with fail
    have hal : Below w.heap.size w (w.alloc (.cells #[.slice A n c, .slice B m d] 22)) := (Below.refl _ _).alloc (Nat.le_refl _) _
    have hbk : (w.alloc (.cells #[.slice A n c, .slice B m d] 22)).heap[w.heap.size]? = some (.cells #[.slice A n c, .slice B m d] 22 (0, 0)) := heap_alloc_new w _
    generalize w.alloc (.cells #[.slice A n c, .slice B m d] 22) = w0 at *
    have H0 := Hidden.mk (And.intro hal hbk)
    clear hal hbk
    go_loopg [29] 2 (fun q i wr => q = 2 ∧ i = .int .i64 0 ∧ Hidden (Below w.heap.size w wr ∧ wr.heap[w.heap.size]? = some (.cells #[.slice A n c, .slice B m d] 22 (0, 0))))
    case atStart => exact ⟨rfl, rfl, H0⟩
    case round =>
      obtain ⟨rfl, rfl, hst⟩ := hrel
      have hbk := hst.out.2
      have y0 : wr.cell? ⟨w.heap.size, 0, none⟩ = some (.slice A n c) := by simp [World.cell?, hbk]
      clear hbk
      go_wp2_with fail
      refine (C1.out _ hst.out.1).mono ?_
      rintro e w2 ⟨rfl, hb⟩
      have HB := Hidden.mk (hst.out.1.trans (hb.mono hst.out.1.size))
      clear hb hst y0
      go_wp2_with fail
      go_ret2
      exact ⟨rfl, HB.out⟩
set_option maxRecDepth 100000 in
theorem sameFaults_eq (A B : Option Addr) (ca cb : Nat) (L : List Flt) (w : World) (hl : L.length ≤ 1000) (hA : RdFs w A L) (hB : RdFs w B L) :
    Calls Tryd.prog 18 #[.slice A L.length ca, .slice B L.length cb] w fun e w' => e = .returned (.bool true) ∧ Below w.heap.size w w' := by
  have HA := Hidden.mk hA
  have HB := Hidden.mk hB
  clear hA hB
  go_enter Tryd.func18, Tryd.ntmps18
  go_wp2_with fail
  go_loopg [5] L.length (fun m i wr => ∃ j : Nat, j ≤ L.length ∧ m = L.length - j ∧ i = .int .i64 (j : Int) ∧ Below w.heap.size w wr)
  case atStart => exact ⟨0, by omega, rfl, rfl, Below.refl _ _⟩
  case round =>
    obtain ⟨j, hj, rfl, rfl, hbel⟩ := hrel
    by_cases hlt : j < L.length
    · obtain ⟨p, off, rfl, x0, x1⟩ := (HA.out.below hbel) j hlt
      obtain ⟨q, oq, rfl, y0, y1⟩ := (HB.out.below hbel) j hlt
      generalize (L[j].what : Int) = b0 at *
      generalize (L[j].which : Int) = b1 at *
      have k0 : (0 : Int) ≤ j := by omega
      have k1 : (j : Int) < L.length := by omega
      have HBL := Hidden.mk hbel
      clear hbel
      go_wp2_with fail
      go_quiet (fail)
      clear x0 x1 y0 y1
      have hbn := below_drewN HBL.out nq
      go_wp2_with fail
      go_roundg (L.length - (j + 1))
      case measure => omega
      case rel => exact ⟨j + 1, by omega, rfl, by go_num, hbn⟩
    · obtain rfl : j = L.length := by omega
      go_wp2_with fail
      go_ret
      exact ⟨rfl, hbel⟩
end Go.Proofs.YthlflklamgdkfaaDoor
/- The contracts of errors.As at a target that points to an api.Errno, of plain.Told and of vaultsame.Error. After the guide's worked example on errors.As at a concrete target. -/
namespace Go.Proofs.YthlflklamgdkfaaDoor
open Go.RowKit Go.Extern.Stop Go.Stop Go.Extern

/-- errors.As(nil, target) -/
theorem as_nil (t : Value) (w : World) :
    Calls Tryd.prog 143 #[.nilIface, t] w fun e w' => e = .returned (.bool false) ∧ w' = w := by
  go_enter Tryd.func143, Tryd.ntmps143
  go_wp2
  go_ret
  exact ⟨rfl, rfl⟩

theorem rl_valueOfP (t : Addr) (w : World) : (ReflectliteValue.unpack (.iface 213 (.pointer (some t)))).run Tryd.prog w
    = .ok (.agg #[.pointer (some ⟨1, 213, none⟩), .pointer (some ⟨w.heap.size, 0, none⟩), .int .u64 150]) (w.alloc (.cells #[.pointer (some t)] 213)) := by kernel_rfl
theorem rl_typeP (a : Addr) (w : World) : (ReflectliteValue.methodAny (ReflectliteValue.valueError "reflectlite.Value.Type" 0) (fun t _ _ _ => ReflectliteType.toType t) #[.agg #[.pointer (some ⟨1, 213, none⟩), .pointer (some a), .int .u64 150]]).run Tryd.prog w
    = .ok (.iface 255 (.agg #[.pointer (some ⟨1, 213, none⟩)])) w := by kernel_rfl
theorem rl_kindP (w : World) : ((ReflectliteType.abiMethod fun t => (fun a : Nat => Value.int IntKind.u8 (a : Int)) <$> Rtype.kind t) #[.pointer (some ⟨1, 213, none⟩)]).run Tryd.prog w = .ok (.int .u8 22) w := by kernel_rfl
theorem rl_kindE (w : World) : ((ReflectliteType.abiMethod fun t => (fun a : Nat => Value.int IntKind.u8 (a : Int)) <$> Rtype.kind t) #[.pointer (some ⟨1, 149, none⟩)]).run Tryd.prog w = .ok (.int .u8 2) w := by kernel_rfl
theorem rl_m (z : Sem Value) (f : TypeId → Addr → Nat → Nat → Sem Value) (v : Value) :
    ReflectliteValue.method z f #[v] = (do match ← ReflectliteValue.parts v with | none => z | some (t, a, fl) => f t a fl (fl % 32)) := rfl
theorem rl_partsP (a : Addr) (w : World) : (ReflectliteValue.parts (.agg #[.pointer (some ⟨1, 213, none⟩), .pointer (some a), .int .u64 150])).run Tryd.prog w = .ok (some (213, a, 150)) w := by kernel_rfl
theorem rl_isNilP (a p : Addr) (W : World) (ha : W.cell? a = some (.pointer (some p))) :
    (ReflectliteValue.method (ReflectliteValue.valueError "reflectlite.Value.IsNil" 0) ReflectliteValue.isNil #[.agg #[.pointer (some ⟨1, 213, none⟩), .pointer (some a), .int .u64 150]]).run Tryd.prog W = .ok (.bool false) W := by
  rw [rl_m]
  simp only [Sem.run_bind, rl_partsP, Result.andThen]
  simp [ReflectliteValue.isNil, loadVar, isAgg, underlying, Tryd.underlying213, ha, Result.andThen]
theorem rl_elemP (w : World) : (ReflectliteType.method ReflectliteType.elem #[.agg #[.pointer (some ⟨1, 213, none⟩)]]).run Tryd.prog w = .ok (.iface 255 (.agg #[.pointer (some ⟨1, 149, none⟩)])) w := by kernel_rfl
theorem rl_implE (w : World) : (ReflectliteType.relation "Implements" ReflectliteType.implements_ #[.agg #[.pointer (some ⟨1, 149, none⟩)], .iface 255 (.agg #[.pointer (some ⟨1, 28, none⟩)])]).run Tryd.prog w = .ok (.bool true) w := by kernel_rfl
theorem rl_typeOfE (v : Value) (w : World) : (ReflectliteType.typeOf #[.iface 149 v]).run Tryd.prog w = .ok (.iface 255 (.agg #[.pointer (some ⟨1, 149, none⟩)])) w := by kernel_rfl
theorem rl_assignE (w : World) : (ReflectliteType.relation "AssignableTo" ReflectliteType.assignableTo #[.agg #[.pointer (some ⟨1, 149, none⟩)], .iface 255 (.agg #[.pointer (some ⟨1, 149, none⟩)])]).run Tryd.prog w = .ok (.bool true) w := by kernel_rfl
theorem rl_valueOfE (k : Int) (w : World) : (ReflectliteValue.unpack (.iface 149 (.int .i64 k))).run Tryd.prog w
    = .ok (.agg #[.pointer (some ⟨1, 149, none⟩), .pointer (some ⟨w.heap.size, 0, none⟩), .int .u64 130]) (w.alloc (.cells #[.int .i64 k] 149)) := by kernel_rfl
theorem rl_elemOfP (w : World) : (Rtype.elem? 213).run Tryd.prog w = .ok (some 149) w := by kernel_rfl
theorem rl_mkE (p : Addr) (w : World) : (ReflectliteValue.mk 149 p ReflectliteValue.flagAddr).run Tryd.prog w = .ok (.agg #[.pointer (some ⟨1, 149, none⟩), .pointer (some p), .int .u64 386]) w := by kernel_rfl
theorem rl_elemVP (a p : Addr) (W : World) (ha : W.cell? a = some (.pointer (some p))) :
    (ReflectliteValue.method (ReflectliteValue.valueError "reflectlite.Value.Elem" 0) ReflectliteValue.elem #[.agg #[.pointer (some ⟨1, 213, none⟩), .pointer (some a), .int .u64 150]]).run Tryd.prog W
      = .ok (.agg #[.pointer (some ⟨1, 149, none⟩), .pointer (some p), .int .u64 386]) W := by
  rw [rl_m]
  simp only [Sem.run_bind, rl_partsP, Result.andThen]
  simp [ReflectliteValue.elem, loadVar, isAgg, underlying, Tryd.underlying213, ha, Result.andThen, rl_elemOfP, rl_mkE]
theorem rl_s (v x : Value) : ReflectliteValue.set #[v, x] = (do
    let (some (dst, a, fl), some (src, b, _)) := (← ReflectliteValue.parts v, ← ReflectliteValue.parts x)
      | unsupported (.noEntry "extern/(internal/reflectlite.Value).Set.zeroValue")
    if fl / ReflectliteValue.flagAddr % 2 == 0 then unsupported (.noEntry "extern/(internal/reflectlite.Value).Set.unaddressable")
    let val ← loadVar src b
    if ← Rtype.directlyAssignable dst src then storeVar dst a val
    else if ← Rtype.implements dst src then
      if (← Rtype.kind src) == 20 then
        match val with
        | .nilIface => unsupported (.noEntry "extern/reflectlite: a nil value of one interface type handed on as a value of another")
        | _ => storeVar dst a val
      else storeVar dst a (.iface src val)
    else panicString ("reflectlite.Set: value of type " ++ (← Rtype.spelt src) ++ " is not assignable to type " ++ (← Rtype.spelt dst))
    pure (.tuple #[])) := rfl
theorem rl_partsEa (a : Addr) (w : World) : (ReflectliteValue.parts (.agg #[.pointer (some ⟨1, 149, none⟩), .pointer (some a), .int .u64 386])).run Tryd.prog w = .ok (some (149, a, 386)) w := by kernel_rfl
theorem rl_partsE (a : Addr) (w : World) : (ReflectliteValue.parts (.agg #[.pointer (some ⟨1, 149, none⟩), .pointer (some a), .int .u64 130])).run Tryd.prog w = .ok (some (149, a, 130)) w := by kernel_rfl
theorem rl_directE (w : World) : (Rtype.directlyAssignable 149 149).run Tryd.prog w = .ok true w := by kernel_rfl
theorem rl_setE (ta b : Addr) (k : Int) (old : Value) (W : World) (hb : W.cell? b = some (.int .i64 k)) (ht : W.cell? ta = some old) (hf : W.frozen? ta = false) :
    (ReflectliteValue.set #[.agg #[.pointer (some ⟨1, 149, none⟩), .pointer (some ta), .int .u64 386], .agg #[.pointer (some ⟨1, 149, none⟩), .pointer (some b), .int .u64 130]]).run Tryd.prog W
      = .ok (.tuple #[]) (W.setCell ta (.int .i64 k)) := by
  rw [rl_s]
  simp only [Sem.run_bind, rl_partsEa, rl_partsE, Result.andThen]
  simp [ReflectliteValue.flagAddr, loadVar, isAgg, underlying, Tryd.underlying149, hb, Result.andThen, rl_directE, storeVar, Value.cells, storeCells, Addr.add]
  rw [run_store Tryd.prog W ta _ _ (by rfl)]
  simp [ht, hf]

/-- what the row's condition gives: the variable errors.errorType -/
def HasType (w : World) : Prop := w.cell? ⟨0, 0, none⟩ = some (.iface 255 (.agg #[.pointer (some ⟨1, 28, none⟩)]))
theorem HasType.below {B : Nat} {w w' : World} (h : HasType w) (hB : 0 < B) (hb : Below B w w') : HasType w' := (hb.cell (p := ⟨0, 0, none⟩) hB).trans h
theorem HasType.lt {w : World} (h : HasType w) : 0 < w.heap.size := block_lt_of_cell h
end Go.Proofs.YthlflklamgdkfaaDoor
/- The contracts of errors.As at a target that points to an api.Errno, of plain.Told and of vaultsame.Error. -/
namespace Go.Proofs.YthlflklamgdkfaaDoor
open Go.RowKit Go.Extern.Stop Go.Stop Go.Extern

theorem rl_methKind (n : Nat) (h : Value) (w : World) : (Go.method (n + 1) 255 (.agg #[h]) "Kind").run Tryd.prog w = .ok (229, h) w := by kernel_rfl
theorem rl_methElem (n : Nat) (h : Value) (w : World) : (Go.method (n + 1) 255 (.agg #[h]) "Elem").run Tryd.prog w = .ok (239, .agg #[h]) w := by kernel_rfl
theorem rl_methImpl (n : Nat) (h : Value) (w : World) : (Go.method (n + 1) 255 (.agg #[h]) "Implements").run Tryd.prog w = .ok (240, .agg #[h]) w := by kernel_rfl
theorem rl_methAssign (n : Nat) (h : Value) (w : World) : (Go.method (n + 1) 255 (.agg #[h]) "AssignableTo").run Tryd.prog w = .ok (237, .agg #[h]) w := by kernel_rfl

set_option maxRecDepth 100000 in
set_option maxHeartbeats 4000000 in
theorem as_errno (k : Int) (t : Addr) (old : Value) (w : World) (hg : HasType w) (ht0 : w.cell? t = some old) (hf0 : w.frozen? t = false) :
    Calls Tryd.prog 143 #[.iface 149 (.int .i64 k), .iface 213 (.pointer (some t))] w fun ev w' => ev = .returned (.bool true) ∧ w' = ((((w.alloc (.cells #[.pointer (some t)] 213)).alloc (.cells #[.pointer (some ⟨1, 213, none⟩), .pointer (some ⟨w.heap.size, 0, none⟩), .int .u64 150] 237)).alloc (.cells #[.pointer (some ⟨1, 213, none⟩), .pointer (some ⟨w.heap.size, 0, none⟩), .int .u64 150] 237)).alloc (.cells #[.int .i64 k] 149)).setCell t (.int .i64 k) := by
  have h6 := @run_callFunc_extern Tryd.prog 169 _ (fun args => ReflectliteValue.unpack (args.getD 0 (.tuple #[]))) Tryd.func169 (by kernel_rfl) (by kernel_rfl) (by kernel_rfl) (by kernel_rfl)
  have h7 := @run_callFunc_extern Tryd.prog 170 _ (ReflectliteValue.methodAny (ReflectliteValue.valueError "reflectlite.Value.Type" 0) (fun t _ _ _ => ReflectliteType.toType t)) Tryd.func170 (by kernel_rfl) (by kernel_rfl) (by kernel_rfl) (by kernel_rfl)
  have h8 := @run_callFunc_extern Tryd.prog 171 _ (ReflectliteValue.method (ReflectliteValue.valueError "reflectlite.Value.IsNil" 0) ReflectliteValue.isNil) Tryd.func171 (by kernel_rfl) (by kernel_rfl) (by kernel_rfl) (by kernel_rfl)
  have h27 := @run_callFunc_extern Tryd.prog 229 _ (ReflectliteType.abiMethod fun t => do pure (.int .u8 (← Rtype.kind t))) Tryd.func229 (by kernel_rfl) (by kernel_rfl) (by kernel_rfl) (by kernel_rfl)
  have h37 := @run_callFunc_extern Tryd.prog 239 _ (ReflectliteType.method ReflectliteType.elem) Tryd.func239 (by kernel_rfl) (by kernel_rfl) (by kernel_rfl) (by kernel_rfl)
  have h38 := @run_callFunc_extern Tryd.prog 240 _ (ReflectliteType.relation "Implements" ReflectliteType.implements_) Tryd.func240 (by kernel_rfl) (by kernel_rfl) (by kernel_rfl) (by kernel_rfl)
  have h10 := @run_callFunc_extern Tryd.prog 183 _ ReflectliteType.typeOf Tryd.func183 (by kernel_rfl) (by kernel_rfl) (by kernel_rfl) (by kernel_rfl)
  have h35 := @run_callFunc_extern Tryd.prog 237 _ (ReflectliteType.relation "AssignableTo" ReflectliteType.assignableTo) Tryd.func237 (by kernel_rfl) (by kernel_rfl) (by kernel_rfl) (by kernel_rfl)
  have h11 := @run_callFunc_extern Tryd.prog 184 _ (ReflectliteValue.method (ReflectliteValue.valueError "reflectlite.Value.Elem" 0) ReflectliteValue.elem) Tryd.func184 (by kernel_rfl) (by kernel_rfl) (by kernel_rfl) (by kernel_rfl)
  have h12 := @run_callFunc_extern Tryd.prog 185 _ ReflectliteValue.set Tryd.func185 (by kernel_rfl) (by kernel_rfl) (by kernel_rfl) (by kernel_rfl)
  have tO := rl_typeOfE
  have aE := rl_assignE
  have vE := rl_valueOfE
  have f6 := rl_valueOfP
  have f7 := rl_typeP
  have mK := rl_methKind
  have mE := rl_methElem
  have mI := rl_methImpl
  have mA := rl_methAssign
  have kP := rl_kindP
  have kE := rl_kindE
  have eP := rl_elemP
  have iE := rl_implE
  have n8 := rl_isNilP ⟨w.heap.size, 0, none⟩ t ((w.alloc (.cells #[.pointer (some t)] 213)).alloc (.cells #[.pointer (some ⟨1, 213, none⟩), .pointer (some ⟨w.heap.size, 0, none⟩), .int .u64 150] 237)) (by simp)
  have hlt : 0 < w.heap.size := hg.lt
  unfold HasType at hg
  have hg2 : ((w.alloc (.cells #[.pointer (some t)] 213)).alloc (.cells #[.pointer (some ⟨1, 213, none⟩), .pointer (some ⟨w.heap.size, 0, none⟩), .int .u64 150] 237)).cell? ⟨0, 0, none⟩ = some (.iface 255 (.agg #[.pointer (some ⟨1, 28, none⟩)])) := by
    rw [World.cell?_alloc_lt _ _ ⟨0, 0, none⟩ (by simp), World.cell?_alloc_lt _ _ ⟨0, 0, none⟩ hlt]; exact hg
  have htl : t.block < w.heap.size := by
    rcases Nat.lt_or_ge t.block w.heap.size with h | h
    · exact h
    · simp [World.cell?, Array.getElem?_eq_none h] at ht0
  have el := rl_elemVP ⟨w.heap.size, 0, none⟩ t (((w.alloc (.cells #[.pointer (some t)] 213)).alloc (.cells #[.pointer (some ⟨1, 213, none⟩), .pointer (some ⟨w.heap.size, 0, none⟩), .int .u64 150] 237)).alloc (.cells #[.pointer (some ⟨1, 213, none⟩), .pointer (some ⟨w.heap.size, 0, none⟩), .int .u64 150] 237)) (by rw [World.cell?_alloc_lt _ _ ⟨w.heap.size, 0, none⟩ (by simp; omega)]; simp)
  have st := rl_setE t ⟨w.heap.size + 1 + 1 + 1, 0, none⟩ k old ((((w.alloc (.cells #[.pointer (some t)] 213)).alloc (.cells #[.pointer (some ⟨1, 213, none⟩), .pointer (some ⟨w.heap.size, 0, none⟩), .int .u64 150] 237)).alloc (.cells #[.pointer (some ⟨1, 213, none⟩), .pointer (some ⟨w.heap.size, 0, none⟩), .int .u64 150] 237)).alloc (.cells #[.int .i64 k] 149))
    (by rw [World.cell?_alloc_at _ _ _ _ (by simp)]; rfl)
    (by rw [World.cell?_alloc_lt _ _ t (by simp; omega), World.cell?_alloc_lt _ _ t (by simp; omega), World.cell?_alloc_lt _ _ t (by simp; omega), World.cell?_alloc_lt _ _ t htl]; exact ht0)
    (by rw [World.frozen?_alloc_old _ _ t (by simp; omega), World.frozen?_alloc_old _ _ t (by simp; omega), World.frozen?_alloc_old _ _ t (by simp; omega), World.frozen?_alloc_old _ _ t (Nat.ne_of_lt htl)]; exact hf0)
  go_enter Tryd.func143, Tryd.ntmps143
  go_wp2
  refine wp_loop_rounds 1 ?_
  rw [rounds_succ]
  go_wp2
  go_ret
  exact ⟨rfl, rfl⟩
end Go.Proofs.YthlflklamgdkfaaDoor
/- The contracts of plain.Told and of vaultsame.Error. -/
namespace Go.Proofs.YthlflklamgdkfaaDoor
open Go.RowKit

theorem told_nil (w : World) : Calls Tryd.prog 87 #[.nilIface] w fun e w' => e = .returned (.int .i64 0) ∧ w = w' := by
  go_enter Tryd.func87, Tryd.ntmps87
  go_wp2_with fail
  go_ret
  exact ⟨rfl, rfl⟩
theorem told_errno (k : Int) (w : World) (hg : HasType w) : Calls Tryd.prog 87 #[.iface 149 (.int .i64 k)] w fun e w' => e = .returned (.int .i64 k) ∧ Below w.heap.size w w' := by
  have hW : Below w.heap.size w (w.alloc (.cells #[.int .i64 0] 149)) := (Below.refl _ _).alloc (Nat.le_refl _) _
  have hg1 := hg.below hg.lt hW
  have HC := Hidden.mk (as_errno k ⟨w.heap.size, 0, none⟩ (.int .i64 0) _ hg1 (by simp) (by simp))
  clear hg1
  go_enter Tryd.func87, Tryd.ntmps87
  go_wp2_with fail
  refine HC.out.mono ?_
  rintro e w' ⟨rfl, hw'⟩
  have hB : Below w.heap.size w w' := by
    rw [hw']
    exact ((((hW.alloc hW.size _).alloc (by simp; omega) _).alloc (by simp; omega) _).alloc (by simp; omega) _).setCell (p := ⟨w.heap.size, 0, none⟩) (Nat.le_refl _) _
  have hc : w'.cell? ⟨w.heap.size, 0, none⟩ = some (.int .i64 k) := by
    rw [hw']
    refine World.cell?_setCell_same' _ _ _ ?_
    rw [(((((Below.refl _ (w.alloc (.cells #[.int .i64 0] 149))).alloc (Nat.le_refl _) _).alloc (by simp) _).alloc (by simp) _).alloc (by simp) _).cell (p := ⟨w.heap.size, 0, none⟩) (by simp)]
    simp
  clear hw' HC hW
  go_wp2_with fail
  go_ret
  exact ⟨rfl, hB⟩
theorem err_nil (x : Int) (w : World) : Calls Tryd.prog 17 #[.nilIface, .int .i64 x] w fun e w' => e = .returned (.bool ((0 : Int) == x)) ∧ Below w.heap.size w w' := by
  go_enter Tryd.func17, Tryd.ntmps17
  go_wp2_with fail
  refine (told_nil _).mono ?_
  rintro e w' ⟨rfl, rfl⟩
  go_wp2_with fail
  go_ret
  exact ⟨rfl, Below.refl _ _⟩
theorem err_some (k x : Int) (w : World) (hg : HasType w) : Calls Tryd.prog 17 #[.iface 149 (.int .i64 k), .int .i64 x] w fun e w' => e = .returned (.bool (k == x)) ∧ Below w.heap.size w w' := by
  go_enter Tryd.func17, Tryd.ntmps17
  go_wp2_with fail
  refine (told_errno k _ hg).mono ?_
  rintro e w' ⟨rfl, hb⟩
  go_wp2_with fail
  go_ret
  exact ⟨rfl, hb⟩
/-- .. of an error that is nil or a number -/
theorem err_any (n : Nat) (x : Int) (w : World) (hg : HasType w) : Calls Tryd.prog 17 #[errV n, .int .i64 x] w fun e w' => e = .returned (.bool ((n : Int) == x)) ∧ Below w.heap.size w w' := by
  unfold errV
  by_cases h : n = 0
  · rw [if_pos h, h]; exact err_nil x w
  · rw [if_neg h]; exact err_some n x w hg
end Go.Proofs.YthlflklamgdkfaaDoor
/- CheckTells: the walk. -/
namespace Go.Proofs.YthlflklamgdkfaaDoor
open Go.RowKit

set_option maxRecDepth 100000 in
set_option maxHeartbeats 2000000 in
theorem checkTells_walk (A B : Option Addr) (n m c d : Nat) (a b : Bytes) (w : World) (hg : HasType w) (hn : a.length = n) (hm : b.length = m) (hnc : n ≤ c) (hmd : m ≤ d) (hn2 : n ≤ 140737488351232) (ra : Rd w A a) (rb : Rd w B b) :
    Calls Tryd.prog 3 #[.slice A n c, .slice B m d] w fun e w' => e = .returned (.bool true) ∧ Below w.heap.size w w' := by
  have HG := Hidden.mk hg
  have HN := Hidden.mk (And.intro hn (And.intro hnc (And.intro hn2 ra)))
  have HM := Hidden.mk (And.intro hm (And.intro hmd rb))
  clear hg hn hm hnc hmd hn2 ra rb
  go_enter Tryd.func3, Tryd.ntmps3
  go_wp2_with fail
  refine (ref_right_any _ _).mono ?_
  rintro e w1 ⟨rfl, rfl⟩
  cases hra : rightB n with
  | false =>
    have HRA := Hidden.mk hra
    clear hra
    go_wp2_with fail
    refine (check_no A n c _ HRA.out).mono ?_
    rintro e w1 ⟨rfl, rfl⟩
    have HERR := Hidden.mk (err_some 3 3 w HG.out)
    rw [beq_self_eq_true] at HERR
    go_wp2_with fail
    refine HERR.out.mono ?_
    rintro e w2 ⟨rfl, hb2⟩
    have HB2 := Hidden.mk hb2
    have HSF := Hidden.mk (sameFaults_eq none none 0 0 [] w2 (by simp) (fun i hi => by simp at hi) (fun i hi => by simp at hi))
    rw [List.length_nil] at HSF
    clear hb2 HERR
    go_wp2_with fail
    refine HSF.out.mono ?_
    rintro e w3 ⟨rfl, hb3⟩
    have HB3 := Hidden.mk (HB2.out.trans (hb3.mono HB2.out.size))
    clear hb3 HB2 HSF
    go_wp2_with fail
    refine (mend_no A n c a _ HN.out.1 HN.out.2.2.1 HRA.out (HN.out.2.2.2.below HB3.out)).mono ?_
    rintro e w4 ⟨rfl, hb4⟩
    have HB4 := Hidden.mk (HB3.out.trans (hb4.mono HB3.out.size))
    have HERR := Hidden.mk (err_some 3 3 w4 (HG.out.below HG.out.lt HB4.out))
    rw [beq_self_eq_true] at HERR
    clear hb4 HB3
    go_wp2_with fail
    refine HERR.out.mono ?_
    rintro e w5 ⟨rfl, hb5⟩
    have HBX := Hidden.mk (HB4.out.trans (hb5.mono HB4.out.size))
    clear hb5 HB4 HERR
    go_wp2_with fail
    refine (ref_right_any _ _).mono ?_
    rintro e w6 ⟨rfl, rfl⟩
    go_wp2_with fail
    refine (same_e3 A B n m c d _ (.inl HRA.out)).mono ?_
    rintro e w20 ⟨rfl, hb20⟩
    have HB20 := Hidden.mk (HBX.out.trans (hb20.mono HBX.out.size))
    have HERR := Hidden.mk (err_some 3 3 w20 (HG.out.below HG.out.lt HB20.out))
    rw [beq_self_eq_true] at HERR

    go_wp2_with fail
    refine HERR.out.mono ?_
    rintro e w21 ⟨rfl, hb21⟩
    have HB21 := Hidden.mk (HB20.out.trans (hb21.mono HB20.out.size))
    have hbx := hb20.trans (hb21.mono hb20.size)
    have e1 := conv_text w21 none 0 0 [] rfl Rd.nil_
    have e2 := conv_text w21 none 0 0 [] rfl Rd.nil_
    have e3 : (([] : Bytes) == ([] : Bytes)) = true := by simp
    clear hb20 hb21 hbx HERR
    go_wp2_with fail
    go_ret
    exact ⟨rfl, HB21.out⟩
  | true =>
    have hnb := rightB_true.1 hra
    obtain ⟨p, off, rfl, -⟩ := HN.out.2.2.2.lt (by have := HN.out.1; omega)
    have HRA := Hidden.mk hra
    clear hra hnb
    go_wp2_with fail
    refine (refCheck_ok (some ⟨p, off, none⟩) n c a _ HN.out.1 HRA.out HN.out.2.1 HN.out.2.2.2).mono ?_
    rintro e w1 ⟨v1, rfl, hown1, hb1⟩
    obtain ⟨A1, c1, rfl, -, hf1⟩ := own_rdFs hown1
    have HF1 := Hidden.mk hf1
    have HB1 := Hidden.mk hb1
    clear hown1 hb1 hf1
    go_wp2_with fail
    refine (refMend_ok p off n c a _ HN.out.1 HRA.out HN.out.2.1 (HN.out.2.2.2.below HB1.out)).mono ?_
    rintro e w2 ⟨p2, o2, c2, rfl, hc2, hr2, hb2⟩
    have HF2 := Hidden.mk (HF1.out.below hb2)
    have HR2 := Hidden.mk hr2
    have HB2 := Hidden.mk (HB1.out.trans (hb2.mono HB1.out.size))
    clear hb2 hr2 HF1 HB1
    go_wp2_with fail
    refine (check_yes (some ⟨p, off, none⟩) n c a _ HN.out.1 HRA.out HN.out.2.1 (HN.out.2.2.2.below HB2.out)).mono ?_
    rintro e w3 ⟨v3, rfl, hown3, hb3⟩
    obtain ⟨A3, c3, rfl, -, hf3⟩ := own_rdFs hown3
    have HF3 := Hidden.mk (And.intro (HF2.out.below hb3) hf3)
    have HR3 := Hidden.mk (HR2.out.below hb3)
    have HB3 := Hidden.mk (HB2.out.trans (hb3.mono HB2.out.size))
    have HERR := Hidden.mk (err_nil 0 w3)
    rw [beq_self_eq_true] at HERR
    clear hb3 hf3 hown3 HF2 HB2 HR2
    go_wp2_with fail
    refine HERR.out.mono ?_
    rintro e w4 ⟨rfl, hb4⟩
    have HSF := Hidden.mk (sameFaults_eq A3 A1 c3 c1 (checkL a) w4 (by have := checkL_len a; omega) (HF3.out.2.below hb4) (HF3.out.1.below hb4))
    have HR4 := Hidden.mk (HR3.out.below hb4)
    have HB4 := Hidden.mk (HB3.out.trans (hb4.mono HB3.out.size))
    clear hb4 HB3 HR3 HF3 HERR
    go_wp2_with fail
    refine HSF.out.mono ?_
    rintro e w5 ⟨rfl, hb5⟩
    have HR5 := Hidden.mk (HR4.out.below hb5)
    have HB5 := Hidden.mk (HB4.out.trans (hb5.mono HB4.out.size))
    clear hb5 HB4 HR4 HSF
    go_wp2_with fail
    refine (mend_yes _ n c a _ HN.out.1 HRA.out (HN.out.2.2.2.below HB5.out)).mono ?_
    rintro e w6 ⟨g6, cap6, rfl, -, -, hrow6, hb6⟩
    have HRR6 := Hidden.mk (And.intro (HR5.out.below hb6) hrow6.rd)
    have HB6 := Hidden.mk (HB5.out.trans (hb6.mono HB5.out.size))
    have HERR := Hidden.mk (err_nil 0 w6)
    rw [beq_self_eq_true] at HERR
    clear hb6 hrow6 HR5 HB5
    go_wp2_with fail
    refine HERR.out.mono ?_
    rintro e w7 ⟨rfl, hb7⟩
    have HRX := Hidden.mk (And.intro (HRR6.out.1.below hb7) (HRR6.out.2.below hb7))
    have HBX := Hidden.mk (HB6.out.trans (hb7.mono HB6.out.size))
    have HML : Hidden ((mendL a).length = n) := ⟨by have := rightB_true.1 HRA.out; rw [mendL_len (by have := HN.out.1; omega), HN.out.1]⟩
    clear hb7 HERR HRR6 HB6
    go_wp2_with fail
    refine (ref_right_any _ _).mono ?_
    rintro e w8 ⟨rfl, rfl⟩
    cases hrb : rightB m with
    | false =>
      have HRB := Hidden.mk hrb
      clear hrb
      go_wp2_with fail
      refine (same_e3 _ B n m c d _ (.inr HRB.out)).mono ?_
      rintro e w20 ⟨rfl, hb20⟩
      have HB20 := Hidden.mk (HBX.out.trans (hb20.mono HBX.out.size))
      have HERR := Hidden.mk (err_some 3 3 w20 (HG.out.below HG.out.lt HB20.out))
      rw [beq_self_eq_true] at HERR

      go_wp2_with fail
      refine HERR.out.mono ?_
      rintro e w21 ⟨rfl, hb21⟩
      have HB21 := Hidden.mk (HB20.out.trans (hb21.mono HB20.out.size))
      have hbx := hb20.trans (hb21.mono hb20.size)
      have e1 := conv_text w21 (some ⟨g6, 0, none⟩) n cap6 (mendL a) HML.out (HRX.out.2.below hbx)
      have e2 := conv_text w21 (some ⟨p2, o2, none⟩) n c2 (mendL a) HML.out (HRX.out.1.below hbx)
      have e3 : (mendL a == mendL a) = true := by simp
      clear hb20 hb21 hbx HERR
      go_wp2_with fail
      go_ret
      exact ⟨rfl, HB21.out⟩
    | true =>
      have hmb := rightB_true.1 hrb
      obtain ⟨q, oq, rfl, -⟩ := HM.out.2.2.lt (by have := HM.out.1; omega)
      have HRB := Hidden.mk hrb
      clear hrb hmb
      go_wp2_with fail
      refine (refFine_yes _ n c a _ HN.out.1 HRA.out HN.out.2.1 (HN.out.2.2.2.below HBX.out)).mono ?_
      rintro e w9 ⟨rfl, hb9⟩
      have HRX := Hidden.mk (And.intro (HRX.out.1.below hb9) (HRX.out.2.below hb9))
      have HBX := Hidden.mk (HBX.out.trans (hb9.mono HBX.out.size))
      clear hb9
      by_cases ha : checkL a = []
      · have hfa : fineE a = 0 := by unfold fineE; rw [if_neg (by rw [HN.out.1, HRA.out]; decide), if_pos ha]
        rw [hfa, show ((0 : Nat) : Int) = 0 from rfl]
        clear hfa
        go_wp2_with fail
        refine (refFine_yes _ m d b _ HM.out.1 HRB.out HM.out.2.1 (HM.out.2.2.below HBX.out)).mono ?_
        rintro e w10 ⟨rfl, hb10⟩
        have HRX := Hidden.mk (And.intro (HRX.out.1.below hb10) (HRX.out.2.below hb10))
        have HBX := Hidden.mk (HBX.out.trans (hb10.mono HBX.out.size))
        clear hb10
        by_cases hb : checkL b = []
        · have hfb : fineE b = 0 := by unfold fineE; rw [if_neg (by rw [HM.out.1, HRB.out]; decide), if_pos hb]
          rw [hfb, show ((0 : Nat) : Int) = 0 from rfl]
          have HGD : Hidden (Good a ∧ Good b) := ⟨⟨by rw [HN.out.1]; exact HRA.out, ha⟩, ⟨by rw [HM.out.1]; exact HRB.out, hb⟩⟩
          clear hfb
          go_wp2_with fail
          refine (refSame_ok p off n c q oq m d a b _ HN.out.1 HM.out.1 HGD.out.1 HGD.out.2 HN.out.2.1 HM.out.2.1 (HN.out.2.2.2.below HBX.out) (HM.out.2.2.below HBX.out)).mono ?_
          rintro e w11 ⟨rfl, hb11⟩
          rw [rsame_eq HGD.out.1 HGD.out.2]
          have HRX := Hidden.mk (And.intro (HRX.out.1.below hb11) (HRX.out.2.below hb11))
          have HBX := Hidden.mk (HBX.out.trans (hb11.mono HBX.out.size))
          clear hb11
          go_wp2_with fail
          refine (same_ok (some ⟨p, off, none⟩) (some ⟨q, oq, none⟩) n m c d a b _ HN.out.1 HM.out.1 HRA.out HRB.out HN.out.2.1 HM.out.2.1 (HN.out.2.2.2.below HBX.out) (HM.out.2.2.below HBX.out) ha hb).mono ?_
          rintro e w20 ⟨rfl, hb20⟩
          have HB20 := Hidden.mk (HBX.out.trans (hb20.mono HBX.out.size))
          have HERR := Hidden.mk (err_nil 0 w20)
          rw [beq_self_eq_true] at HERR
          generalize sameB a b = sab at *
          go_wp2_with fail
          refine HERR.out.mono ?_
          rintro e w21 ⟨rfl, hb21⟩
          have HB21 := Hidden.mk (HB20.out.trans (hb21.mono HB20.out.size))
          have hbx := hb20.trans (hb21.mono hb20.size)
          have e1 := conv_text w21 (some ⟨g6, 0, none⟩) n cap6 (mendL a) HML.out (HRX.out.2.below hbx)
          have e2 := conv_text w21 (some ⟨p2, o2, none⟩) n c2 (mendL a) HML.out (HRX.out.1.below hbx)
          have e3 : (mendL a == mendL a) = true := by simp
          clear hb20 hb21 hbx HERR
          go_wp2_with fail
          go_ret
          exact ⟨rfl, HB21.out⟩
        · have hfb : fineE b = 6 := by unfold fineE; rw [if_neg (by rw [HM.out.1, HRB.out]; decide), if_neg hb]
          rw [hfb, show ((6 : Nat) : Int) = 6 from rfl]
          clear hfb
          go_wp2_with fail
          refine (same_e6 (some ⟨p, off, none⟩) (some ⟨q, oq, none⟩) n m c d a b _ HN.out.1 HM.out.1 HRA.out HRB.out HN.out.2.1 HM.out.2.1 (HN.out.2.2.2.below HBX.out) (HM.out.2.2.below HBX.out) (.inr hb)).mono ?_
          rintro e w20 ⟨rfl, hb20⟩
          have HB20 := Hidden.mk (HBX.out.trans (hb20.mono HBX.out.size))
          have HERR := Hidden.mk (err_some 6 6 w20 (HG.out.below HG.out.lt HB20.out))
          rw [beq_self_eq_true] at HERR

          go_wp2_with fail
          refine HERR.out.mono ?_
          rintro e w21 ⟨rfl, hb21⟩
          have HB21 := Hidden.mk (HB20.out.trans (hb21.mono HB20.out.size))
          have hbx := hb20.trans (hb21.mono hb20.size)
          have e1 := conv_text w21 (some ⟨g6, 0, none⟩) n cap6 (mendL a) HML.out (HRX.out.2.below hbx)
          have e2 := conv_text w21 (some ⟨p2, o2, none⟩) n c2 (mendL a) HML.out (HRX.out.1.below hbx)
          have e3 : (mendL a == mendL a) = true := by simp
          clear hb20 hb21 hbx HERR
          go_wp2_with fail
          go_ret
          exact ⟨rfl, HB21.out⟩
      · have hfa : fineE a = 6 := by unfold fineE; rw [if_neg (by rw [HN.out.1, HRA.out]; decide), if_neg ha]
        rw [hfa, show ((6 : Nat) : Int) = 6 from rfl]
        clear hfa
        go_wp2_with fail
        refine (same_e6 (some ⟨p, off, none⟩) (some ⟨q, oq, none⟩) n m c d a b _ HN.out.1 HM.out.1 HRA.out HRB.out HN.out.2.1 HM.out.2.1 (HN.out.2.2.2.below HBX.out) (HM.out.2.2.below HBX.out) (.inl ha)).mono ?_
        rintro e w20 ⟨rfl, hb20⟩
        have HB20 := Hidden.mk (HBX.out.trans (hb20.mono HBX.out.size))
        have HERR := Hidden.mk (err_some 6 6 w20 (HG.out.below HG.out.lt HB20.out))
        rw [beq_self_eq_true] at HERR

        go_wp2_with fail
        refine HERR.out.mono ?_
        rintro e w21 ⟨rfl, hb21⟩
        have HB21 := Hidden.mk (HB20.out.trans (hb21.mono HB20.out.size))
        have hbx := hb20.trans (hb21.mono hb20.size)
        have e1 := conv_text w21 (some ⟨g6, 0, none⟩) n cap6 (mendL a) HML.out (HRX.out.2.below hbx)
        have e2 := conv_text w21 (some ⟨p2, o2, none⟩) n c2 (mendL a) HML.out (HRX.out.1.below hbx)
        have e3 : (mendL a == mendL a) = true := by simp
        clear hb20 hb21 hbx HERR
        go_wp2_with fail
        go_ret
        exact ⟨rfl, HB21.out⟩
end Go.Proofs.YthlflklamgdkfaaDoor
