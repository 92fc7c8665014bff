/- Contracts and plain laws, put together: StatTells1. -/
import Derived.Test.YtecjjhfaljdcpaaGreatDoorStatTellsFrameM4
import Derived.Test.YtecjjhfaljdcpaaGreatDoorStatTellsFrameM3
import Derived.Test.YtecjjhfaljdcpaaGreatDoorStatTellsFrameM1
import Derived.Deep.DeepCutAuto
import Derived.Deep.CutBlock
/- StatTells: the walk. -/
namespace Go.Proofs.YtecjjhfaljdcpaaGreatDoor
open Go.RowKit

def StC (w : World) (b : Nat) (a0 a1 a2 a3 a4 : Int) : Prop := w.heap[b]? = some (.cells #[.int .i64 a0, .int .i64 a1, .int .i64 a2, .int .i64 a3, .int .i64 a4] 42 (0, 0))
theorem StC.lt {w : World} {b : Nat} {a0 a1 a2 a3 a4 : Int} (h : StC w b a0 a1 a2 a3 a4) : b < w.heap.size := (Array.getElem?_eq_some_iff.1 h).1
theorem StC.below {w w' : World} {b : Nat} {a0 a1 a2 a3 a4 : Int} (h : StC w b a0 a1 a2 a3 a4) (hb : Below w.heap.size w w') : StC w' b a0 a1 a2 a3 a4 := (hb.block _ h.lt).trans h
theorem StC.but {w w' : World} {b g : Nat} {a0 a1 a2 a3 a4 : Int} (h : StC w b a0 a1 a2 a3 a4) (hb : But g w w') (hg : b ≠ g) : StC w' b a0 a1 a2 a3 a4 := (hb.block _ h.lt hg).trans h
theorem canE_big {S : List Int} (h : 200 < S.length) : canE S = 4 := by unfold canE; rw [if_pos h]
theorem canE_bad {S : List Int} (h : ¬ 200 < S.length) (k : Nat) (hk : k < S.length) (hb : lenB S[k] = false) : canE S = 1 := by
  unfold canE
  rw [if_neg h, if_neg (fun hall => by have := List.all_eq_true.1 hall _ (List.getElem_mem hk); rw [hb] at this; cases this)]
theorem canE_all {S : List Int} (h : ¬ 200 < S.length) (hall : ∀ x ∈ S, lenB x = true) : canE S = 0 := by
  unfold canE; rw [if_neg h, if_pos (List.all_eq_true.2 hall)]
theorem canE_get {S : List Int} (h : canE S = 0) (k : Nat) (hk : k < S.length) : 1 ≤ S[k] ∧ S[k] ≤ 1000 := by
  unfold canE at h
  by_cases h2 : 200 < S.length
  · rw [if_pos h2] at h; cases h
  · rw [if_neg h2] at h
    by_cases hall : S.all (fun x => lenB x) = true
    · exact lenB_true.1 (List.all_eq_true.1 hall _ (List.getElem_mem hk))
    · rw [if_neg hall] at h; cases h
theorem alloc_lenS {l : Bytes} (hg : Good l) (n t : Int) : (allocL l n t).length = l.length := by
  by_cases h0 : allocE l n t = 0
  · obtain ⟨k, a, n', t', _, _, _, _, h⟩ := alloc_is hg h0
    exact h.len
  · have : allocL l n t = l := by unfold allocL; rw [if_neg h0]
    rw [this]
set_option maxRecDepth 100000 in
set_option maxHeartbeats 2000000 in
theorem statTells_walk (A : Option Addr) (n c : Nat) (b : Bytes) (B : Option Addr) (cB : Nat) (S : List Int) (w : World) (hgt : HasType w) (hn : b.length = n) (hnc : n ≤ c) (hrd : Rd w A b) (hS : RdX icell 1 w B S) (hSm : S.length ≤ 140737488351232) :
    Calls Tryz.prog 4 #[.slice A n c, .slice B S.length cB] w fun e w' => e = .returned (.bool true) ∧ Below w.heap.size w w' := by
  have HLD := Hidden.mk (loaded_ok A n c b w hn hnc hrd)
  have HGL := Hidden.mk (loadL_good b)
  have HS := Hidden.mk hS
  have HERR : Hidden (∀ (k : Nat) (W : World), Below w.heap.size w W → Calls Tryz.prog 10 #[errV k, .int .i64 (k : Int)] W fun e w' => e = .returned (.bool true) ∧ Below W.heap.size W w') := ⟨fun k W hW => by
    have := err_any k (k : Int) W (hgt.below hgt.lt hW)
    rw [beq_self_eq_true] at this
    exact this⟩
  generalize loadL b = ll at *
  clear hn hnc hrd hS hgt
  go_enter Tryz.func4, Tryz.ntmps4
  go_wp2_with fail
  refine HLD.out.mono ?_
  rintro e w1 ⟨h, F, p, off, c1, rfl, hc1, hp1, hr1, hfp⟩
  have hbd := HGL.out.bd
  have hrb : rightB ll.length = true := rightB_true.2 (by omega)
  have HTK := Hidden.mk (rtaken_ok (some ⟨p, off, none⟩) ll.length c1 ll w1 rfl hrb hc1 hr1)
  have HRS : Hidden (∀ A c W, RdX tcells 2 W A (takenL ll) → Calls Tryz.prog 16 #[.int .i64 ((ll.length : Int) - 288), .slice A (takenL ll).length c] W fun e w' => e = .returned (statH ll) ∧ Below W.heap.size W w') := ⟨fun A c W hW => by
    have hcast : (((ll.length - 288 : Nat)) : Int) = (ll.length : Int) - 288 := by omega
    have h := rstat_any (ll.length - 288) A (takenL ll).length c (takenL ll) W rfl hW (by rw [hcast]; exact good_chk HGL.out)
    rw [hcast] at h
    exact h⟩
  have HSH : Hidden (∀ W, Hp w W F h ll → Calls Tryz.prog 18 #[.pointer (some ⟨h, 0, none⟩)] W fun e w' => e = .returned (.tuple #[statH ll, .nilIface]) ∧ Below W.heap.size W w') := ⟨fun W hW => sheap_any hW HGL.out⟩
  have HLO : Hidden (∀ W, Hp w W F h ll → Calls Tryz.prog 21 #[.pointer (some ⟨h, 0, none⟩)] W fun e w' => e = .returned (.tuple #[.int .i64 (looseI (freeL_ ll) (mostL ll)), .nilIface]) ∧ Below W.heap.size W w') := ⟨fun W hW => loose_any hW HGL.out⟩
  have HBT : Hidden (∀ W, Hp w W F h ll → Calls Tryz.prog 23 #[.pointer (some ⟨h, 0, none⟩)] W fun e w' => ∃ g, e = .returned (.slice (some ⟨g, 0, none⟩) 16 16) ∧ RdX ncell 1 w' (some ⟨g, 0, none⟩) (tagsL ll) ∧ Below W.heap.size W w') := ⟨fun W hW => bytag_any hW HGL.out⟩
  have HCA : Hidden (∀ W, Hp w W F h ll → Calls Tryz.prog 20 #[.pointer (some ⟨h, 0, none⟩), .slice B S.length cB] W fun e w' => e = .returned (.tuple #[.int .i64 (canN ll S : Int), errV (canE S)]) ∧ Below W.heap.size W w') := ⟨fun W hW => can_any B cB S (HS.out.below hW.bel) hW HGL.out⟩
  have HFB := free_bd HGL.out
  rw [statH_five HGL.out] at HRS HSH
  have HP1 := Hidden.mk hp1
  have HR1 := Hidden.mk hr1
  have s0 : IntKind.i64.wrap ((ll.length : Int) - 288) = (ll.length : Int) - 288 := IntWalk.i64_in _ (by omega)
  generalize ((holesX ((ll.length : Int) - 288) (takenL ll)).length : Int) = ru at *
  generalize freeL_ ll = fr at *
  generalize mostL ll = mo at *
  generalize sumX (takenL ll) = su at *
  clear hp1 hr1 hfp HLD
  go_wp2_with fail
  refine HTK.out.mono ?_
  rintro e w2 ⟨A2, c2, rfl, hc2, hr2, hb2⟩
  have HS2 := Hidden.mk (HRS.out A2 c2 w2 hr2)
  have HB2 := Hidden.mk hb2
  generalize hob : (takenL ll).length = ob at *
  clear hr2 hb2 HTK HRS hc2 hob
  go_wp2_with fail
  refine HS2.out.mono ?_
  rintro e w3 ⟨rfl, hb3⟩
  have HB3 := Hidden.mk (HB2.out.trans (hb3.mono HB2.out.size))
  clear hb3 HS2 HB2
  have H4 : Hidden (Below w1.heap.size w1 (w3.alloc (.cells #[.int .i64 ob, .int .i64 su, .int .i64 fr, .int .i64 mo, .int .i64 ru] 42)) ∧ StC (w3.alloc (.cells #[.int .i64 ob, .int .i64 su, .int .i64 fr, .int .i64 mo, .int .i64 ru] 42)) w3.heap.size ob su fr mo ru) := ⟨HB3.out.alloc HB3.out.size _, heap_alloc_new w3 _⟩
  go_wp2_with fail
  generalize w3.alloc (.cells #[.int .i64 ob, .int .i64 su, .int .i64 fr, .int .i64 mo, .int .i64 ru] 42) = w4 at *
  generalize w3.heap.size = s7 at *
  refine (HSH.out w4 (HP1.out.below H4.out.1)).mono ?_
  rintro e w5 ⟨rfl, hb5⟩
  have HB5 := Hidden.mk (H4.out.1.trans (hb5.mono H4.out.1.size))
  have H6 : Hidden (Below w1.heap.size w1 (w5.alloc (.cells #[.int .i64 ob, .int .i64 su, .int .i64 fr, .int .i64 mo, .int .i64 ru] 42)) ∧ StC (w5.alloc (.cells #[.int .i64 ob, .int .i64 su, .int .i64 fr, .int .i64 mo, .int .i64 ru] 42)) s7 ob su fr mo ru ∧ StC (w5.alloc (.cells #[.int .i64 ob, .int .i64 su, .int .i64 fr, .int .i64 mo, .int .i64 ru] 42)) w5.heap.size ob su fr mo ru) := ⟨HB5.out.alloc HB5.out.size _, (H4.out.2.below hb5).below ((Below.refl _ _).alloc (Nat.le_refl _) _), heap_alloc_new w5 _⟩
  clear hb5 HSH HB3 H4 HB5
  go_upto_if 47 with (fail)
  generalize w5.alloc (.cells #[.int .i64 ob, .int .i64 su, .int .i64 fr, .int .i64 mo, .int .i64 ru] 42) = w6 at *
  generalize w5.heap.size = s8 at *
  go_cut [10] (fun ev wx => ev = .int .i64 ((if 200 < S.length then 4 else 0 : Nat) : Int) ∧ w6 = wx)
  case first =>
    by_cases h2 : 200 < S.length
    · have d1 : decide ((200 : Int) < S.length) = true := by simp; omega
      have d1' : decide (200 < S.length) = true := by simpa using h2
      have hi : Hidden (((if 200 < S.length then 4 else 0 : Nat) : Int) = 4) := ⟨by rw [if_pos h2]; rfl⟩
      clear h2
      simp only [d1]
      go_wp2_with fail
      go_meet
      exact ⟨by rw [hi.out], rfl⟩
    · have d1 : decide ((200 : Int) < S.length) = false := by simp; omega
      have d1' : decide (200 < S.length) = false := by simpa using h2
      have hi : Hidden (((if 200 < S.length then 4 else 0 : Nat) : Int) = 0) := ⟨by rw [if_neg h2]; rfl⟩
      clear h2
      simp only [d1]
      go_wp2_with fail
      go_meet
      exact ⟨by rw [hi.out], rfl⟩
  case rest =>
  obtain ⟨rfl, rfl⟩ := hcut
  generalize he0 : (if 200 < S.length then 4 else 0 : Nat) = e0 at *
  have HE0 := Hidden.mk he0
  clear he0
  go_upto_block 0 with (fail)
  go_cut [10] (fun ev wx => ev = .int .i64 (canE S : Int) ∧ w6 = wx)
  case first =>
    have HBW : Hidden (Below w.heap.size w w6) := ⟨HP1.out.bel.trans (H6.out.1.mono HP1.out.bel.size)⟩
    clear HCA HLO HBT HERR
    go_wp2_with fail
    go_loopg [10, 11] S.length (fun q ev iv wr => ∃ (k e : Nat), k ≤ S.length ∧ q = S.length - k ∧ iv = .int .i64 (k : Int) ∧ ev = .int .i64 (e : Int) ∧ Hidden (w6 = wr ∧ ((e = 0 ∧ ¬ 200 < S.length ∧ ∀ x ∈ S.take k, lenB x = true) ∨ (e ≠ 0 ∧ e = canE S))))
    case atStart =>
      refine ⟨0, e0, by omega, rfl, rfl, rfl, ⟨rfl, ?_⟩⟩
      by_cases h2 : 200 < S.length
      · right; rw [← HE0.out, if_pos h2]; exact ⟨by decide, (canE_big h2).symm⟩
      · left; rw [← HE0.out, if_neg h2]; exact ⟨rfl, h2, fun x hx => by simp at hx⟩
    case round =>
      obtain ⟨k, e, hk, rfl, rfl, rfl, hst⟩ := hrel
      obtain ⟨⟨rfl, hor⟩⟩ := hst
      have s3 : IntKind.i64.wrap ((k : Int) + 1) = (k : Int) + 1 := IntWalk.i64_in _ (by omega)
      rcases hor with ⟨rfl, h2, hall⟩ | ⟨hne, hce⟩
      · by_cases hlt : k < S.length
        · obtain ⟨pp, oo, rfl, hcx⟩ := (HS.out.below HBW.out) k hlt
          have x0 : w6.cell? ⟨pp, oo + k, none⟩ = some (.int .i64 S[k]) := by simpa using hcx 0 _ rfl
          have i0 : (0 : Int) ≤ k := by omega
          have i1 : (k : Int) < S.length := by omega
          have HBAD : Hidden (lenB S[k] = false → 1 = canE S) := ⟨fun hb => (canE_bad h2 k hlt hb).symm⟩
          have HOK : Hidden (lenB S[k] = true → ∀ x ∈ S.take (k + 1), lenB x = true) := ⟨fun hb x hx => by
            rw [List.take_succ_eq_append_getElem hlt] at hx
            rcases List.mem_append.1 hx with hx | hx
            · exact hall x hx
            · simp only [List.mem_singleton] at hx; subst hx; exact hb⟩
          have H2 := Hidden.mk h2
          generalize S[k] = sz at *
          clear hcx hall h2
          by_cases c1 : sz < 1
          · have hb := HBAD.out (lenB_false.2 (by omega))
            have HBD := Hidden.mk hb
            have d1 : decide (sz < 1) = true := by simpa using c1
            clear hb c1 HBAD HOK
            go_wp2_with fail
            go_roundg (S.length - (k + 1))
            case measure => omega
            case rel => exact ⟨k + 1, 1, by omega, rfl, by go_num, rfl, ⟨rfl, .inr ⟨by decide, HBD.out⟩⟩⟩
          · have d1 : decide (sz < 1) = false := by simpa using c1
            by_cases c2 : 1000 < sz
            · have hb := HBAD.out (lenB_false.2 (by omega))
              have HBD := Hidden.mk hb
              have d2 : decide (1000 < sz) = true := by simpa using c2
              clear hb c1 c2 HBAD HOK
              go_wp2_with fail
              go_roundg (S.length - (k + 1))
              case measure => omega
              case rel => exact ⟨k + 1, 1, by omega, rfl, by go_num, rfl, ⟨rfl, .inr ⟨by decide, HBD.out⟩⟩⟩
            · have d2 : decide (1000 < sz) = false := by simpa using c2
              have HBD := Hidden.mk (HOK.out (lenB_true.2 (by omega)))
              clear c1 c2 HBAD HOK
              go_wp2_with fail
              go_roundg (S.length - (k + 1))
              case measure => omega
              case rel => exact ⟨k + 1, 0, by omega, rfl, by go_num, rfl, ⟨rfl, .inl ⟨rfl, H2.out, HBD.out⟩⟩⟩
        · obtain rfl : k = S.length := by omega
          rw [List.take_length] at hall
          have HCE := Hidden.mk (canE_all h2 hall)
          clear hall h2
          go_wp2_with fail
          go_meet
          exact ⟨by rw [HCE.out], rfl⟩
      · have HCE := Hidden.mk hce
        have de : decide ((e : Int) = 0) = false := by simp; omega
        have de' : ((e : Int) == 0) = false := by simp; omega
        have de2 : (e == 0) = false := by simp; omega
        have de3 : decide (e = 0) = false := by simp; omega
        clear hce
        by_cases hlt : k < S.length
        · have d0 : decide ((k : Int) < S.length) = true := by simp; omega
          have d0' : decide (k < S.length) = true := by simpa using hlt
          clear hne
          go_wp2_with fail
          go_meet
          exact ⟨by rw [HCE.out], rfl⟩
        · have d0 : decide ((k : Int) < S.length) = false := by simp; omega
          have d0' : decide (k < S.length) = false := by simpa using hlt
          clear hne
          go_wp2_with fail
          go_meet
          exact ⟨by rw [HCE.out], rfl⟩
  case rest =>
  obtain ⟨rfl, rfl⟩ := hcut
  go_upto_block 2 with (fail)
  go_cut [12] (fun nv wx => nv = .int .i64 (canN ll S : Int) ∧ Hidden (Below w6.heap.size w6 wx))
  case first =>
    have HBW : Hidden (Below w.heap.size w w6) := ⟨HP1.out.bel.trans (H6.out.1.mono HP1.out.bel.size)⟩
    have HR6 := Hidden.mk (HR1.out.below H6.out.1)
    clear HCA HLO HBT HERR H6
    by_cases hce : canE S = 0
    · have HCN : Hidden (canN ll S = canF ll S) := ⟨by unfold canN; rw [if_pos hce]⟩
      have HGT := Hidden.mk (fun k hk => canE_get hce k hk)
      have HDR := Hidden.mk (fun l' k hk => canF_drop l' S k hk)
      generalize canE S = ce at *
      subst hce
      go_wp2_with fail
      go_loopg [12, 13] S.length (fun q nv xv wr => ∃ (k p' o' c' : Nat) (l' : Bytes), k ≤ S.length ∧ q = S.length - k ∧ nv = .int .i64 (k : Int) ∧ xv = .slice (some ⟨p', o', none⟩) ll.length c' ∧ Hidden (Good l' ∧ l'.length = ll.length ∧ canF ll S = k + canF l' (S.drop k) ∧ ll.length ≤ c' ∧ Rd wr (some ⟨p', o', none⟩) l' ∧ Below w6.heap.size w6 wr))
      case atStart => exact ⟨0, p, off, c1, ll, by omega, rfl, rfl, rfl, ⟨HGL.out, rfl, by rw [List.drop_zero]; omega, hc1, HR6.out, Below.refl _ _⟩⟩
      case round =>
        obtain ⟨k, p', o', c', l', hk, rfl, rfl, rfl, hst⟩ := hrel
        have HST := Hidden.mk hst.out
        clear hst
        by_cases hlt : k < S.length
        · obtain ⟨pp, oo, rfl, hcx⟩ := (HS.out.below (HBW.out.trans (HST.out.2.2.2.2.2.mono HBW.out.size))) k hlt
          have x0 : wr.cell? ⟨pp, oo + k, none⟩ = some (.int .i64 S[k]) := by simpa using hcx 0 _ rfl
          have i0 : (0 : Int) ≤ k := by omega
          have i1 : (k : Int) < S.length := by omega
          have s3 : IntKind.i64.wrap ((k : Int) + 1) = (k : Int) + 1 := IntWalk.i64_in _ (by omega)
          obtain ⟨g1, g2⟩ := HGT.out k hlt
          have HAL := Hidden.mk (ralloc_any p' o' ll.length c' l' S[k] wr HST.out.2.1 HST.out.1 HST.out.2.2.2.1 HST.out.2.2.2.2.1 g1 g2)
          have HCK := Hidden.mk (HDR.out l' k hlt)
          have HAG := Hidden.mk (alloc_good HST.out.1 S[k] 0)
          have HLE := Hidden.mk (alloc_lenS HST.out.1 S[k] 0)
          generalize S[k] = sz at *
          clear hcx g1 g2 HGT HDR
          go_wp2_with fail
          refine HAL.out.mono ?_
          rintro e w7 ⟨hb7, ⟨h0, g, c'', rfl, hc7, hg7, hr7⟩ | ⟨h0, rfl⟩⟩
          · have hck := HCK.out
            rw [if_pos h0] at hck
            have HN : Hidden (Good (allocL l' sz 0) ∧ (allocL l' sz 0).length = ll.length ∧ canF ll S = (k + 1) + canF (allocL l' sz 0) (S.drop (k + 1)) ∧ ll.length ≤ c'' ∧ Rd w7 (some ⟨g, 0, none⟩) (allocL l' sz 0) ∧ Below w6.heap.size w6 w7) := ⟨HAG.out, HLE.out.trans HST.out.2.1, by rw [HST.out.2.2.1, hck]; omega, hc7, hr7, HST.out.2.2.2.2.2.trans (hb7.mono HST.out.2.2.2.2.2.size)⟩
            generalize allocL l' sz 0 = l2 at *
            clear hb7 h0 hc7 hg7 hr7 hck HCK HAL HST HAG HLE
            go_wp2_with fail
            go_roundg (S.length - (k + 1))
            case measure => omega
            case rel => exact ⟨k + 1, g, 0, c'', l2, by omega, rfl, by go_num, rfl, HN⟩
          · have hck := HCK.out
            rw [if_neg h0] at hck
            have HM : Hidden (canN ll S = k ∧ Below w6.heap.size w6 w7) := ⟨by rw [HCN.out, HST.out.2.2.1, hck]; rfl, HST.out.2.2.2.2.2.trans (hb7.mono HST.out.2.2.2.2.2.size)⟩
            clear hb7 h0 hck HCK HAL HST HAG HLE
            go_wp2_with fail
            go_meet
            exact ⟨by rw [HM.out.1], ⟨HM.out.2⟩⟩
        · have hkS : k = S.length := by omega
          have d0 : decide ((k : Int) < S.length) = false := by simp; omega
          have d0' : decide (k < S.length) = false := by simpa using hlt
          have HM : Hidden (canN ll S = k ∧ Below w6.heap.size w6 wr) := ⟨by rw [HCN.out, HST.out.2.2.1, hkS, List.drop_length]; rfl, HST.out.2.2.2.2.2⟩
          clear HST hkS HGT HDR
          go_wp2_with fail
          go_meet
          exact ⟨by rw [HM.out.1], ⟨HM.out.2⟩⟩
    · have HCN : Hidden (canN ll S = 0) := ⟨by unfold canN; rw [if_neg hce]⟩
      generalize canE S = ce at *
      have de : decide ((ce : Int) = 0) = false := by simp; omega
      have de' : ((ce : Int) == 0) = false := by simp; omega
      have de2 : (ce == 0) = false := by simp; omega
      have de3 : decide (ce = 0) = false := by simp; omega
      clear hce
      go_wp2_with fail
      go_loopg [12, 13] 1 (fun q nv xv wr => q = 1 ∧ nv = .int .i64 0 ∧ w6 = wr)
      case atStart => exact ⟨rfl, rfl, rfl⟩
      case round =>
        obtain ⟨rfl, rfl, rfl⟩ := hrel
        by_cases hlt : 0 < S.length
        · have d0 : decide ((0 : Int) < S.length) = true := by simp; omega
          have d0' : decide (0 < S.length) = true := by simpa using hlt
          clear hlt
          go_wp2_with fail
          go_meet
          exact ⟨by rw [HCN.out]; rfl, ⟨Below.refl _ _⟩⟩
        · have d0 : decide ((0 : Int) < S.length) = false := decide_eq_false (by omega)
          have d0' : decide (0 < S.length) = false := decide_eq_false hlt
          clear hlt
          go_wp2_with fail
          go_meet
          exact ⟨by rw [HCN.out]; rfl, ⟨Below.refl _ _⟩⟩
  case rest =>
  obtain ⟨rfl, hcb⟩ := hcut
  have H7 := Hidden.mk (And.intro (H6.out.1.trans (hcb.out.mono H6.out.1.size)) (And.intro (H6.out.2.1.below hcb.out) (H6.out.2.2.below hcb.out)))
  clear hcb H6
  go_wp2_with fail
  refine (HCA.out _ (HP1.out.below H7.out.1)).mono ?_
  rintro e w8 ⟨rfl, hb8⟩
  have H8 := Hidden.mk (And.intro (H7.out.1.trans (hb8.mono H7.out.1.size)) (And.intro (H7.out.2.1.below hb8) (H7.out.2.2.below hb8)))
  have HER := Hidden.mk (HERR.out (canE S) w8 (HP1.out.bel.trans (H8.out.1.mono HP1.out.bel.size)))
  generalize errV (canE S) = ev at *
  clear hb8 HCA H7 HERR
  go_wp2_with fail
  refine HER.out.mono ?_
  rintro e w9 ⟨rfl, hb9⟩
  have H9 := Hidden.mk (And.intro (H8.out.1.trans (hb9.mono H8.out.1.size)) (And.intro (H8.out.2.1.below hb9) (H8.out.2.2.below hb9)))
  obtain ⟨z0, z1, z2, z3, z4, -⟩ := fiveCells H9.out.2.1
  clear hb9 HER H8
  go_upto_if 105 with (fail)
  go_cut [20] (fun lv wx => lv = .int .i64 (looseI fr mo) ∧ w9 = wx)
  case first =>
    by_cases h0 : 0 < fr
    · have d1 : decide (0 < fr) = true := by simpa using h0
      have s1 : IntKind.i64.wrap (fr - mo) = fr - mo := IntWalk.i64_in _ (by omega)
      have s2 : IntKind.i64.wrap (100 * (fr - mo)) = 100 * (fr - mo) := IntWalk.i64_in _ (by omega)
      have f0 : decide (fr = 0) = false := by simp; omega
      have f0' : (fr == 0) = false := by simp; omega
      have s3 : IntKind.i64.wrap ((100 * (fr - mo)).tdiv fr) = (100 * (fr - mo)).tdiv fr := IntWalk.i64_in _ (by
        have h1 : (100 * (fr - mo)).tdiv fr = (100 * (fr - mo)) / fr := Int.tdiv_eq_ediv_of_nonneg (by omega)
        have h2 : 0 ≤ (100 * (fr - mo)) / fr := Int.ediv_nonneg (by omega) (by omega)
        have h3 : (100 * (fr - mo)) / fr ≤ 100 * (fr - mo) := Int.ediv_le_self _ (by omega)
        rw [h1]; omega)
      have hl : Hidden (looseI fr mo = (100 * (fr - mo)).tdiv fr) := ⟨by unfold looseI; rw [if_neg (by omega)]⟩
      have hne : ¬ fr = 0 := by omega
      clear h0
      simp only [d1]
      go_wp2_with fail
      go_meet
      exact ⟨by rw [hl.out], rfl⟩
    · have d1 : decide (0 < fr) = false := by simpa using h0
      have hl : Hidden (looseI fr mo = 0) := ⟨by unfold looseI; rw [if_pos (by omega)]⟩
      clear h0
      simp only [d1]
      go_wp2_with fail
      go_meet
      exact ⟨by rw [hl.out], rfl⟩
  case rest =>
  obtain ⟨rfl, rfl⟩ := hcut
  clear z0 z1 z2 z3 z4
  generalize looseI fr mo = lo at *
  go_wp2_with fail
  refine (HLO.out w9 (HP1.out.below H9.out.1)).mono ?_
  rintro e w10 ⟨rfl, hb10⟩
  have H10 := Hidden.mk (And.intro (H9.out.1.trans (hb10.mono H9.out.1.size)) (And.intro (H9.out.2.1.below hb10) (H9.out.2.2.below hb10)))
  have hmk := mk_ints 16 (by omega) w10
  rw [show ((16 : Nat) : Int) = 16 from rfl] at hmk
  have HI0 : Hidden (IRow (w10.alloc (.cells (Array.replicate 16 (.int .i64 0)) 3)) w10.heap.size 16 (fun _ => 0)) := ⟨IRow.new w10 16⟩
  have hal := (Below.refl w10.heap.size w10).alloc (Nat.le_refl _) (.cells (Array.replicate 16 (.int .i64 0)) 3)
  have H11 := Hidden.mk (And.intro (H10.out.1.trans (hal.mono H10.out.1.size)) (And.intro (H10.out.2.1.below hal) (H10.out.2.2.below hal)))
  have HSZ : Hidden ((w10.alloc (.cells (Array.replicate 16 (.int .i64 0)) 3)).heap.size = w10.heap.size + 1 ∧ w1.heap.size ≤ w10.heap.size ∧ s7 < w10.heap.size ∧ s8 < w10.heap.size) := ⟨by simp, H10.out.1.size, H10.out.2.1.lt, H10.out.2.2.lt⟩
  have HEN := Hidden.mk (refEntries_ok (some ⟨p, off, none⟩) ll.length c1 ll _ rfl hrb hc1 (HR1.out.below H11.out.1))
  have hle : (entriesL ll).length ≤ 40 := entsL_len _ _ 40
  have HTG : Hidden (∀ e ∈ entriesL ll, ∃ t : Nat, t ≤ 15 ∧ rTag e.2 = (t : Int)) := ⟨fun e he => by
    obtain ⟨k, hk, hh, rfl⟩ := entL_mem.1 he
    have := strayE_false (HGL.out.s.fit k hk hh)
    exact ⟨(rTag (rawE ll k)).toNat, by omega, by dsimp only; omega⟩⟩
  have HTL : Hidden (tagsL ll = (List.range 16).map (tagF (entriesL ll))) := ⟨rfl⟩
  generalize tagsL ll = TL at *
  generalize entriesL ll = E at *
  generalize hm : E.length = m at *
  have HM := Hidden.mk hm
  clear hb10 hal HLO H9 H10 hm
  go_wp2_with fail
  generalize w10.alloc (.cells (Array.replicate 16 (.int .i64 0)) 3) = w11 at *
  generalize w10.heap.size = g at *
  refine HEN.out.mono ?_
  rintro e w12 ⟨v, rfl, hown, hb12⟩
  obtain ⟨A5, c5, rfl, hc5, -⟩ := own_split hown
  have HR : Hidden (∀ W, But g w12 W → RdX ecells 4 W A5 E) := ⟨fun W hW => own_far (f := ecells) (fun _ => rfl) HM.out hown (by have := HSZ.out.1; omega) W hW⟩
  have HI1 := Hidden.mk (HI0.out.below hb12)
  have H12 := Hidden.mk (And.intro (H11.out.1.trans (hb12.mono H11.out.1.size)) (And.intro (H11.out.2.1.below hb12) (H11.out.2.2.below hb12)))
  clear hown hb12 HEN HI0 hmk H11
  go_wp2_with fail
  go_loopg [25] m (fun q iv wr => ∃ k : Nat, k ≤ m ∧ q = m - k ∧ iv = .int .i64 (k : Int) ∧ Hidden (But g w12 wr ∧ IRow wr g 16 (fun i => (tagF (E.take k) i : Int))))
  case atStart => exact ⟨0, by omega, rfl, rfl, ⟨Keep.refl _ _, HI1.out⟩⟩
  case round =>
    obtain ⟨k, hk, rfl, rfl, hst⟩ := hrel
    by_cases hlt : k < m
    · have hkE : k < E.length := by rw [HM.out]; exact hlt
      obtain ⟨pp, oo, rfl, hcx⟩ := (HR.out _ hst.out.1) k hkE
      have x2 := hcx 2 _ rfl
      have x3 := hcx 3 _ rfl
      obtain ⟨t, ht, het⟩ := HTG.out E[k] (List.getElem_mem hkE)
      have HSS := Hidden.mk (tagF_succ E k hkE)
      have hbt := tagF_le E t k (by omega)
      have b2 := rLen_le E[k].2
      rw [het] at x3 HSS
      generalize rLen E[k].2 = e2 at *
      have i0 : (0 : Int) ≤ k := by omega
      have i1 : (k : Int) < m := by omega
      have t0 : (0 : Int) ≤ t := by omega
      have t1 : (t : Int) < 16 := by omega
      have t1' : t < 16 := by omega
      have s1 : IntKind.i64.wrap ((tagF (E.take k) t : Int) + e2) = (tagF (E.take k) t : Int) + e2 := IntWalk.i64_in _ (by omega)
      have s3 : IntKind.i64.wrap ((k : Int) + 1) = (k : Int) + 1 := IntWalk.i64_in _ (by omega)
      have HN : Hidden (But g w12 wr ∧ IRow wr g 16 (fun i => (tagF (E.take k) i : Int))) := ⟨hst.out⟩
      have hgt := HN.out.2.cell t (by omega)
      have hgf := HN.out.2.frozen t
      have HSW : Hidden (∀ W, But g w12 W → IRow W g 16 (fun i => (tagF (E.take k) i : Int)) → But g w12 (W.setCell ⟨g, t, none⟩ (.int .i64 ((tagF (E.take k) t : Int) + e2))) ∧ IRow (W.setCell ⟨g, t, none⟩ (.int .i64 ((tagF (E.take k) t : Int) + e2))) g 16 (fun i => (tagF (E.take (k + 1)) i : Int))) := ⟨fun W h1 h2 => ⟨h1.setCell (p := ⟨g, t, none⟩) (.inl rfl) _, (h2.set t _).congr fun i _ => by
        rw [HSS.out i]
        unfold updI
        by_cases hi : i = t
        · subst hi; rw [if_pos rfl, if_pos rfl]; omega
        · rw [if_neg hi, if_neg (by omega)]⟩⟩
      clear hcx hst HSS hbt b2 het
      generalize tagF (E.take k) t = tt at *
      go_upto_region 32 with (fail)
      go_still_tail 22, (by kernel_rfl)
      change wpList _ _ _ _ _ wr.drew
      have HN2 : Hidden (But g w12 wr.drew ∧ IRow wr.drew g 16 (fun i => (tagF (E.take k) i : Int))) := ⟨HN.out.1.drewN 1, HN.out.2.block rfl⟩
      have hgt2 : wr.drew.cell? ⟨g, t, none⟩ = some (.int .i64 tt) := hgt
      have hgf2 : wr.drew.frozen? ⟨g, t, none⟩ = false := hgf
      have HQ := Hidden.mk (HSW.out _ HN2.out.1 HN2.out.2)
      clear x2 x3 hgt hgf HN HSW HN2
      generalize wr.drew = wd at *
      go_wp2_with fail
      go_roundg (m - (k + 1))
      case measure => omega
      case rel => exact ⟨k + 1, by omega, rfl, by go_num, HQ⟩
    · have hkm : m = k := by omega
      have hT := hst.out
      rw [List.take_of_length_le (by rw [HM.out]; omega)] at hT
      have hbr : Below w1.heap.size w12 wr := hT.1.below H12.out.1.size (fun k e => by rw [e]; exact HSZ.out.2.1)
      have HTR : Hidden (RdX ncell 1 wr (some ⟨g, 0, none⟩) TL) := ⟨by rw [HTL.out]; exact hT.2.rdn (fun _ _ => rfl)⟩
      have H13 := Hidden.mk (And.intro (H12.out.1.trans hbr) (And.intro (H12.out.2.1.but hT.1 (by have := HSZ.out.2.2.1; omega)) (H12.out.2.2.but hT.1 (by have := HSZ.out.2.2.2; omega))))
      have dk : decide ((k : Int) < m) = false := decide_eq_false (by omega)
      have dk' : decide (k < m) = false := decide_eq_false (by omega)
      clear hT hst hbr hkm H12 HI1
      go_wp2_with fail
      refine (HBT.out wr (HP1.out.below H13.out.1)).mono ?_
      rintro e w14 ⟨g2, rfl, hr14, hb14⟩
      have H14 := Hidden.mk (And.intro (H13.out.1.trans (hb14.mono H13.out.1.size)) (And.intro (H13.out.2.1.below hb14) (H13.out.2.2.below hb14)))
      have HSI := Hidden.mk (sameInts_eq (some ⟨g2, 0, none⟩) (some ⟨g, 0, none⟩) 16 16 16 TL w14 (by rw [HTL.out]; simp) (by omega) hr14 (HTR.out.below hb14))
      clear hr14 hb14 HBT H13 HTR
      go_wp2_with fail
      refine HSI.out.mono ?_
      rintro e w15 ⟨rfl, hb15⟩
      have H15 := Hidden.mk (And.intro (H14.out.1.trans (hb15.mono H14.out.1.size)) (And.intro (H14.out.2.1.below hb15) (H14.out.2.2.below hb15)))
      clear hb15 HSI H14
      have HCB : Hidden (∀ W, Below w15.heap.size w15 W → Calls Tryz.prog 24 #[.pointer (some ⟨h, 0, none⟩)] W fun e w' => ∃ g cap, e = .returned (.slice (some ⟨g, 0, none⟩) ll.length cap) ∧ W.heap.size ≤ g ∧ Row w' 5 g cap ll ∧ Below W.heap.size W w') := ⟨fun W hW => hbytes_ok _ _ F h ll ((HP1.out.below H15.out.1).below hW)⟩
      have KS : Hidden (∀ W, Below w15.heap.size w15 W → (convert 22 9 (.slice (some ⟨p, off, none⟩) ll.length c1)).run Tryz.prog W = .ok (sv ll) W ∧ (W.cell? ⟨s7, 0, none⟩ = some (.int .i64 ob) ∧ W.cell? ⟨s7, 1, none⟩ = some (.int .i64 su) ∧ W.cell? ⟨s7, 2, none⟩ = some (.int .i64 fr) ∧ W.cell? ⟨s7, 3, none⟩ = some (.int .i64 mo) ∧ W.cell? ⟨s7, 4, none⟩ = some (.int .i64 ru)) ∧ W.cell? ⟨s8, 0, none⟩ = some (.int .i64 ob) ∧ W.cell? ⟨s8, 1, none⟩ = some (.int .i64 su) ∧ W.cell? ⟨s8, 2, none⟩ = some (.int .i64 fr) ∧ W.cell? ⟨s8, 3, none⟩ = some (.int .i64 mo) ∧ W.cell? ⟨s8, 4, none⟩ = some (.int .i64 ru)) := ⟨fun W hW => by
        obtain ⟨x0, x1, x2, x3, x4, -⟩ := fiveCells (H15.out.2.1.below hW)
        obtain ⟨y0, y1, y2, y3, y4, -⟩ := fiveCells (H15.out.2.2.below hW)
        exact ⟨conv_text W _ ll.length c1 ll rfl ((HR1.out.below H15.out.1).below hW), ⟨x0, x1, x2, x3, x4⟩, y0, y1, y2, y3, y4⟩⟩
      have HBW15 : Hidden (Below w.heap.size w w15) := ⟨HP1.out.bel.trans (H15.out.1.mono HP1.out.bel.size)⟩
      have e1 : (ll == ll) = true := by simp
      clear H15
      go_upto_region 34 with (fail)
      refine wp_region_held_drew (S := fun W => (convert 22 9 (.slice (some ⟨p, off, none⟩) ll.length c1)).run Tryz.prog W = .ok (sv ll) W ∧ (W.cell? ⟨s7, 0, none⟩ = some (.int .i64 ob) ∧ W.cell? ⟨s7, 1, none⟩ = some (.int .i64 su) ∧ W.cell? ⟨s7, 2, none⟩ = some (.int .i64 fr) ∧ W.cell? ⟨s7, 3, none⟩ = some (.int .i64 mo) ∧ W.cell? ⟨s7, 4, none⟩ = some (.int .i64 ru)) ∧ W.cell? ⟨s8, 0, none⟩ = some (.int .i64 ob) ∧ W.cell? ⟨s8, 1, none⟩ = some (.int .i64 su) ∧ W.cell? ⟨s8, 2, none⟩ = some (.int .i64 fr) ∧ W.cell? ⟨s8, 3, none⟩ = some (.int .i64 mo) ∧ W.cell? ⟨s8, 4, none⟩ = some (.int .i64 ru)) (by kernel_rfl) (KS.out _ (Below.refl _ _).drew) (fun hHeld => ?_)
      refine wpAnyH_take (i := 0) (oi := { dst := some 155, op := Op.move (Operand.tmp 9), type := 32, pos := "law.go:629", after := #[], guard := none }) (v := ?_) rfl (by kernel_rfl) (by kernel_rfl) (by kernel_rfl) (fun _ _ _ h => h) (Or.inl ⟨by rfl, ?_⟩) hHeld ?_
      rotate_left
      · intro w_ hSw
        go_simp
        try with_reducible rfl
      try simp only [Act.put, List.setIfInBounds_toArray, List.set_cons_zero, List.set_cons_succ]
      refine wpAnyH_take (i := 1) (oi := { dst := some 156, op := Op.binOp BinOp.eql 32 (Operand.tmp 155) (Operand.const Value.nilIface) 32, type := 4, pos := "law.go:629", after := #[{ on := 0, ground := Ground.data }], guard := none }) (v := ?_) rfl (by kernel_rfl) (by kernel_rfl) (by kernel_rfl) (fun _ _ _ h => h) (Or.inl ⟨by rfl, ?_⟩) hHeld ?_
      rotate_left
      · intro w_ hSw
        go_simp
        try with_reducible rfl
      try simp only [Act.put, List.setIfInBounds_toArray, List.set_cons_zero, List.set_cons_succ]
      refine wpAnyH_take (i := 2) (oi := { dst := some 157, op := Op.move (Operand.tmp 156), type := 4, pos := "law.go:629", after := #[{ on := 1, ground := Ground.data }], guard := none }) (v := ?_) rfl (by kernel_rfl) (by kernel_rfl) (by kernel_rfl) (fun _ _ _ h => h) (Or.inl ⟨by rfl, ?_⟩) hHeld ?_
      rotate_left
      · intro w_ hSw
        go_simp
        try with_reducible rfl
      try simp only [Act.put, List.setIfInBounds_toArray, List.set_cons_zero, List.set_cons_succ]
      refine wpAnyH_take (i := 3) (oi := { dst := some 158, op := Op.load 42 (Operand.tmp 8), type := 42, pos := "law.go:629", after := #[{ on := 2, ground := Ground.guard }], guard := some (2, true) }) (v := ?_) rfl (by kernel_rfl) (by kernel_rfl) (by kernel_rfl) (fun _ _ _ h => h) (Or.inl ⟨by rfl, ?_⟩) hHeld ?_
      rotate_left
      · intro w_ hSw
        go_simp
        try with_reducible rfl
      try simp only [Act.put, List.setIfInBounds_toArray, List.set_cons_zero, List.set_cons_succ]
      refine wpAnyH_take (i := 4) (oi := { dst := some 159, op := Op.load 42 (Operand.tmp 7), type := 42, pos := "law.go:629", after := #[{ on := 2, ground := Ground.guard }], guard := some (2, true) }) (v := ?_) rfl (by kernel_rfl) (by kernel_rfl) (by kernel_rfl) (fun _ _ _ h => h) (Or.inl ⟨by rfl, ?_⟩) hHeld ?_
      rotate_left
      · intro w_ hSw
        go_simp
        try with_reducible rfl
      try simp only [Act.put, List.setIfInBounds_toArray, List.set_cons_zero, List.set_cons_succ]
      refine wpAnyH_take (i := 5) (oi := { dst := some 160, op := Op.binOp BinOp.eql 42 (Operand.tmp 158) (Operand.tmp 159) 42, type := 4, pos := "law.go:629", after := #[{ on := 3, ground := Ground.data }, { on := 4, ground := Ground.data }, { on := 2, ground := Ground.guard }], guard := some (2, true) }) (v := ?_) rfl (by kernel_rfl) (by kernel_rfl) (by kernel_rfl) (fun _ _ _ h => h) (Or.inl ⟨by rfl, ?_⟩) hHeld ?_
      rotate_left
      · intro w_ hSw
        go_simp
        try with_reducible rfl
      try simp only [Act.put, List.setIfInBounds_toArray, List.set_cons_zero, List.set_cons_succ]
      refine wpAnyH_take (i := 6) (oi := { dst := some 161, op := Op.pick (Operand.tmp 157) (Operand.tmp 160) (Operand.const (Value.bool false)), type := 4, pos := "law.go:629", after := #[{ on := 2, ground := Ground.data }, { on := 5, ground := Ground.data }], guard := none }) (v := ?_) rfl (by kernel_rfl) (by kernel_rfl) (by kernel_rfl) (fun _ _ _ h => h) (Or.inl ⟨by rfl, ?_⟩) hHeld ?_
      rotate_left
      · intro w_ hSw
        go_simp
        try with_reducible rfl
      try simp only [Act.put, List.setIfInBounds_toArray, List.set_cons_zero, List.set_cons_succ]
      refine wpAnyH_take (i := 7) (oi := { dst := some 162, op := Op.move (Operand.tmp 161), type := 4, pos := "law.go:629", after := #[{ on := 6, ground := Ground.data }, { on := 2, ground := Ground.chain }], guard := none }) (v := ?_) rfl (by kernel_rfl) (by kernel_rfl) (by kernel_rfl) (fun _ _ _ h => h) (Or.inl ⟨by rfl, ?_⟩) hHeld ?_
      rotate_left
      · intro w_ hSw
        go_simp
        try with_reducible rfl
      try simp only [Act.put, List.setIfInBounds_toArray, List.set_cons_zero, List.set_cons_succ]
      refine wpAnyH_take (i := 8) (oi := { dst := some 163, op := Op.move (Operand.tmp 19), type := 4, pos := "law.go:629", after := #[{ on := 7, ground := Ground.guard }], guard := some (7, true) }) (v := ?_) rfl (by kernel_rfl) (by kernel_rfl) (by kernel_rfl) (fun _ _ _ h => h) (Or.inl ⟨by rfl, ?_⟩) hHeld ?_
      rotate_left
      · intro w_ hSw
        go_simp
        try with_reducible rfl
      try simp only [Act.put, List.setIfInBounds_toArray, List.set_cons_zero, List.set_cons_succ]
      refine wpAnyH_take (i := 9) (oi := { dst := some 164, op := Op.pick (Operand.tmp 162) (Operand.tmp 163) (Operand.const (Value.bool false)), type := 4, pos := "law.go:629", after := #[{ on := 7, ground := Ground.data }, { on := 8, ground := Ground.data }], guard := none }) (v := ?_) rfl (by kernel_rfl) (by kernel_rfl) (by kernel_rfl) (fun _ _ _ h => h) (Or.inl ⟨by rfl, ?_⟩) hHeld ?_
      rotate_left
      · intro w_ hSw
        go_simp
        try with_reducible rfl
      try simp only [Act.put, List.setIfInBounds_toArray, List.set_cons_zero, List.set_cons_succ]
      refine wpAnyH_take (i := 10) (oi := { dst := some 165, op := Op.move (Operand.tmp 164), type := 4, pos := "law.go:629", after := #[{ on := 9, ground := Ground.data }, { on := 7, ground := Ground.chain }], guard := none }) (v := ?_) rfl (by kernel_rfl) (by kernel_rfl) (by kernel_rfl) (fun _ _ _ h => h) (Or.inl ⟨by rfl, ?_⟩) hHeld ?_
      rotate_left
      · intro w_ hSw
        go_simp
        try with_reducible rfl
      try simp only [Act.put, List.setIfInBounds_toArray, List.set_cons_zero, List.set_cons_succ]
      refine wpAnyH_take (i := 11) (oi := { dst := some 166, op := Op.move (Operand.tmp 17), type := 3, pos := "law.go:629", after := #[{ on := 10, ground := Ground.guard }], guard := some (10, true) }) (v := ?_) rfl (by kernel_rfl) (by kernel_rfl) (by kernel_rfl) (fun _ _ _ h => h) (Or.inl ⟨by rfl, ?_⟩) hHeld ?_
      rotate_left
      · intro w_ hSw
        go_simp
        try with_reducible rfl
      try simp only [Act.put, List.setIfInBounds_toArray, List.set_cons_zero, List.set_cons_succ]
      refine wpAnyH_take (i := 12) (oi := { dst := some 167, op := Op.move (Operand.tmp 12), type := 3, pos := "law.go:629", after := #[{ on := 10, ground := Ground.guard }], guard := some (10, true) }) (v := ?_) rfl (by kernel_rfl) (by kernel_rfl) (by kernel_rfl) (fun _ _ _ h => h) (Or.inl ⟨by rfl, ?_⟩) hHeld ?_
      rotate_left
      · intro w_ hSw
        go_simp
        try with_reducible rfl
      try simp only [Act.put, List.setIfInBounds_toArray, List.set_cons_zero, List.set_cons_succ]
      refine wpAnyH_take (i := 13) (oi := { dst := some 168, op := Op.binOp BinOp.eql 3 (Operand.tmp 166) (Operand.tmp 167) 3, type := 4, pos := "law.go:629", after := #[{ on := 11, ground := Ground.data }, { on := 12, ground := Ground.data }, { on := 10, ground := Ground.guard }], guard := some (10, true) }) (v := ?_) rfl (by kernel_rfl) (by kernel_rfl) (by kernel_rfl) (fun _ _ _ h => h) (Or.inl ⟨by rfl, ?_⟩) hHeld ?_
      rotate_left
      · intro w_ hSw
        go_simp
        try with_reducible rfl
      try simp only [Act.put, List.setIfInBounds_toArray, List.set_cons_zero, List.set_cons_succ]
      refine wpAnyH_take (i := 14) (oi := { dst := some 169, op := Op.pick (Operand.tmp 165) (Operand.tmp 168) (Operand.const (Value.bool false)), type := 4, pos := "law.go:629", after := #[{ on := 10, ground := Ground.data }, { on := 13, ground := Ground.data }], guard := none }) (v := ?_) rfl (by kernel_rfl) (by kernel_rfl) (by kernel_rfl) (fun _ _ _ h => h) (Or.inl ⟨by rfl, ?_⟩) hHeld ?_
      rotate_left
      · intro w_ hSw
        go_simp
        try with_reducible rfl
      try simp only [Act.put, List.setIfInBounds_toArray, List.set_cons_zero, List.set_cons_succ]
      refine wpAnyH_take (i := 15) (oi := { dst := some 170, op := Op.move (Operand.tmp 169), type := 4, pos := "law.go:629", after := #[{ on := 14, ground := Ground.data }, { on := 10, ground := Ground.chain }], guard := none }) (v := ?_) rfl (by kernel_rfl) (by kernel_rfl) (by kernel_rfl) (fun _ _ _ h => h) (Or.inl ⟨by rfl, ?_⟩) hHeld ?_
      rotate_left
      · intro w_ hSw
        go_simp
        try with_reducible rfl
      try simp only [Act.put, List.setIfInBounds_toArray, List.set_cons_zero, List.set_cons_succ]
      refine wpAnyH_take (i := 16) (oi := { dst := some 171, op := Op.move (Operand.tmp 22), type := 32, pos := "law.go:629", after := #[{ on := 15, ground := Ground.guard }], guard := some (15, true) }) (v := ?_) rfl (by kernel_rfl) (by kernel_rfl) (by kernel_rfl) (fun _ _ _ h => h) (Or.inl ⟨by rfl, ?_⟩) hHeld ?_
      rotate_left
      · intro w_ hSw
        go_simp
        try with_reducible rfl
      try simp only [Act.put, List.setIfInBounds_toArray, List.set_cons_zero, List.set_cons_succ]
      refine wpAnyH_take (i := 17) (oi := { dst := some 172, op := Op.binOp BinOp.eql 32 (Operand.tmp 171) (Operand.const Value.nilIface) 32, type := 4, pos := "law.go:629", after := #[{ on := 16, ground := Ground.data }, { on := 15, ground := Ground.guard }], guard := some (15, true) }) (v := ?_) rfl (by kernel_rfl) (by kernel_rfl) (by kernel_rfl) (fun _ _ _ h => h) (Or.inl ⟨by rfl, ?_⟩) hHeld ?_
      rotate_left
      · intro w_ hSw
        go_simp
        try with_reducible rfl
      try simp only [Act.put, List.setIfInBounds_toArray, List.set_cons_zero, List.set_cons_succ]
      refine wpAnyH_take (i := 18) (oi := { dst := some 173, op := Op.pick (Operand.tmp 170) (Operand.tmp 172) (Operand.const (Value.bool false)), type := 4, pos := "law.go:629", after := #[{ on := 15, ground := Ground.data }, { on := 17, ground := Ground.data }], guard := none }) (v := ?_) rfl (by kernel_rfl) (by kernel_rfl) (by kernel_rfl) (fun _ _ _ h => h) (Or.inl ⟨by rfl, ?_⟩) hHeld ?_
      rotate_left
      · intro w_ hSw
        go_simp
        try with_reducible rfl
      try simp only [Act.put, List.setIfInBounds_toArray, List.set_cons_zero, List.set_cons_succ]
      refine wpAnyH_take (i := 19) (oi := { dst := some 174, op := Op.move (Operand.tmp 173), type := 4, pos := "law.go:629", after := #[{ on := 18, ground := Ground.data }, { on := 15, ground := Ground.chain }], guard := none }) (v := ?_) rfl (by kernel_rfl) (by kernel_rfl) (by kernel_rfl) (fun _ _ _ h => h) (Or.inl ⟨by rfl, ?_⟩) hHeld ?_
      rotate_left
      · intro w_ hSw
        go_simp
        try with_reducible rfl
      try simp only [Act.put, List.setIfInBounds_toArray, List.set_cons_zero, List.set_cons_succ]
      refine wpAnyH_take (i := 20) (oi := { dst := some 175, op := Op.move (Operand.tmp 21), type := 3, pos := "law.go:629", after := #[{ on := 19, ground := Ground.guard }], guard := some (19, true) }) (v := ?_) rfl (by kernel_rfl) (by kernel_rfl) (by kernel_rfl) (fun _ _ _ h => h) (Or.inl ⟨by rfl, ?_⟩) hHeld ?_
      rotate_left
      · intro w_ hSw
        go_simp
        try with_reducible rfl
      try simp only [Act.put, List.setIfInBounds_toArray, List.set_cons_zero, List.set_cons_succ]
      refine wpAnyH_take (i := 21) (oi := { dst := some 176, op := Op.move (Operand.tmp 20), type := 3, pos := "law.go:629", after := #[{ on := 19, ground := Ground.guard }], guard := some (19, true) }) (v := ?_) rfl (by kernel_rfl) (by kernel_rfl) (by kernel_rfl) (fun _ _ _ h => h) (Or.inl ⟨by rfl, ?_⟩) hHeld ?_
      rotate_left
      · intro w_ hSw
        go_simp
        try with_reducible rfl
      try simp only [Act.put, List.setIfInBounds_toArray, List.set_cons_zero, List.set_cons_succ]
      refine wpAnyH_take (i := 22) (oi := { dst := some 177, op := Op.binOp BinOp.eql 3 (Operand.tmp 175) (Operand.tmp 176) 3, type := 4, pos := "law.go:629", after := #[{ on := 20, ground := Ground.data }, { on := 21, ground := Ground.data }, { on := 19, ground := Ground.guard }], guard := some (19, true) }) (v := ?_) rfl (by kernel_rfl) (by kernel_rfl) (by kernel_rfl) (fun _ _ _ h => h) (Or.inl ⟨by rfl, ?_⟩) hHeld ?_
      rotate_left
      · intro w_ hSw
        go_simp
        try with_reducible rfl
      try simp only [Act.put, List.setIfInBounds_toArray, List.set_cons_zero, List.set_cons_succ]
      refine wpAnyH_take (i := 23) (oi := { dst := some 178, op := Op.pick (Operand.tmp 174) (Operand.tmp 177) (Operand.const (Value.bool false)), type := 4, pos := "law.go:629", after := #[{ on := 19, ground := Ground.data }, { on := 22, ground := Ground.data }], guard := none }) (v := ?_) rfl (by kernel_rfl) (by kernel_rfl) (by kernel_rfl) (fun _ _ _ h => h) (Or.inl ⟨by rfl, ?_⟩) hHeld ?_
      rotate_left
      · intro w_ hSw
        go_simp
        try with_reducible rfl
      try simp only [Act.put, List.setIfInBounds_toArray, List.set_cons_zero, List.set_cons_succ]
      refine wpAnyH_take (i := 24) (oi := { dst := some 179, op := Op.move (Operand.tmp 178), type := 4, pos := "law.go:629", after := #[{ on := 23, ground := Ground.data }, { on := 19, ground := Ground.chain }], guard := none }) (v := ?_) rfl (by kernel_rfl) (by kernel_rfl) (by kernel_rfl) (fun _ _ _ h => h) (Or.inl ⟨by rfl, ?_⟩) hHeld ?_
      rotate_left
      · intro w_ hSw
        go_simp
        try with_reducible rfl
      try simp only [Act.put, List.setIfInBounds_toArray, List.set_cons_zero, List.set_cons_succ]
      refine wpAnyH_take (i := 25) (oi := { dst := some 180, op := Op.move (Operand.tmp 26), type := 4, pos := "law.go:629", after := #[{ on := 24, ground := Ground.guard }], guard := some (24, true) }) (v := ?_) rfl (by kernel_rfl) (by kernel_rfl) (by kernel_rfl) (fun _ _ _ h => h) (Or.inl ⟨by rfl, ?_⟩) hHeld ?_
      rotate_left
      · intro w_ hSw
        go_simp
        try with_reducible rfl
      try simp only [Act.put, List.setIfInBounds_toArray, List.set_cons_zero, List.set_cons_succ]
      refine wpAnyH_take (i := 26) (oi := { dst := some 181, op := Op.pick (Operand.tmp 179) (Operand.tmp 180) (Operand.const (Value.bool false)), type := 4, pos := "law.go:629", after := #[{ on := 24, ground := Ground.data }, { on := 25, ground := Ground.data }], guard := none }) (v := ?_) rfl (by kernel_rfl) (by kernel_rfl) (by kernel_rfl) (fun _ _ _ h => h) (Or.inl ⟨by rfl, ?_⟩) hHeld ?_
      rotate_left
      · intro w_ hSw
        go_simp
        try with_reducible rfl
      try simp only [Act.put, List.setIfInBounds_toArray, List.set_cons_zero, List.set_cons_succ]
      refine wpAnyH_take (i := 27) (oi := { dst := some 182, op := Op.move (Operand.tmp 181), type := 4, pos := "law.go:629", after := #[{ on := 26, ground := Ground.data }, { on := 24, ground := Ground.chain }], guard := none }) (v := ?_) rfl (by kernel_rfl) (by kernel_rfl) (by kernel_rfl) (fun _ _ _ h => h) (Or.inl ⟨by rfl, ?_⟩) hHeld ?_
      rotate_left
      · intro w_ hSw
        go_simp
        try with_reducible rfl
      try simp only [Act.put, List.setIfInBounds_toArray, List.set_cons_zero, List.set_cons_succ]
      refine wpAnyH_take (i := 28) (oi := { dst := some 183, op := Op.move (Operand.tmp 5), type := 23, pos := "law.go:629", after := #[{ on := 27, ground := Ground.guard }], guard := some (27, true) }) (v := ?_) rfl (by kernel_rfl) (by kernel_rfl) (by kernel_rfl) (fun _ _ _ h => h) (Or.inl ⟨by rfl, ?_⟩) hHeld ?_
      rotate_left
      · intro w_ hSw
        go_simp
        try with_reducible rfl
      try simp only [Act.put, List.setIfInBounds_toArray, List.set_cons_zero, List.set_cons_succ]
      refine wpAnyH_take (i := 31) (oi := { dst := some 186, op := Op.move (Operand.tmp 6), type := 22, pos := "law.go:629", after := #[{ on := 27, ground := Ground.guard }], guard := some (27, true) }) (v := ?_) rfl (by kernel_rfl) (by kernel_rfl) (by kernel_rfl) (fun _ _ _ h => h) (Or.inl ⟨by rfl, ?_⟩) hHeld ?_
      rotate_left
      · intro w_ hSw
        go_simp
        try with_reducible rfl
      try simp only [Act.put, List.setIfInBounds_toArray, List.set_cons_zero, List.set_cons_succ]
      refine wpAnyH_take (i := 32) (oi := { dst := some 187, op := Op.convert 22 9 (Operand.tmp 186), type := 9, pos := "law.go:629", after := #[{ on := 31, ground := Ground.data }, { on := 27, ground := Ground.guard }], guard := some (27, true) }) (v := ?_) rfl (by kernel_rfl) (by kernel_rfl) (by kernel_rfl) (fun _ _ _ h => h) (Or.inl ⟨by rfl, ?_⟩) hHeld ?_
      rotate_left
      · intro w_ hSw
        go_simp
        try with_reducible rfl
      try simp only [Act.put, List.setIfInBounds_toArray, List.set_cons_zero, List.set_cons_succ]
      refine wpAnyH_ready (rs := [29]) (by kernel_rfl) (by simp) ?_
      refine AllReadyH.cons (o := { dst := some 184, op := Op.call { callee := Callee.value (Operand.func 24), args := #[Operand.tmp 183], argTypes := #[23] }, type := 22, pos := "law.go:629", after := #[{ on := 28, ground := Ground.data }, { on := 27, ground := Ground.chain }, { on := 27, ground := Ground.guard }], guard := some (27, true) }) rfl (fun K hK => ?_) AllReadyH.nil
      rw [if_pos (by rfl)]
      go_simp
      go_at_call 24
      refine (HCB.out _ (Below.refl _ _).drew).mono ?_
      rintro e w16 ⟨g6, cap6, rfl, hg6, hrow6, hb6⟩
      have hbX : Below w15.heap.size w15 w16 := (Below.refl _ _).drew.trans hb6
      have e2 := conv_text w16 (some ⟨g6, 0, none⟩) ll.length cap6 ll rfl hrow6.rd
      dsimp only
      refine hK.out _ _ (KS.out _ hbX) (fun hHeld => ?_)
      clear hK K
      try simp only [Act.put, List.setIfInBounds_toArray, List.set_cons_zero, List.set_cons_succ]
      refine wpAnyH_ready (rs := [30]) (by kernel_rfl) (by simp) ?_
      refine AllReadyH.cons (o := { dst := some 185, op := Op.convert 22 9 (Operand.tmp 184), type := 9, pos := "law.go:629", after := #[{ on := 29, ground := Ground.data }, { on := 27, ground := Ground.guard }], guard := some (27, true) }) rfl (fun K hK => ?_) AllReadyH.nil
      rw [if_pos (by rfl)]
      go_simp
      refine hK.out _ _ hHeld (fun hHeld => ?_)
      clear hK K
      try simp only [Act.put, List.setIfInBounds_toArray, List.set_cons_zero, List.set_cons_succ]
      refine wpAnyH_take (i := 33) (oi := { dst := some 188, op := Op.binOp BinOp.eql 9 (Operand.tmp 185) (Operand.tmp 187) 9, type := 4, pos := "law.go:629", after := #[{ on := 30, ground := Ground.data }, { on := 32, ground := Ground.data }, { on := 27, ground := Ground.guard }], guard := some (27, true) }) (v := ?_) rfl (by kernel_rfl) (by kernel_rfl) (by kernel_rfl) (fun _ _ _ h => h) (Or.inl ⟨by rfl, ?_⟩) hHeld ?_
      rotate_left
      · intro w_ hSw
        go_simp
        try with_reducible rfl
      try simp only [Act.put, List.setIfInBounds_toArray, List.set_cons_zero, List.set_cons_succ]
      refine wpAnyH_take (i := 34) (oi := { dst := some 189, op := Op.pick (Operand.tmp 182) (Operand.tmp 188) (Operand.const (Value.bool false)), type := 4, pos := "law.go:629", after := #[{ on := 27, ground := Ground.data }, { on := 33, ground := Ground.data }], guard := none }) (v := ?_) rfl (by kernel_rfl) (by kernel_rfl) (by kernel_rfl) (fun _ _ _ h => h) (Or.inl ⟨by rfl, ?_⟩) hHeld ?_
      rotate_left
      · intro w_ hSw
        go_simp
        try with_reducible rfl
      try simp only [Act.put, List.setIfInBounds_toArray, List.set_cons_zero, List.set_cons_succ]
      refine wpAnyH_take (i := 35) (oi := { dst := some 4, op := Op.assign (Operand.tmp 189), type := 4, pos := "law.go:629", after := #[{ on := 34, ground := Ground.data }, { on := 29, ground := Ground.chain }, { on := 0, ground := Ground.phase }, { on := 1, ground := Ground.phase }, { on := 2, ground := Ground.phase }, { on := 3, ground := Ground.phase }, { on := 4, ground := Ground.phase }, { on := 5, ground := Ground.phase }, { on := 6, ground := Ground.phase }, { on := 7, ground := Ground.phase }, { on := 8, ground := Ground.phase }, { on := 9, ground := Ground.phase }, { on := 10, ground := Ground.phase }, { on := 11, ground := Ground.phase }, { on := 12, ground := Ground.phase }, { on := 13, ground := Ground.phase }, { on := 14, ground := Ground.phase }, { on := 15, ground := Ground.phase }, { on := 16, ground := Ground.phase }, { on := 17, ground := Ground.phase }, { on := 18, ground := Ground.phase }, { on := 19, ground := Ground.phase }, { on := 20, ground := Ground.phase }, { on := 21, ground := Ground.phase }, { on := 22, ground := Ground.phase }, { on := 23, ground := Ground.phase }, { on := 24, ground := Ground.phase }, { on := 25, ground := Ground.phase }, { on := 26, ground := Ground.phase }, { on := 27, ground := Ground.phase }, { on := 28, ground := Ground.phase }, { on := 29, ground := Ground.phase }, { on := 30, ground := Ground.phase }, { on := 31, ground := Ground.phase }, { on := 32, ground := Ground.phase }, { on := 33, ground := Ground.phase }, { on := 34, ground := Ground.phase }], guard := none }) (v := ?_) rfl (by kernel_rfl) (by kernel_rfl) (by kernel_rfl) (fun _ _ _ h => h) (Or.inl ⟨by rfl, ?_⟩) hHeld ?_
      rotate_left
      · intro w_ hSw
        go_simp
        try with_reducible rfl
      try simp only [Act.put, List.setIfInBounds_toArray, List.set_cons_zero, List.set_cons_succ]
      refine wpAnyH_done (by kernel_rfl) ?_ _

      have HFB2 := Hidden.mk (HBW15.out.trans (hbX.mono HBW15.out.size))
      clear hrow6 hg6 hb6 hbX HCB KS e2
      go_wp2_with fail
      go_ret
      exact ⟨rfl, HFB2.out⟩
end Go.Proofs.YtecjjhfaljdcpaaGreatDoor
