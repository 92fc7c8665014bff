/- Contracts and plain laws, put together: Stat1, MoveRoomP, StatSumsP, ReachChainP, LayK, LayR, SortI, SortJ, Dev2, Keys1, DiffA, DiffA1, Dev3, Diff3, Reach2, Reach3, LayN, Keys3, Reach4, Reach5, ReachHoldsP, ReachChain1. -/
import Derived.Test.YtcahgmnkphmnhaaGreatReachHoldsFrameM4
import Derived.Test.YtcahgmnkphmnhaaGreatReachHoldsFrameM2
import Derived.Test.YtcahgmnkphmnhaaGreatReachHoldsFrameM5
import Derived.StillTailTactics
import Derived.Shelf.SlGeneric
import Derived.Shelf.SlIterI.Nil
import Derived.Shelf.SortM.Plain
import Derived.Shelf.SortM.SortNone
import Derived.Ground.GgzProg
import Derived.Ground.SlgmProg
import Derived.Test.YtcahgmnkphmnhaaGreatReachHoldsFrameM1
import Derived.Shelf.Slices.CompactI
import Derived.Shelf.Slices.Reverse
import Derived.Test.YtcahgmnkphmnhaaGreatReachHoldsFrameM3
import Derived.Deep.RegionHeld3
import Derived.Deep.LoopGhost
import Derived.Deep.DeepCutAuto
import Derived.Deep.CutBlock
/- Package stat: Loose, ByTag, Can. -/
namespace Go.Proofs.YtcahgmnkphmnhaaGreat
open Go.RowKit

/-- how much of what is free is not in one run -/
def looseI (fr mo : Int) : Int := if fr = 0 then 0 else (100 * (fr - mo)).tdiv fr
def freeL_ (l : Bytes) : Int := (l.length : Int) - 288 - sumX (takenL l)
def mostL (l : Bytes) : Int := mostX (holesX ((l.length : Int) - 288) (takenL l))
theorem free_bd {l : Bytes} (hg : Good l) : 0 ≤ mostL l ∧ mostL l ≤ freeL_ l ∧ freeL_ l ≤ 6400 := by
  have h1 := (mostX_mem (holesX ((l.length : Int) - 288) (takenL l))).1
  have h2 := most_free (good_chk hg)
  have h3 : 0 ≤ sumX (takenL l) := (sum_mem (fun x hx => by have := badX_false (holds_bad (good_chk hg) x hx); omega)).1
  have hb := hg.bd
  unfold mostL freeL_
  omega
theorem statH_five {l : Bytes} (hg : Good l) : statH l = .agg #[.int .i64 ((takenL l).length : Int), .int .i64 (sumX (takenL l)), .int .i64 (freeL_ l), .int .i64 (mostL l), .int .i64 ((holesX ((l.length : Int) - 288) (takenL l)).length : Int)] := statH_good hg
/-- of each tag -/
def tagF (E : List Ent) (j : Nat) : Nat := E.foldl (fun s e => if rTag e.2 = (j : Int) then s + rLen e.2 else s) 0
theorem tagF_succ (E : List Ent) (k : Nat) (hk : k < E.length) (j : Nat) : tagF (E.take (k + 1)) j = if rTag E[k].2 = (j : Int) then tagF (E.take k) j + rLen E[k].2 else tagF (E.take k) j := by
  unfold tagF; rw [List.take_succ_eq_append_getElem hk, List.foldl_append]; rfl
theorem tagF_le (E : List Ent) (j : Nat) : ∀ k, k ≤ E.length → tagF (E.take k) j ≤ 65535 * k
  | 0, _ => by simp [tagF]
  | k + 1, hk => by
    rw [tagF_succ E k hk]
    have := tagF_le E j k (by omega)
    have := rLen_le E[k].2
    split <;> omega
def tagsL (l : Bytes) : List Nat := (List.range 16).map (tagF (entriesL l))
theorem IRow.rdn {w : World} {g N : Nat} {T : Nat → Nat} {f : Nat → Int} (h : IRow w g N f) (hf : ∀ i, i < N → f i = (T i : Int)) : RdX ncell 1 w (some ⟨g, 0, none⟩) ((List.range N).map T) := fun i hi => by
  have hiN : i < N := by simpa using hi
  refine ⟨g, 0, rfl, fun q u hq => ?_⟩
  have hc := h.cell i hiN
  rw [hf i hiN] at hc
  unfold ncell at hq
  cases q with
  | zero =>
    simp only [List.getElem?_cons_zero, List.getElem_map, List.getElem_range] at hq
    have := Option.some.inj hq
    subst this
    simpa using hc
  | succ q => simp at hq
section
variable {w0 w : World} {F : Nat → Prop} {h : Nat} {l : Bytes}
set_option maxRecDepth 100000 in
theorem loose_any (hp : Hp w0 w F h l) (hg : Good l) :
    Calls Tryz.prog 26 #[.pointer (some ⟨h, 0, none⟩)] w fun e w' => e = .returned (.tuple #[.int .i64 (looseI (freeL_ l) (mostL l)), .nilIface]) ∧ Below w.heap.size w w' := by
  have HC := Hidden.mk (sheap_any hp hg)
  rw [statH_five hg] at HC
  have hbd := free_bd hg
  generalize (sumX (takenL l)) = a1 at *
  generalize ((holesX ((l.length : Int) - 288) (takenL l)).length : Int) = a4 at *
  generalize ((takenL l).length : Int) = a0 at *
  generalize freeL_ l = fr at *
  generalize mostL l = mo at *
  have s1 : IntKind.i64.wrap (fr - mo) = fr - mo := IntWalk.i64_in _ (by omega)
  have s2 : IntKind.i64.wrap (100 * (fr - mo)) = 100 * (fr - mo) := IntWalk.i64_in _ (by omega)
  clear hp hg
  go_enter Tryz.func26, Tryz.ntmps26
  go_wp2_with fail
  refine HC.out.mono ?_
  rintro e w1 ⟨rfl, hb1⟩
  have HB1 : Hidden (Below w.heap.size w (w1.alloc (.cells #[.int .i64 a0, .int .i64 a1, .int .i64 fr, .int .i64 mo, .int .i64 a4] 57))) := ⟨hb1.alloc hb1.size _⟩
  have hbk := heap_alloc_new w1 (.cells #[.int .i64 a0, .int .i64 a1, .int .i64 fr, .int .i64 mo, .int .i64 a4] 57)
  obtain ⟨z0, z1, z2, z3, z4, -⟩ := fiveCells hbk
  clear hb1 hbk HC
  by_cases h0 : fr = 0
  · have hl : looseI fr mo = 0 := by unfold looseI; rw [if_pos h0]
    subst h0
    go_wp2_with fail
    go_ret2
    exact ⟨by rw [hl]; rfl, HB1.out⟩
  · have hl : looseI fr mo = (100 * (fr - mo)).tdiv fr := by unfold looseI; rw [if_neg h0]
    have d0 : decide (fr = 0) = false := by simpa using h0
    have d0' : (fr == 0) = false := by simpa using h0
    have s3 : IntKind.i64.wrap ((100 * (fr - mo)).tdiv fr) = (100 * (fr - mo)).tdiv fr := IntWalk.i64_in _ (by
      have h1 : (100 * (fr - mo)).tdiv fr = (100 * (fr - mo)) / fr := Int.tdiv_eq_ediv_of_nonneg (by omega)
      have h2 : 0 ≤ (100 * (fr - mo)) / fr := Int.ediv_nonneg (by omega) (by omega)
      have h3 : (100 * (fr - mo)) / fr ≤ 100 * (fr - mo) := Int.ediv_le_self _ (by omega)
      rw [h1]; omega)
    go_wp2_with fail
    go_ret2
    exact ⟨by rw [hl]; rfl, HB1.out⟩
/-- how many of them could be had -/
def canF : Bytes → List Int → Nat
  | _, [] => 0
  | l, x :: r => if allocE l x 0 = 0 then canF (allocL l x 0) r + 1 else 0
def canE (S : List Int) : Nat := if 200 < S.length then 4 else if S.all (fun x => lenB x) = true then 0 else 1
def canN (l : Bytes) (S : List Int) : Nat := if canE S = 0 then canF l S else 0
theorem canF_drop (l : Bytes) (S : List Int) (k : Nat) (hk : k < S.length) : canF l (S.drop k) = if allocE l S[k] 0 = 0 then canF (allocL l S[k] 0) (S.drop (k + 1)) + 1 else 0 := by
  rw [List.drop_eq_getElem_cons hk]; rfl
theorem canF_le : ∀ (S : List Int) (l : Bytes), canF l S ≤ S.length
  | [], _ => Nat.le_refl _
  | x :: r, l => by
    unfold canF
    have := canF_le r (allocL l x 0)
    split <;> simp <;> omega
set_option maxRecDepth 100000 in
theorem bytag_any (hp : Hp w0 w F h l) (hg : Good l) :
    Calls Tryz.prog 25 #[.pointer (some ⟨h, 0, none⟩)] w fun e w' => ∃ g, e = .returned (.slice (some ⟨g, 0, none⟩) 16 16) ∧ RdX ncell 1 w' (some ⟨g, 0, none⟩) (tagsL l) ∧ Below w.heap.size w w' := by
  have HTG : Hidden (∀ e ∈ entriesL l, ∃ t : Nat, t ≤ 15 ∧ rTag e.2 = (t : Int)) := ⟨fun e he => by
    obtain ⟨k, hk, hh, rfl⟩ := entL_mem.1 he
    have := strayE_false (hg.s.fit k hk hh)
    exact ⟨(rTag (rawE l k)).toNat, by omega, by dsimp only; omega⟩⟩
  have hmk := mk_ints 16 (by omega) w
  rw [show ((16 : Nat) : Int) = 16 from rfl] at hmk
  have HI0 : Hidden (IRow (w.alloc (.cells (Array.replicate 16 (.int .i64 0)) 3)) w.heap.size 16 (fun _ => 0)) := ⟨IRow.new w 16⟩
  have HB0 : Hidden (Below w.heap.size w (w.alloc (.cells (Array.replicate 16 (.int .i64 0)) 3)) ∧ (w.alloc (.cells (Array.replicate 16 (.int .i64 0)) 3)).heap.size = w.heap.size + 1) := ⟨(Below.refl _ _).alloc (Nat.le_refl _) _, by simp⟩
  have HC := Hidden.mk (hentries_any (hp.below HB0.out.1))
  have hle : (entriesL l).length ≤ 40 := entsL_len _ _ 40
  have HTL : Hidden (tagsL l = (List.range 16).map (tagF (entriesL l))) := ⟨rfl⟩
  generalize tagsL l = TL at *
  generalize entriesL l = E at *
  generalize hm : E.length = m at *
  have HM := Hidden.mk hm
  clear hp hg hm
  go_enter Tryz.func25, Tryz.ntmps25
  go_wp2_with fail
  generalize w.alloc (.cells (Array.replicate 16 (.int .i64 0)) 3) = wa at *
  generalize hgd : w.heap.size = g at *
  have HGD := Hidden.mk hgd
  refine HC.out.mono ?_
  rintro e w1 ⟨v, rfl, hown, hb1⟩
  obtain ⟨A1, c1, rfl, hc1, -⟩ := own_split hown
  have HR : Hidden (∀ W, But g w1 W → RdX ecells 4 W A1 E) := ⟨fun W hW => own_far (f := ecells) (fun _ => rfl) HM.out hown (by have := HB0.out.2; omega) W hW⟩
  have HI1 := Hidden.mk (HI0.out.below hb1)
  have HB1 : Hidden (Below g w w1) := ⟨HB0.out.1.trans (hb1.mono (by have := HB0.out.2; omega))⟩
  clear hown hb1 HC HI0 hmk hgd
  go_wp2_with fail
  go_loopg [10] m (fun q iv wr => ∃ k : Nat, k ≤ m ∧ q = m - k ∧ iv = .int .i64 (k : Int) ∧ Hidden (But g w1 wr ∧ IRow wr g 16 (fun i => (tagF (E.take k) i : Int))))
  case atStart => exact ⟨0, by omega, rfl, rfl, ⟨Keep.refl _ _, HI1.out⟩⟩
  case round =>
    obtain ⟨k, hk, rfl, rfl, hst⟩ := hrel
    by_cases hlt : k < m
    · have hkE : k < E.length := by rw [HM.out]; exact hlt
      obtain ⟨pp, oo, rfl, hcx⟩ := (HR.out _ hst.out.1) k hkE
      have x0 := hcx 0 _ rfl
      have x1 := hcx 1 _ rfl
      have x2 := hcx 2 _ rfl
      have x3 := hcx 3 _ rfl
      rw [Nat.add_zero] at x0
      obtain ⟨t, ht, het⟩ := HTG.out E[k] (List.getElem_mem hkE)
      have HS := Hidden.mk (tagF_succ E k hkE)
      have hbt := tagF_le E t k (by omega)
      have b2 := rLen_le E[k].2
      rw [het] at x3 HS
      generalize E[k].1 = e0 at *
      generalize rAt E[k].2 = e1 at *
      generalize rLen E[k].2 = e2 at *
      have i0 : (0 : Int) ≤ k := by omega
      have i1 : (k : Int) < m := by omega
      have t0 : (0 : Int) ≤ t := by omega
      have t1 : (t : Int) < 16 := by omega
      have t1' : t < 16 := by omega
      have s1 : IntKind.i64.wrap ((tagF (E.take k) t : Int) + e2) = (tagF (E.take k) t : Int) + e2 := IntWalk.i64_in _ (by omega)
      have s3 : IntKind.i64.wrap ((k : Int) + 1) = (k : Int) + 1 := IntWalk.i64_in _ (by omega)
      have hal : Below wr.heap.size wr (wr.alloc (.cells #[.int .i64 e0, .int .i64 e1, .int .i64 e2, .int .i64 t] 97)) := (Below.refl _ _).alloc (Nat.le_refl _) _
      have HN : Hidden (But g w1 (wr.alloc (.cells #[.int .i64 e0, .int .i64 e1, .int .i64 e2, .int .i64 t] 97)) ∧ IRow (wr.alloc (.cells #[.int .i64 e0, .int .i64 e1, .int .i64 e2, .int .i64 t] 97)) g 16 (fun i => (tagF (E.take k) i : Int))) := ⟨hst.out.1.trans (Keep.of_below (F := fun k => k = g) hal) (fun x hx => .inl hx), hst.out.2.below hal⟩
      have hgt := HN.out.2.cell t (by omega)
      have hgf := HN.out.2.frozen t
      obtain ⟨z0, z1, z2, z3⟩ := fourAt_one wr e0 e1 e2 t 97
      have HST : Hidden (∀ W, But g w1 W → IRow W g 16 (fun i => (tagF (E.take k) i : Int)) → But g w1 (W.setCell ⟨g, t, none⟩ (.int .i64 ((tagF (E.take k) t : Int) + e2))) ∧ IRow (W.setCell ⟨g, t, none⟩ (.int .i64 ((tagF (E.take k) t : Int) + e2))) g 16 (fun i => (tagF (E.take (k + 1)) i : Int))) := ⟨fun W h1 h2 => ⟨h1.setCell (p := ⟨g, t, none⟩) (.inl rfl) _, (h2.set t _).congr fun i _ => by
        rw [HS.out i]
        unfold updI
        by_cases hi : i = t
        · subst hi; rw [if_pos rfl, if_pos rfl]; omega
        · rw [if_neg hi, if_neg (by omega)]⟩⟩
      clear hcx hst hal HS hbt b2 het
      generalize tagF (E.take k) t = tt at *
      go_upto_region 5 with (fail)
      generalize wr.alloc (.cells #[.int .i64 e0, .int .i64 e1, .int .i64 e2, .int .i64 t] 97) = wb at *
      go_still_tail 10, (by kernel_rfl)
      change wpList _ _ _ _ _ wb.drew
      have HN2 : Hidden (But g w1 wb.drew ∧ IRow wb.drew g 16 (fun i => (tagF (E.take k) i : Int))) := ⟨HN.out.1.drewN 1, HN.out.2.block rfl⟩
      have hgt2 : wb.drew.cell? ⟨g, t, none⟩ = some (.int .i64 tt) := hgt
      have hgf2 : wb.drew.frozen? ⟨g, t, none⟩ = false := hgf
      have HQ := Hidden.mk (HST.out _ HN2.out.1 HN2.out.2)
      clear x0 x1 x2 x3 z0 z1 z2 z3 hgt hgf HN HST HN2
      generalize wb.drew = wd at *
      go_wp2_with fail
      go_roundg (m - (k + 1))
      case measure => omega
      case rel => exact ⟨k + 1, by omega, rfl, by go_num, HQ⟩
    · obtain rfl : m = k := by omega
      have hT := hst.out
      rw [List.take_of_length_le (by rw [HM.out]; exact Nat.le_refl _)] at hT
      have HF : Hidden (RdX ncell 1 wr (some ⟨g, 0, none⟩) TL ∧ Below g w wr) := ⟨by rw [HTL.out]; exact hT.2.rdn (fun _ _ => rfl), HB1.out.trans (hT.1.below (by have := HB1.out.size; have := HGD.out; omega) (fun k e => by rw [e]; exact Nat.le_refl _))⟩
      clear hT hst
      go_wp2_with fail
      go_ret
      exact ⟨g, rfl, HF.out.1, by rw [HGD.out]; exact HF.out.2⟩
set_option maxRecDepth 100000 in
theorem can_any (A : Option Addr) (c : Nat) (S : List Int) (hA : RdX icell 1 w A S) (hp : Hp w0 w F h l) (hg : Good l) :
    Calls Tryz.prog 27 #[.pointer (some ⟨h, 0, none⟩), .slice A S.length c] w fun e w' => e = .returned (.tuple #[.int .i64 (canN l S : Int), errV (canE S)]) ∧ Below w.heap.size w w' := by
  have HA := Hidden.mk hA
  by_cases h200 : 200 < S.length
  · have he : canE S = 4 := by unfold canE; rw [if_pos h200]
    have hn : canN l S = 0 := by unfold canN; rw [he]; rfl
    rw [he, hn]
    have d1 : decide ((200 : Int) < S.length) = true := by simp; omega
    have d1' : decide (200 < S.length) = true := by simpa using h200
    clear hp hg hA he hn
    go_enter Tryz.func27, Tryz.ntmps27
    go_wp2_with fail
    go_ret2
    exact ⟨rfl, Below.refl _ _⟩
  · have d1 : decide ((200 : Int) < S.length) = false := by simp; omega
    have d1' : decide (200 < S.length) = false := by simpa using h200
    have HEB : Hidden (∀ k (hk : k < S.length), lenB S[k] = false → canE S = 1 ∧ canN l S = 0) := ⟨fun k hk hb => by
      have h0 : canE S = 1 := by
        unfold canE
        rw [if_neg h200, if_neg (fun hall => by have := List.all_eq_true.1 hall _ (List.getElem_mem hk); rw [hb] at this; cases this)]
      exact ⟨h0, by unfold canN; rw [h0]; rfl⟩⟩
    have HEA : Hidden ((∀ x ∈ S, lenB x = true) → canE S = 0 ∧ canN l S = canF l S) := ⟨fun hall => by
      have h0 : canE S = 0 := by unfold canE; rw [if_neg h200, if_pos (List.all_eq_true.2 hall)]
      exact ⟨h0, by unfold canN; rw [if_pos h0]⟩⟩
    have HCD := Hidden.mk (fun l' k hk => canF_drop l' S k hk)
    have HHB := Hidden.mk (hbytes_ok _ _ F h l hp)
    have HBE := Hidden.mk hp.bel
    have HGD := Hidden.mk hg
    have HGB := hg.bd
    have hS : S.length ≤ 200 := by omega
    generalize canE S = ce at *
    generalize canN l S = cn at *
    clear hp hg hA h200
    go_enter Tryz.func27, Tryz.ntmps27
    go_wp2_with fail
    go_loopg [20] S.length (fun q iv wr => ∃ k : Nat, k ≤ S.length ∧ q = S.length - k ∧ iv = .int .i64 (k : Int) ∧ Hidden (wr = w ∧ ∀ x ∈ S.take k, lenB x = true))
    case atStart => exact ⟨0, by omega, rfl, rfl, ⟨rfl, fun x hx => by simp at hx⟩⟩
    case round =>
      obtain ⟨k, hk, rfl, rfl, hst⟩ := hrel
      obtain ⟨⟨rfl, hall⟩⟩ := hst
      have HALL := Hidden.mk hall
      clear hall
      by_cases hlt : k < S.length
      · obtain ⟨pp, oo, rfl, hcx⟩ := HA.out k hlt
        have x0 : wr.cell? ⟨pp, oo + k, none⟩ = some (.int .i64 S[k]) := by simpa using hcx 0 _ rfl
        have i0 : (0 : Int) ≤ k := by omega
        have i1 : (k : Int) < S.length := by omega
        have s3 : IntKind.i64.wrap ((k : Int) + 1) = (k : Int) + 1 := IntWalk.i64_in _ (by omega)
        have HL := Hidden.mk (len_any S[k] wr)
        have HNX : Hidden (lenB S[k] = true → ∀ x ∈ S.take (k + 1), lenB x = true) := ⟨fun hb x hx => by
          rw [List.take_succ_eq_append_getElem hlt] at hx
          rcases List.mem_append.1 hx with hx | hx
          · exact HALL.out x hx
          · simp only [List.mem_singleton] at hx; subst hx; exact hb⟩
        have HBD := Hidden.mk (HEB.out k hlt)
        generalize S[k] = sz at *
        clear hcx HCD HHB HEA
        cases hb : lenB sz with
        | true =>
          rw [hb] at HL
          have HX := Hidden.mk (HNX.out hb)
          clear HNX HBD hb
          go_wp2_with fail
          refine HL.out.mono ?_
          rintro e w2 ⟨rfl, rfl⟩
          go_wp2_with fail
          go_roundg (S.length - (k + 1))
          case measure => omega
          case rel => exact ⟨k + 1, by omega, rfl, by go_num, ⟨rfl, HX.out⟩⟩
        | false =>
          rw [hb] at HL
          obtain ⟨e1, e2⟩ := HBD.out hb
          subst e1 e2
          clear HNX HBD hb
          go_wp2_with fail
          refine HL.out.mono ?_
          rintro e w2 ⟨rfl, rfl⟩
          go_wp2_with fail
          go_ret2
          exact ⟨rfl, Below.refl _ _⟩
      · obtain rfl : k = S.length := by omega
        have hal := HALL.out
        rw [List.take_length] at hal
        obtain ⟨e1, e2⟩ := HEA.out hal
        subst e1 e2
        clear hal HALL HEA HEB
        go_wp2_with fail
        refine HHB.out.mono ?_
        rintro e w1 ⟨g, cap, rfl, hg1, hrow1, hb1⟩
        have HLD := Hidden.mk (hload_ok (some ⟨g, 0, none⟩) l.length cap l wr w1 rfl HGD.out hrow1.le.1 hrow1.rd hb1)
        have HB1 := Hidden.mk hb1
        clear hg1 hrow1 hb1 HHB
        go_wp2_with fail
        refine HLD.out.mono ?_
        rintro e w2 ⟨x, F2, rfl, hp2, -, -⟩
        have HP2 := Hidden.mk hp2
        clear hp2 HLD
        go_wp2_with fail
        go_loopg [40] S.length (fun q iv ws => ∃ (k : Nat) (F' : Nat → Prop) (l' : Bytes), k ≤ S.length ∧ q = S.length - k ∧ iv = .int .i64 (k : Int) ∧ Hidden (Hp wr ws F' x l' ∧ Good l' ∧ canF l S = k + canF l' (S.drop k)))
        case atStart => exact ⟨0, F2, l, by omega, rfl, rfl, ⟨HP2.out, HGD.out, by rw [List.drop_zero]; omega⟩⟩
        case round =>
          obtain ⟨k, F', l', hk2, rfl, rfl, hst⟩ := hrel
          have HST := Hidden.mk hst.out
          clear hst
          by_cases hlt : k < S.length
          · obtain ⟨pp, oo, rfl, hcx⟩ := (HA.out.below HST.out.1.bel) k hlt
            have x0 : wr.cell? ⟨pp, oo + k, none⟩ = some (.int .i64 S[k]) := by simpa using hcx 0 _ rfl
            have i0 : (0 : Int) ≤ k := by omega
            have i1 : (k : Int) < S.length := by omega
            have s3 : IntKind.i64.wrap ((k : Int) + 1) = (k : Int) + 1 := IntWalk.i64_in _ (by omega)
            have HAL := Hidden.mk (halloc_any S[k] 0 HST.out.1)
            have HCK := Hidden.mk (HCD.out l' k hlt)
            by_cases h0 : allocE l' S[k] 0 = 0
            · rw [h0, show errV 0 = Value.nilIface from rfl] at HAL
              have hck := HCK.out
              rw [if_pos h0] at hck
              have HN : Hidden (Good (allocL l' S[k] 0) ∧ canF l S = (k + 1) + canF (allocL l' S[k] 0) (S.drop (k + 1))) := ⟨alloc_good HST.out.2.1 _ _, by rw [HST.out.2.2, hck]; omega⟩
              generalize allocL l' S[k] 0 = l2 at *
              generalize allocH l' S[k] 0 = ah at *
              generalize S[k] = sz at *
              clear hcx h0 hck HCK HST HCD
              go_wp2_with fail
              refine HAL.out.mono ?_
              rintro e w3 ⟨rfl, F3, hm⟩
              have HM := Hidden.mk hm.hp
              clear hm HAL
              go_wp2_with fail
              go_roundg (S.length - (k + 1))
              case measure => omega
              case rel => exact ⟨k + 1, F3, l2, by omega, rfl, by go_num, ⟨HM.out, HN.out.1, HN.out.2⟩⟩
            · obtain ⟨ec, hec⟩ : ∃ ec, allocE l' S[k] 0 = ec + 1 := ⟨allocE l' S[k] 0 - 1, by omega⟩
              have hck := HCK.out
              rw [if_neg h0] at hck
              have hcf : Hidden (canF l S = k) := ⟨by rw [HST.out.2.2, hck]; rfl⟩
              rw [hec, show errV (ec + 1) = .iface 88 (.int .i64 ((ec + 1 : Nat) : Int)) from rfl] at HAL
              generalize allocL l' S[k] 0 = l2 at *
              generalize allocH l' S[k] 0 = ah at *
              generalize S[k] = sz at *
              clear hcx h0 hck hec HCK HST HCD
              go_wp2_with fail
              refine HAL.out.mono ?_
              rintro e w3 ⟨rfl, F3, hm⟩
              have HM := Hidden.mk hm.hp.bel
              clear hm HAL
              go_wp2_with fail
              go_ret2
              exact ⟨by rw [hcf.out]; rfl, HM.out⟩
          · have hkS : k = S.length := by omega
            have hcf : Hidden (canF l S = S.length) := ⟨by rw [HST.out.2.2, hkS, List.drop_length]; rfl⟩
            have HM := Hidden.mk HST.out.1.bel
            have dk : decide ((k : Int) < S.length) = false := by simp; omega
            have dk' : decide (k < S.length) = false := by simp; omega
            clear HST HCD
            go_wp2_with fail
            go_ret2
            exact ⟨by rw [hcf.out]; rfl, HM.out⟩
end
end Go.Proofs.YtcahgmnkphmnhaaGreat
/- MoveRoom, the plain law: what is free behind All can be had at once. No walk here. -/
namespace Go.Proofs.YtcahgmnkphmnhaaGreat
open Go.RowKit

def sumJ (g : Nat → Int) : Nat → Int
  | 0 => 0
  | n + 1 => sumJ g n + g n
theorem sumJ_upd (g g' : Nat → Int) (k : Nat) (h : ∀ j, j ≠ k → g' j = g j) : ∀ n, sumJ g' n = sumJ g n + (if k < n then g' k - g k else 0)
  | 0 => by simp [sumJ]
  | n + 1 => by
    rw [sumJ, sumJ, sumJ_upd g g' k h n]
    by_cases e : n = k
    · subst e
      rw [if_neg (by omega), if_pos (by omega)]; omega
    · rw [h n e]
      by_cases hk : k < n
      · rw [if_pos hk, if_pos (by omega)]; omega
      · rw [if_neg hk, if_neg (by omega)]; omega
def lenJ (l : Bytes) (j : Nat) : Int := if hasE (rawE l j) = true then (rLen (rawE l j) : Int) else 0
theorem sumX_snoc (L : List Ext) (x : Ext) : sumX (L ++ [x]) = sumX L + x.2 := by
  rw [sumX_append]
  have : sumX [x] = x.2 := by show (0 : Int) + x.2 = x.2; omega
  rw [this]
theorem sum_taken (l : Bytes) : sumX (takenL l) = sumJ (lenJ l) 40 := by
  have key : ∀ m, sumX ((entsL (fun k => hasE (rawE l k)) (rawE l) m).map takeX) = sumJ (lenJ l) m := by
    intro m
    induction m with
    | zero => rfl
    | succ m ih =>
      rw [entsL_succ, List.map_append, sumJ]
      by_cases h : hasE (rawE l m) = true
      · rw [if_pos h, List.map_cons, List.map_nil, sumX_snoc, ih]
        unfold lenJ; rw [if_pos h]; rfl
      · rw [if_neg h, List.map_nil, List.append_nil, ih]
        unfold lenJ; rw [if_neg h]; omega
  exact key 40
theorem AllocIs.sum {l l' : Bytes} {k a n t : Nat} (h : AllocIs l l' k a n t) (hg : Good l) : sumX (takenL l') = sumX (takenL l) + n := by
  obtain ⟨e1, e2, e3, e4⟩ := h.ent hg.bd.2
  rw [sum_taken, sum_taken]
  have key : ∀ m, m ≤ 40 → sumJ (lenJ l') m = sumJ (lenJ l) m + (if k < m then (n : Int) else 0) := by
    intro m
    induction m with
    | zero => intro _; simp [sumJ]
    | succ m ih =>
      intro hm
      rw [sumJ, sumJ, ih (by omega)]
      by_cases e : m = k
      · subst e
        rw [if_neg (by omega), if_pos (by omega)]
        unfold lenJ
        rw [if_pos e1, e3, if_neg (by rw [h.none]; decide)]
      · have : lenJ l' m = lenJ l m := by unfold lenJ; rw [h.ents m (by omega), if_neg e]
        rw [this]
        by_cases hk : k < m
        · rw [if_pos hk, if_pos (by omega)]; omega
        · rw [if_neg hk, if_neg (by omega)]; omega
  rw [key 40 (Nat.le_refl _), if_pos h.k40]
theorem all_forty {l : Bytes} (h : ∀ k, k < 40 → hasE (rawE l k) = true) : (takenL l).length = 40 := by
  unfold takenL entriesL entsL
  rw [List.length_map, List.length_map, List.filter_eq_self.2 (fun k hk => h k (List.mem_range.1 hk)), List.length_range]
/-- what the law asks -/
structure RoomIs (l : Bytes) (M : Int) : Prop where
  most : mostX (holesX ((allL l).length - 288 : Int) (takenL (allL l))) = M
  free : (l.length : Int) - 288 - sumX (takenL l) = M
  many : ((takenL (allL l)).length : Int) = (takenL l).length
theorem room_is {l : Bytes} (hg : Good l) : RoomIs l ((l.length : Int) - 288 - sumX (takenL l)) := by
  obtain ⟨hm, hgap, -⟩ := all_done hg
  obtain ⟨-, h2⟩ := packed_holes hm.good hgap
  refine ⟨?_, rfl, by rw [hm.many]⟩
  rw [h2, hm.sum, hm.len]
theorem room_alloc {L : Bytes} (hg : Good L) (h800 : L.length ≤ 1288) (hmost : mostX (holesX ((L.length : Int) - 288) (takenL L)) = (L.length : Int) - 288 - sumX (takenL L)) (h0 : mostX (holesX ((L.length : Int) - 288) (takenL L)) ≠ 0) (h40 : (takenL L).length ≠ 40) :
    allocE L (mostX (holesX ((L.length : Int) - 288) (takenL L))) 0 = 0 ∧ 0 < allocH L (mostX (holesX ((L.length : Int) - 288) (takenL L))) 0 ∧ Good (allocL L (mostX (holesX ((L.length : Int) - 288) (takenL L))) 0) ∧
    statH (allocL L (mostX (holesX ((L.length : Int) - 288) (takenL L))) 0) = statV (takenL (allocL L (mostX (holesX ((L.length : Int) - 288) (takenL L))) 0)).length (sumX (takenL (allocL L (mostX (holesX ((L.length : Int) - 288) (takenL L))) 0))) 0 (mostX (holesX (((allocL L (mostX (holesX ((L.length : Int) - 288) (takenL L))) 0).length : Int) - 288) (takenL (allocL L (mostX (holesX ((L.length : Int) - 288) (takenL L))) 0)))) 0 := by
  have hb := hg.bd
  have hc := good_chk hg
  have hmf := most_free hc
  have hm0 := (mostX_mem (holesX ((L.length : Int) - 288) (takenL L))).1
  have hs0 : 0 ≤ sumX (takenL L) := (sum_mem (fun x hx => by have := badX_false (holds_bad hc x hx); omega)).1
  generalize hM : mostX (holesX ((L.length : Int) - 288) (takenL L)) = M at *
  have hfit : fitE ((L.length : Int) - 288) (takenL L) M = 0 := by
    refine Classical.byContradiction fun hf => ?_
    have := fit_most hc hf
    rw [hM] at this
    omega
  have hfh : fH L 40 ≠ 0 := fun e => by
    rcases fH_spec L 40 (Nat.le_refl _) with ⟨_, hall⟩ | ⟨q, _, k2, k3, k4, k5⟩
    · exact h40 (all_forty (fun k hk => hall k (by omega) hk))
    · omega
  have hE : allocE L M 0 = 0 := by
    unfold allocE
    rw [if_neg (by rw [lenB_true.2 (by omega), tagB_true.2 (by omega)]; simp), if_neg (by omega)]
  obtain ⟨k, a, n', t', hn, ht, hH, _, hi⟩ := alloc_is hg hE
  have hg2 := hi.good hg
  have hc2 := good_chk hg2
  have hsum := hi.sum hg
  have hln := hi.len
  have hhs := holds_sum hc2
  refine ⟨hE, by omega, hg2, ?_⟩
  rw [statH_good hg2]
  have hz : ((allocL L M 0).length : Int) - 288 - sumX (takenL (allocL L M 0)) = 0 := by rw [hsum, hln]; omega
  have hm2 := holes_mem hc2
  have hnil : holesX (((allocL L M 0).length : Int) - 288) (takenL (allocL L M 0)) = [] := by
    generalize holesX (((allocL L M 0).length : Int) - 288) (takenL (allocL L M 0)) = H at *
    cases H with
    | nil => rfl
    | cons x r =>
      have hx := hm2 x (by simp)
      rw [sumX_cons] at hhs
      have hr : 0 ≤ sumX r := (sum_mem (fun y hy => by have := hm2 y (by simp [hy]); omega)).1
      omega
  rw [hz, hnil]
  rfl
end Go.Proofs.YtcahgmnkphmnhaaGreat
/- StatSums: the plain law. -/
namespace Go.Proofs.YtcahgmnkphmnhaaGreat
open Go.RowKit

/-- an image of 1000 bytes with no root -/
structure StS (l : Bytes) : Prop where
  good : Good l
  len : l.length = 1000
  rots : ∀ i, i < 8 → zeroE (rawR l i) = true
theorem StS.zero : StS (List.replicate 1000 0) := ⟨good_zero' rfl, List.length_replicate, fun i hi => by
  unfold rawR; rw [zeros_cut 1000 _ _ (by omega)]; rfl⟩
theorem StS.alloc {l : Bytes} (h : StS l) (n t : Int) : StS (allocL l n t) := by
  by_cases h0 : allocE l n t = 0
  · obtain ⟨k, a, n', t', _, _, _, _, hi⟩ := alloc_is h.good h0
    exact ⟨hi.good h.good, hi.len.trans h.len, fun i h8 => by rw [hi.rots i h8]; exact h.rots i h8⟩
  · have : allocL l n t = l := by unfold allocL; rw [if_neg h0]
    rw [this]; exact h
theorem StS.free {l : Bytes} (h : StS l) (x : Int) : StS (freeL l x) := by
  by_cases h0 : freeE l x = 0
  · obtain ⟨k, _, hi⟩ := free_is h.good h0
    exact ⟨hi.good h.good, hi.len.trans h.len, fun i h8 => by rw [hi.rots i h8]; exact h.rots i h8⟩
  · have : freeL l x = l := by unfold freeL; rw [if_neg h0]
    rw [this]; exact h
theorem StS.moved {l l' : Bytes} (h : StS l) (hm : MovedR l l') : StS l' := ⟨hm.good, hm.len.trans h.len, fun i h8 => by rw [hm.rots i h8]; exact h.rots i h8⟩
theorem StS.noroots {l : Bytes} (h : StS l) : rootsL l = [] := by
  refine List.eq_nil_iff_forall_not_mem.2 fun x hx => ?_
  obtain ⟨i, h8, hz, -⟩ := rootsL_mem.1 hx
  rw [h.rots i h8] at hz; cases hz
theorem runs_len : ∀ (S : List Ext) (a n : Int), (runsX a S n).length ≤ S.length + 1
  | [], a, n => by rw [runsX_nil]; split <;> simp
  | e :: r, a, n => by
    rw [runsX_cons, List.length_append, List.length_cons]
    have := runs_len r (e.1 + e.2) n
    split <;> simp <;> omega
/-- the five numbers hold together -/
theorem stat_four {l : Bytes} (hg : Good l) : 0 ≤ mostL l ∧ mostL l ≤ freeL_ l ∧ freeL_ l ≤ 6400 ∧ (holesX ((l.length : Int) - 288) (takenL l)).length ≤ (takenL l).length + 1 ∧ (freeL_ l = 0 ↔ (holesX ((l.length : Int) - 288) (takenL l)).length = 0) ∧ (freeL_ l ≠ 0 → 1 ≤ mostL l) := by
  obtain ⟨h1, h2, h3⟩ := free_bd hg
  have hc := good_chk hg
  have hs := holds_sum hc
  have hm := holes_mem hc
  have hfr : freeL_ l = sumX (holesX ((l.length : Int) - 288) (takenL l)) := by unfold freeL_; omega
  have hlen : (holesX ((l.length : Int) - 288) (takenL l)).length ≤ (takenL l).length + 1 := by
    rw [holes_runs]
    have := runs_len (sortE (takenL l)) 0 ((l.length : Int) - 288)
    rwa [(sortE_perm (takenL l)).length_eq] at this
  have hsm := sum_mem (H := holesX ((l.length : Int) - 288) (takenL l)) (fun x hx => by have := hm x hx; omega)
  have hmx := mostX_mem (holesX ((l.length : Int) - 288) (takenL l))
  have hmo : mostL l = mostX (holesX ((l.length : Int) - 288) (takenL l)) := rfl
  refine ⟨h1, h2, h3, hlen, ?_, ?_⟩
  · rw [hfr, List.length_eq_zero_iff]
    constructor
    · intro h0
      refine List.eq_nil_iff_forall_not_mem.2 fun x hx => ?_
      have := hsm.2 x hx; have := hm x hx; omega
    · intro h0; rw [h0]; rfl
  · intro hne
    rw [hmo]
    cases hH : holesX ((l.length : Int) - 288) (takenL l) with
    | nil => rw [hfr, hH] at hne; exact absurd rfl hne
    | cons x r =>
      rw [hH] at hmx hm
      have := hmx.2.1 x (List.mem_cons_self ..)
      have := hm x (List.mem_cons_self ..)
      omega
theorem loose_bd {fr mo : Int} (_h0 : 0 ≤ mo) (h1 : mo ≤ fr) (h2 : fr ≠ 0 → 1 ≤ mo) : 0 ≤ looseI fr mo ∧ looseI fr mo ≤ 99 := by
  unfold looseI
  split
  · omega
  · rename_i hne
    have h3 := h2 hne
    rw [Int.tdiv_eq_ediv_of_nonneg (by omega)]
    refine ⟨Int.ediv_nonneg (by omega) (by omega), ?_⟩
    have : 100 * (fr - mo) / fr < 100 := Int.ediv_lt_of_lt_mul (by omega) (by omega)
    omega
theorem sum_upd (f : Nat → Nat) (t r : Nat) : ∀ n, ((List.range n).map fun j : Nat => if (t : Int) = (j : Int) then f j + r else f j).sum = ((List.range n).map f).sum + (if t < n then r else 0)
  | 0 => by simp
  | n + 1 => by
    rw [List.range_succ, List.map_append, List.map_append, List.sum_append, List.sum_append, sum_upd f t r n]
    simp only [List.map_cons, List.map_nil, List.sum_cons, List.sum_nil]
    by_cases h : t = n
    · subst h; simp
      omega
    · rw [if_neg (by omega : ¬ (t : Int) = (n : Int))]
      by_cases h2 : t < n
      · rw [if_pos h2, if_pos (by omega)]; omega
      · rw [if_neg h2, if_neg (by omega)]; omega
theorem tags_sum {l : Bytes} (hg : Good l) : ∀ k, k ≤ (entriesL l).length → ((List.range 16).map (tagF ((entriesL l).take k))).sum = (((entriesL l).take k).map fun e => rLen e.2).sum
  | 0, _ => by
    have : ∀ j, tagF [] j = 0 := fun _ => rfl
    simp [this]; rfl
  | k + 1, hk => by
    have hk' : k < (entriesL l).length := by omega
    obtain ⟨q, hq, hh, he⟩ := entL_mem.1 (List.getElem_mem hk')
    have hs := strayE_false (hg.s.fit q hq hh)
    obtain ⟨t, ht⟩ := Int.eq_ofNat_of_zero_le (show 0 ≤ rTag (entriesL l)[k].2 by rw [he]; dsimp only; omega)
    have ht15 : t < 16 := by rw [he] at ht; dsimp only at ht; omega
    have e1 : (List.range 16).map (tagF ((entriesL l).take (k + 1))) = (List.range 16).map (fun j : Nat => if (t : Int) = (j : Int) then tagF ((entriesL l).take k) j + rLen (entriesL l)[k].2 else tagF ((entriesL l).take k) j) := by
      refine List.map_congr_left fun j _ => ?_
      rw [tagF_succ _ _ hk', ht]
    rw [e1, sum_upd, tags_sum hg k (by omega), if_pos ht15, List.take_succ_eq_append_getElem hk', List.map_append, List.sum_append]
    simp
theorem sumX_map (E : List Ent) : sumX (E.map takeX) = ((E.map fun e => rLen e.2).sum : Nat) := by
  induction E with
  | nil => rfl
  | cons e r ih =>
    rw [List.map_cons, sumX_cons, ih, List.map_cons, List.sum_cons]
    show (rLen e.2 : Int) + _ = _
    omega
theorem tags_all {l : Bytes} (hg : Good l) : ((tagsL l).sum : Int) = sumX (takenL l) := by
  have := tags_sum hg _ (Nat.le_refl _)
  rw [List.take_length] at this
  unfold tagsL takenL
  rw [this, sumX_map]
/-- the image when some have been allocated -/
def canI (l : Bytes) (S : List Int) : Bytes := S.foldl (fun l x => allocL l x 0) l
theorem canI_succ (l : Bytes) (S : List Int) (k : Nat) (hk : k < S.length) : canI l (S.take (k + 1)) = allocL (canI l (S.take k)) S[k] 0 := by
  unfold canI; rw [List.take_succ_eq_append_getElem hk, List.foldl_append]; rfl
theorem canI_sts {l : Bytes} (h : StS l) : ∀ (S : List Int), StS (canI l S) := fun S => by
  induction S generalizing l with
  | nil => exact h
  | cons x r ih => exact ih (h.alloc x 0)
theorem can_split (l : Bytes) (S : List Int) : ∀ i, i ≤ canF l S → i ≤ S.length → canF l S = i + canF (canI l (S.take i)) (S.drop i)
  | 0, _, _ => by simp [canI]
  | i + 1, h, hl => by
    have ih := can_split l S i (by omega) (by omega)
    have hi : i < S.length := by omega
    rw [canF_drop _ _ i hi] at ih
    rw [canI_succ l S i hi]
    split at ih
    · omega
    · omega
theorem can_step {l : Bytes} {S : List Int} {i : Nat} (hi : i < S.length) (h : i ≤ canF l S) : allocE (canI l (S.take i)) S[i] 0 = 0 ↔ i < canF l S := by
  have := can_split l S i h (by omega)
  rw [canF_drop _ _ i hi] at this
  constructor
  · intro h0; rw [if_pos h0] at this; omega
  · intro hlt
    by_cases h0 : allocE (canI l (S.take i)) S[i] 0 = 0
    · exact h0
    · rw [if_neg h0] at this; omega
/-- with no root all are dead -/
theorem lvl_none {l : Bytes} (h : rootsL l = []) : ∀ k, lvlN l k = (fun _ => none, [])
  | 0 => by
    have hr : rootsH l = [] := by unfold rootsH; rw [h]; rfl
    unfold lvlN startW; rw [hr]
    refine Prod.ext (funext fun q => ?_) ?_
    · simp
    · simp [sortNat, dedup]
  | k + 1 => by
    show lvl l (lvlN l k) = _
    rw [lvl_none h k]; rfl
theorem sweep_all {l : Bytes} (h : StS l) : StS (sweepL l) ∧ takenL (sweepL l) = [] := by
  have hs := sweep_is h.good
  have hf : fromW l = fun _ => none := by unfold fromW; rw [lvl_none h.noroots 41]
  refine ⟨⟨hs.good, hs.len.trans h.len, fun i h8 => by rw [hs.rots i h8]; exact h.rots i h8⟩, ?_⟩
  unfold takenL
  rw [List.map_eq_nil_iff]
  refine List.eq_nil_iff_forall_not_mem.2 fun x hx => ?_
  obtain ⟨k, hk, hh, -⟩ := entL_mem.1 hx
  have := (hs.has hk).1 hh
  exact this.2 (deadL_mem.2 ⟨k, hk, this.1, by rw [hf], rfl⟩)
theorem stat_none {l : Bytes} (h : StS l) (ht : takenL l = []) : statH l = .agg #[.int .i64 0, .int .i64 0, .int .i64 712, .int .i64 712, .int .i64 1] := by
  rw [statH_five h.good]
  unfold freeL_ mostL
  rw [ht, h.len]
  have hs : sortE [] = [] := List.Perm.eq_nil (sortE_perm [])
  have hh : holesX (((1000 : Nat) : Int) - 288) [] = [(0, 712)] := by
    rw [holes_runs, hs, runsX_nil]; rfl
  rw [hh]; rfl
end Go.Proofs.YtcahgmnkphmnhaaGreat
/- ReachChain: the plain law. -/
namespace Go.Proofs.YtcahgmnkphmnhaaGreat
open Go.RowKit

theorem sum_le_mul {H : List Ext} {M : Int} (h : ∀ x ∈ H, x.2 ≤ M) : sumX H ≤ H.length * M := by
  induction H with
  | nil => simp [sumX]
  | cons x r ih =>
    rw [sumX_cons, List.length_cons]
    have h1 := h x (List.mem_cons_self ..)
    have h2 := ih fun y hy => h y (List.mem_cons_of_mem _ hy)
    have : ((r.length + 1 : Nat) : Int) * M = r.length * M + M := by rw [Int.natCast_add, Int.add_mul]; simp
    omega
/-- so many objects of two bytes, each naming the next -/
structure ChS (m k : Nat) (l : Bytes) : Prop where
  good : Good l
  len : l.length = 1000
  k30 : k ≤ 30
  has : ∀ j, j < 40 → hasE (rawE l j) = decide (j < k)
  two : ∀ j, j < k → rLen (rawE l j) = 2
  obj : ∀ j, j < k → objT l j = 1 ∧ objS l j = [UInt8.ofNat (if j + 1 < m then j + 2 else 0), 0]
  rots : ∀ i, i < 8 → zeroE (rawR l i) = true
theorem ChS.zero (m : Nat) : ChS m 0 (List.replicate 1000 0) where
  good := good_zero' rfl
  len := List.length_replicate
  k30 := by omega
  has j hj := by unfold rawE; rw [zeros_cut 1000 _ _ (by omega)]; rfl
  two j hj := by omega
  obj j hj := by omega
  rots := StS.zero.rots
theorem sumX_two : ∀ (L : List Ext), (∀ e ∈ L, e.2 = 2) → sumX L = 2 * L.length
  | [], _ => rfl
  | e :: r, h => by
    rw [sumX_cons, sumX_two r fun y hy => h y (List.mem_cons_of_mem _ hy), h e (List.mem_cons_self ..), List.length_cons]; omega
theorem ents_count (R : Nat → Bytes) (k : Nat) (h : ∀ j, j < 40 → hasE (R j) = decide (j < k)) : ∀ n, n ≤ 40 → (entsL (fun j => hasE (R j)) R n).length = min n k
  | 0, _ => by simp [entsL]
  | n + 1, hn => by
    rw [entsL_succ, List.length_append, ents_count R k h n (by omega)]
    by_cases hk : n < k
    · rw [if_pos (by rw [h n (by omega)]; exact decide_eq_true hk)]; simp; omega
    · rw [if_neg (by rw [h n (by omega), decide_eq_false hk]; simp)]; simp; omega
theorem ChS.room {m k : Nat} {l : Bytes} (h : ChS m k l) : fitE ((l.length : Int) - 288) (takenL l) 2 = 0 := by
  have hc := good_chk h.good
  have htl : (takenL l).length = k := by
    unfold takenL entriesL; rw [List.length_map, ents_count _ k h.has 40 (Nat.le_refl _)]; have := h.k30; omega
  have hts : sumX (takenL l) = 2 * k := by
    rw [sumX_two _ fun e he => ?_, htl]
    obtain ⟨j, h1, h2, rfl⟩ := takenL_mem.1 he
    have hjk : j < k := by rw [h.has j h1] at h2; exact of_decide_eq_true h2
    dsimp only
    rw [h.two j hjk]; rfl
  obtain ⟨f0, f1, f2, f3, f4, f5⟩ := stat_four h.good
  have hfr : freeL_ l = 712 - 2 * k := by unfold freeL_; rw [hts, h.len]; omega
  have hsum := sum_le_mul (H := holesX ((l.length : Int) - 288) (takenL l)) (M := mostL l) (mostX_mem _).2.1
  have hfs : freeL_ l = sumX (holesX ((l.length : Int) - 288) (takenL l)) := by
    have := holds_sum hc; unfold freeL_; omega
  have hk := h.k30
  have hmost : 2 ≤ mostL l := by
    refine Classical.byContradiction fun hn => ?_
    have h1 : mostL l ≤ 1 := by omega
    have h2 : ((holesX ((l.length : Int) - 288) (takenL l)).length : Int) * mostL l ≤ (holesX ((l.length : Int) - 288) (takenL l)).length * 1 := Int.mul_le_mul_of_nonneg_left h1 (by omega)
    omega
  refine Classical.byContradiction fun hn => ?_
  rcases fit_most hc hn with h1 | h1
  · omega
  · have : mostL l < 2 := h1
    omega
theorem ChS.alloc {m k : Nat} {l : Bytes} (h : ChS m k l) (hk : k < 30) : allocE l 2 1 = 0 ∧ allocH l 2 1 = (k : Int) + 1 ∧ Good (allocL l 2 1) ∧ (allocL l 2 1).length = 1000 ∧ (∀ j, j < 40 → hasE (rawE (allocL l 2 1) j) = decide (j < k + 1)) ∧ (∀ j, j < k + 1 → rLen (rawE (allocL l 2 1) j) = 2) ∧
    (∀ j, j < k → objT (allocL l 2 1) j = objT l j ∧ objS (allocL l 2 1) j = objS l j) ∧ objT (allocL l 2 1) k = 1 ∧ objS (allocL l 2 1) k = [0, 0] ∧ (∀ i, i < 8 → zeroE (rawR (allocL l 2 1) i) = true) := by
  have hfh : fH l 40 = k + 1 := fH_first k (by omega) (fun j hj => by rw [h.has j (by omega)]; exact decide_eq_true hj) (by rw [h.has k (by omega)]; exact decide_eq_false (by omega))
  have he : allocE l 2 1 = 0 := by
    unfold allocE
    rw [if_neg (by decide), if_neg (by rw [hfh, h.room]; simp)]
  obtain ⟨k', a, n', t', hn, ht, hH, -, hi⟩ := alloc_is h.good he
  have hkk : k' = k := by
    have h1 := hi.none
    rw [h.has k' hi.k40] at h1
    have h1' := of_decide_eq_false h1
    refine Classical.byContradiction fun hne => ?_
    have h2 := hi.least k (by omega)
    rw [h.has k (by omega), decide_eq_false (by omega)] at h2; cases h2
  subst hkk
  obtain rfl : n' = 2 := by omega
  obtain rfl : t' = 1 := by omega
  obtain ⟨e1, e2, e3, e4⟩ := hi.ent h.good.bd.2
  obtain ⟨r1, r2⟩ := hi.read h.good
  have hd := hi.hd h.good
  refine ⟨he, hH, hi.good h.good, hi.len.trans h.len, fun j hj => ?_, fun j hj => ?_, fun j hj => hi.keep h.good (by omega) (by omega), by unfold objT; rw [if_pos e1, e4]; rfl, ?_, fun i h8 => by rw [hi.rots i h8]; exact h.rots i h8⟩
  · by_cases e : j = k'
    · subst e; rw [e1]; exact (decide_eq_true (by omega)).symm
    · rw [hi.ents j hj, if_neg e, h.has j hj]
      by_cases hjk : j < k'
      · rw [decide_eq_true hjk, decide_eq_true (by omega)]
      · rw [decide_eq_false hjk, decide_eq_false (by omega)]
  · by_cases e : j = k'
    · subst e; exact e3
    · rw [hi.ents j (by omega), if_neg e]; exact h.two j (by omega)
  · unfold objS
    rw [if_pos e1, e2, e3]
    unfold readL at r2
    rw [if_pos r1, hd.2.1] at r2
    simpa using r2
/-- one byte written into the first place of an object of two -/
theorem write_two {l : Bytes} (hg : Good l) {k : Nat} (hk : k < 40) (hh : hasE (rawE l k) = true) (h2 : rLen (rawE l k) = 2) (x y b : UInt8) (ho : objS l k = [x, y]) :
    someE l ((k : Int) + 1) 0 1 = 0 ∧ (∀ j, j < 40 → rawE (writeL l ((k : Int) + 1) 0 [b]) j = rawE l j) ∧ (∀ i, i < 8 → rawR (writeL l ((k : Int) + 1) 0 [b]) i = rawR l i) ∧
    objT (writeL l ((k : Int) + 1) 0 [b]) k = objT l k ∧ objS (writeL l ((k : Int) + 1) 0 [b]) k = [b, y] ∧ ∀ j, j < 40 → j ≠ k → objT (writeL l ((k : Int) + 1) 0 [b]) j = objT l j ∧ objS (writeL l ((k : Int) + 1) 0 [b]) j = objS l j := by
  obtain ⟨d0, d1, d2, d3⟩ := hd_of hk hh
  have hs : someE l ((k : Int) + 1) 0 1 = 0 := some_zero d0 (by omega) (by omega) (by rw [d2, h2]; decide)
  have hs' : someE l ((k : Int) + 1) 0 (([b] : Bytes).length : Nat) = 0 := hs
  obtain ⟨k', o, e1, e2, hw⟩ := write_is hg hs'
  obtain rfl : k' = k := by omega
  have hst := strayE_false (hg.s.fit k' hk hh)
  refine ⟨hs, fun j hj => hw.ents j hj, fun i h8 => hw.rots i h8, by unfold objT; rw [hw.ents k' hk], ?_, fun j hj hne => hw.keep hg hj hne⟩
  rw [d1] at e2
  have ho2 : o = rAt (rawE l k') := by omega
  unfold objS at ho ⊢
  rw [hw.ents k' hk, if_pos hh, h2, hw.eq]
  rw [if_pos hh, h2] at ho
  rw [splice_cut l [b] o (rAt (rawE l k')) 2 (by have := hw.o1; exact this) (by omega) (by simp; omega) (by omega), ho, ho2, Nat.sub_self]
  rfl
theorem ChS.next {m k : Nat} {l : Bytes} (h : ChS m k l) (hk : k < 30) (hm : ¬ k + 1 < m) : ChS m (k + 1) (allocL l 2 1) := by
  obtain ⟨-, -, h3, h4, h5, h6, h7, h8, h9, h10⟩ := h.alloc hk
  refine ⟨h3, h4, by omega, h5, h6, fun j hj => ?_, h10⟩
  by_cases e : j = k
  · subst e; rw [h8, h9, if_neg hm]; exact ⟨rfl, rfl⟩
  · obtain ⟨a, b⟩ := h7 j (by omega)
    rw [a, b]; exact h.obj j (by omega)
theorem ChS.link {m k : Nat} {l : Bytes} (h : ChS m k l) (hk : k < 30) (hm : k + 1 < m) : someE (allocL l 2 1) ((k : Int) + 1) 0 1 = 0 ∧ ChS m (k + 1) (writeL (allocL l 2 1) ((k : Int) + 1) 0 [UInt8.ofNat (k + 2)]) := by
  obtain ⟨-, -, h3, h4, h5, h6, h7, h8, h9, h10⟩ := h.alloc hk
  obtain ⟨w1, w2, w3, w4, w5, w6⟩ := write_two h3 (k := k) (by omega) (by rw [h5 k (by omega)]; exact decide_eq_true (by omega)) (h6 k (by omega)) 0 0 (UInt8.ofNat (k + 2)) h9
  refine ⟨w1, write_good h3 _ _ _, (stepR_write h3 _ _ _).len.trans h4, by omega, fun j hj => by rw [w2 j hj]; exact h5 j hj, fun j hj => by rw [w2 j (by omega)]; exact h6 j hj, fun j hj => ?_, fun i h8' => by rw [w3 i h8']; exact h10 i h8'⟩
  by_cases e : j = k
  · subst e; rw [w4, w5, h8, if_pos hm]; exact ⟨rfl, rfl⟩
  · obtain ⟨a, b⟩ := w6 j (by omega) e
    obtain ⟨a', b'⟩ := h7 j (by omega)
    rw [a, b, a', b']; exact h.obj j (by omega)
/-- a chain that is cut behind the object c -/
structure ChF (m c : Nat) (l : Bytes) : Prop where
  good : Good l
  c1 : 1 ≤ c
  cm : c ≤ m
  m30 : m ≤ 30
  has : ∀ j, j < 40 → hasE (rawE l j) = decide (j < m)
  root : rootsH l = [1]
  refs : ∀ j, j + 1 < c → refsL l ((j : Int) + 1) = [j + 2]
  last : refsL l (c : Int) = []
theorem refs_first {l : Bytes} (hg : Good l) {k : Nat} (hk : k < 40) (hh : hasE (rawE l k) = true) (ht : objT l k = 1) {x y : UInt8} (ho : objS l k = [x, y]) : refsL l ((k : Int) + 1) = if hE l (x.toNat : Int) = 0 then [x.toNat] else [] := by
  obtain ⟨-, -, -, e⟩ := refsL_obj hg hk hh
  rw [e, ht, ho]
  show refsB l [x] = _
  unfold refsB
  rw [List.foldl_cons, List.foldl_nil]
  unfold refB
  by_cases h : hE l (x.toNat : Int) = 0
  · rw [if_pos h, if_pos ⟨h, by simp⟩]; rfl
  · rw [if_neg h, if_neg (fun h' => h h'.1)]
theorem u8_nat {k : Nat} (h : k < 256) : (UInt8.ofNat k).toNat = k := by simp; omega
/-- the root is set -/
theorem ChS.rooted {m : Nat} {l : Bytes} (h : ChS m m l) (h1 : 1 ≤ m) : setE l [97] 1 = 0 ∧ ChF m m (setL l [97] 1) ∧ (∀ j, j < m → objS (setL l [97] 1) j = objS l j ∧ objT (setL l [97] 1) j = 1 ∧ rLen (rawE (setL l [97] 1) j) = 2) := by
  have hm := h.k30
  have hh1 : hE l 1 = 0 := (hE_has (k := 0) (by omega) (by rw [h.has 0 (by omega)]; exact decide_eq_true (by omega))).1
  obtain ⟨p1, p2⟩ := placeF_spec l [97] 8 (Nat.le_refl _)
  have q1 : (placeF l [97] 8).1 = -1 := by
    rcases p1 with ⟨p1, -⟩ | ⟨i, -, h8, -, hz, -⟩
    · exact p1
    · rw [h.rots i h8] at hz; cases hz
  have q2 : (placeF l [97] 8).2 = 0 := by
    rcases p2 with ⟨-, p2⟩ | ⟨i, -, h8, e, -, hq⟩
    · have := p2 0 (by omega) (by omega); rw [h.rots 0 (by omega)] at this; cases this
    · by_cases hi : i = 0
      · subst hi; exact e
      · have := hq 0 (by omega) (by omega); rw [h.rots 0 (by omega)] at this; cases this
  have hsa : setAt l [97] = 0 := by unfold setAt; rw [q1, q2]; rfl
  have hse : setE l [97] 1 = 0 := by
    unfold setE
    rw [if_neg (by decide), if_neg (by rw [hh1]; simp), hsa]; rfl
  have hs := setE_is h.good hse
  obtain ⟨i, hp⟩ := hs.puts
  have hents : ∀ j, j < 40 → rawE (setL l [97] 1) j = rawE l j := fun j hj => hp.ents h.good.bd.1 j hj
  have hobj : ∀ j, j < 40 → objT (setL l [97] 1) j = objT l j ∧ objS (setL l [97] 1) j = objS l j := fun j hj => by
    refine obj_congr (hents j hj) fun hh => ?_
    have hst := strayE_false (h.good.s.fit j hj hh)
    have hb := h.good.bd
    rw [hp.eq]
    exact cut_splice _ _ _ _ _ (by have := hp.i8; have := hp.x11; omega) (.inr (by have := hp.i8; have := hp.x11; omega))
  have hhas : ∀ j, j < 40 → hasE (rawE (setL l [97] 1) j) = decide (j < m) := fun j hj => by rw [hents j hj]; exact h.has j hj
  have hroot : rootsH (setL l [97] 1) = [1] := by
    have hc := hs.count
    have hno : rootsL l = [] := (⟨h.good, h.len, h.rots⟩ : StS l).noroots
    rw [hno, q1] at hc
    simp only [List.length_nil, if_pos (show (-1 : Int) < 0 by decide)] at hc
    obtain ⟨r, hr1, hr2⟩ := hs.own
    unfold rootsH
    match hL : rootsL (setL l [97] 1), hc with
    | [r'], _ =>
      rw [hL] at hr1
      obtain rfl := List.mem_singleton.1 hr1
      show [r.2] = [1]
      congr 1; omega
  refine ⟨hse, ⟨hs.good, h1, Nat.le_refl _, hm, hhas, hroot, fun j hj => ?_, ?_⟩, fun j hj => ⟨(hobj j (by omega)).2, (hobj j (by omega)).1.trans (h.obj j hj).1, by rw [hents j (by omega)]; exact h.two j hj⟩⟩
  · obtain ⟨o1, o2⟩ := hobj j (by omega)
    obtain ⟨a, b⟩ := h.obj j (by omega)
    rw [if_pos (by omega)] at b
    rw [refs_first hs.good (by omega) (by rw [hhas j (by omega)]; exact decide_eq_true (by omega)) (o1.trans a) (o2.trans b), u8_nat (by omega)]
    have hz : hE (setL l [97] 1) ((j + 2 : Nat) : Int) = 0 := by
      rw [(hs.same _).1]
      have := (hE_has (l := l) (k := j + 1) (by omega) (by rw [h.has _ (by omega)]; exact decide_eq_true (by omega))).1
      rwa [show ((j + 1 : Nat) : Int) + 1 = ((j + 2 : Nat) : Int) by omega] at this
    rw [if_pos hz]
  · obtain ⟨q, rfl⟩ : ∃ q, m = q + 1 := ⟨m - 1, by omega⟩
    obtain ⟨o1, o2⟩ := hobj q (by omega)
    obtain ⟨a, b⟩ := h.obj q (by omega)
    rw [if_neg (by omega)] at b
    rw [show ((q + 1 : Nat) : Int) = (q : Int) + 1 by omega]
    rw [refs_first hs.good (by omega) (by rw [hhas q (by omega)]; exact decide_eq_true (by omega)) (o1.trans a) (o2.trans b)]
    rw [show ((UInt8.ofNat 0).toNat : Int) = 0 from rfl]
    have hz : hE (setL l [97] 1) 0 ≠ 0 := by unfold hE; rw [if_pos (by decide)]; decide
    rw [if_neg hz]
/-- the chain is cut -/
theorem ChF.cut {m c : Nat} {l : Bytes} (h : ChF m m l) (h1 : 1 ≤ c) (hc : c ≤ m) (ho : ∀ j, j < m → (∃ x, objS l j = [x, 0]) ∧ objT l j = 1 ∧ rLen (rawE l j) = 2) : someE l (c : Int) 0 1 = 0 ∧ ChF m c (writeL l (c : Int) 0 [0]) := by
  have hm := h.m30
  obtain ⟨q, rfl⟩ : ∃ q, c = q + 1 := ⟨c - 1, by omega⟩
  obtain ⟨⟨x, o1⟩, o2, o3⟩ := ho q (by omega)
  have hhas : ∀ j, j < m → hasE (rawE l j) = true := fun j hj => by rw [h.has j (by omega)]; exact decide_eq_true hj
  obtain ⟨w1, w2, w3, w4, w5, w6⟩ := write_two h.good (k := q) (by omega) (hhas q (by omega)) o3 x 0 0 o1
  have hcast : ((q + 1 : Nat) : Int) = (q : Int) + 1 := by omega
  rw [hcast]
  have hgood := write_good h.good ((q : Int) + 1) 0 [0]
  have hse := same_ents w2
  refine ⟨w1, hgood, by omega, hc, hm, fun j hj => by rw [w2 j hj]; exact h.has j hj, ?_, fun j hj => ?_, ?_⟩
  · have : rootsL (writeL l ((q : Int) + 1) 0 [0]) = rootsL l := by unfold rootsL; exact rootsF_congr _ _ 8 fun j hj => w3 j hj
    unfold rootsH; rw [this]; exact h.root
  · obtain ⟨⟨x', p1⟩, p2, p3⟩ := ho j (by omega)
    obtain ⟨a, b⟩ := w6 j (by omega) (by omega)
    have h2 := h.refs j (by omega)
    rw [refs_first h.good (by omega) (hhas j (by omega)) p2 p1] at h2
    rw [refs_first hgood (by omega) (by rw [w2 j (by omega)]; exact hhas j (by omega)) (a.trans p2) (b.trans p1), (hse _).1]
    exact h2
  · rw [hcast, refs_first hgood (k := q) (by omega) (by rw [w2 q (by omega)]; exact hhas q (by omega)) (w4.trans o2) w5]
    rw [show ((0 : UInt8).toNat : Int) = 0 from rfl]
    have hz : hE (writeL l ((q : Int) + 1) 0 [0]) 0 ≠ 0 := by unfold hE; rw [if_pos (by decide)]; decide
    rw [if_neg hz]
theorem ChF.ways {m c : Nat} {l : Bytes} (h : ChF m c l) : ∀ y, (fromW l y).isSome = true ↔ (1 ≤ y ∧ y ≤ c) := by
  obtain ⟨D, hD, hcl⟩ := fromW_ok h.good
  have hle : ∀ (n y : Nat) (p : List Nat), p.length ≤ n → fromW l y = some p → 1 ≤ y ∧ y ≤ c := by
    intro n
    induction n with
    | zero =>
      intro y p hn hp
      obtain ⟨q, e, -⟩ := hD.ways y p hp
      subst e; simp at hn
    | succ n ih =>
      intro y p hn hp
      obtain ⟨q, e, h1⟩ := hD.ways y p hp
      subst e
      rcases h1 with ⟨-, hr⟩ | ⟨x, h2, h3⟩
      · rw [h.root] at hr
        have := List.mem_singleton.1 hr
        have := h.c1; omega
      · have hx := ih x q (by simp at hn; omega) h2
        by_cases hxc : x = c
        · subst hxc; rw [h.last] at h3; cases h3
        · have := h.refs (x - 1) (by omega)
          rw [show ((x - 1 : Nat) : Int) + 1 = (x : Int) by omega] at this
          rw [this] at h3
          have := List.mem_singleton.1 h3
          omega
  have hge : ∀ y, y + 1 ≤ c → y + 1 ∈ D := by
    intro y
    induction y with
    | zero => intro _; exact (hD.dk 1).1 (by rw [hD.roots 1 (by rw [h.root]; simp)]; rfl)
    | succ y ih =>
      intro hy
      have hx := ih (by omega)
      refine hcl _ hx _ ?_
      have := h.refs y (by omega)
      rw [show ((y + 1 : Nat) : Int) = (y : Int) + 1 by omega, this]
      simp
  intro y
  constructor
  · intro hs
    obtain ⟨p, hp⟩ := Option.isSome_iff_exists.1 hs
    exact hle _ y p (Nat.le_refl _) hp
  · rintro ⟨a, b⟩
    have := hge (y - 1) (by omega)
    rw [show y - 1 + 1 = y by omega] at this
    exact (hD.dk y).2 this
theorem ChF.way {m c : Nat} {l : Bytes} (h : ChF m c l) {y : Nat} {p : List Nat} (hp : fromW l y = some p) : p = (List.range y).map (· + 1) := by
  obtain ⟨D, hD, -⟩ := fromW_ok h.good
  have hws := h.ways
  generalize fromW l = W at *
  have key : ∀ (n y : Nat) (p : List Nat), p.length ≤ n → W y = some p → p = (List.range y).map (· + 1) := by
    intro n
    induction n with
    | zero =>
      intro y p hn hp
      obtain ⟨q, e, -⟩ := hD.ways y p hp
      subst e; simp at hn
    | succ n ih =>
      intro y p hn hp
      obtain ⟨q, e, h1⟩ := hD.ways y p hp
      subst e
      rcases h1 with ⟨rfl, hr⟩ | ⟨x, h2, h3⟩
      · rw [h.root] at hr
        have := List.mem_singleton.1 hr
        subst this; rfl
      · have ih := ih x q (by simp at hn; omega) h2
        have hx := (hws x).1 (by rw [h2]; rfl)
        by_cases hxc : x = c
        · subst hxc; rw [h.last] at h3; cases h3
        · have hr := h.refs (x - 1) (by omega)
          rw [show ((x - 1 : Nat) : Int) + 1 = (x : Int) by omega] at hr
          rw [hr] at h3
          have := List.mem_singleton.1 h3
          obtain rfl : y = x + 1 := by omega
          rw [ih, List.range_succ, List.map_append]; rfl
  exact key _ y p (Nat.le_refl _) hp
theorem ChF.live {m c : Nat} {l : Bytes} (h : ChF m c l) : (liveL l).length = c := by
  have hm := h.m30
  have hc := h.cm
  have hu := liveL_up l
  have hx : ∀ x, x ∈ liveL l ↔ (1 ≤ x ∧ x ≤ c) := fun x => (liveL_mem h.good).trans (h.ways x)
  generalize liveL l = S at *
  have e : S = (List.range c).map (· + 1) := up_ext hu (List.pairwise_map.2 ((List.pairwise_lt_range (n := c)).imp fun h => by omega)) fun x => by
    rw [hx, List.mem_map]
    constructor
    · rintro ⟨a, b⟩; exact ⟨x - 1, List.mem_range.2 (by omega), by omega⟩
    · rintro ⟨k, hk, rfl⟩; have := List.mem_range.1 hk; omega
  rw [e]; simp
theorem ChF.dead {m c : Nat} {l : Bytes} (h : ChF m c l) : (deadL l).length = m - c := by
  have hm := h.m30
  have hc := h.cm
  have hu := deadL_up l
  have hx : ∀ x, x ∈ deadL l ↔ (c + 1 ≤ x ∧ x ≤ m) := fun x => by
    rw [deadL_mem]
    constructor
    · rintro ⟨k, h1, h2, h3, rfl⟩
      rw [h.has k h1] at h2
      have h2' := of_decide_eq_true h2
      have h4 : ¬ (1 ≤ k + 1 ∧ k + 1 ≤ c) := fun hh => by
        have := (h.ways (k + 1)).2 hh; rw [h3] at this; cases this
      omega
    · rintro ⟨h1, h2⟩
      refine ⟨x - 1, by omega, by rw [h.has _ (by omega)]; exact decide_eq_true (by omega), ?_, by omega⟩
      rw [show x - 1 + 1 = x by omega]
      cases e2 : fromW l x with
      | none => rfl
      | some p =>
        have := (h.ways x).1 (by rw [e2]; rfl)
        omega
  generalize deadL l = S at *
  have e : S = (List.range (m - c)).map (· + (c + 1)) := up_ext hu (List.pairwise_map.2 ((List.pairwise_lt_range (n := m - c)).imp fun h => by omega)) fun x => by
    rw [hx, List.mem_map]
    constructor
    · rintro ⟨h1, h2⟩; exact ⟨x - (c + 1), List.mem_range.2 (by omega), by omega⟩
    · rintro ⟨k, hk, rfl⟩
      have hk' := List.mem_range.1 hk
      omega
  rw [e]; simp
/-- swept, the live stay, and nobody is dead -/
theorem ChF.swept {m c : Nat} {l : Bytes} (h : ChF m c l) : (liveL (sweepL l)).length = c ∧ deadL (sweepL l) = [] := by
  refine ⟨?_, sweep_dead h.good⟩
  have : liveL (sweepL l) = liveL l := by unfold liveL; rw [sweep_from h.good]
  rw [this]; exact h.live
end Go.Proofs.YtcahgmnkphmnhaaGreat
/- Laid: library functions whose contracts are proved over whatever program: the table of numbers, and a field a function or a type. -/
namespace Go.Proofs.YtcahgmnkphmnhaaGreat
open Go.Shelf
def sortedI_ren : Go.Shelf.Ren := ⟨fun | 6 => 65 | 8 => 105 | 9 => 106 | 11 => 144 | 13 => 142 | 12 => 145 | 23 => 169 | 24 => 170 | 14 => 171 | 15 => 172 | 16 => 173 | 17 => 174 | 18 => 175 | 19 => 176 | 20 => 177 | 21 => 178 | 22 => 179 | 25 => 197 | 26 => 193 | 27 => 194 | 28 => 198 | 29 => 199 | 30 => 143 | 31 => 213 | n => n, fun | 26 => 3 | 28 => 120 | 24 => 24 | 0 => 0 | 3 => 3 | 37 => 195 | 48 => 217 | 50 => 219 | 4 => 4 | 40 => 211 | 39 => 210 | 45 => 129 | 5 => 5 | 9 => 9 | 51 => 234 | 55 => 238 | 57 => 250 | 58 => 113 | 33 => 81 | n => n, fun | n => n⟩
theorem sortedI : Go.Proofs.SlLaysZI.n6 Tryz.prog sortedI_ren := {
  mixed := by kernel_rfl
  f6 := ⟨Tryz.f65.name, by decide, Tryz.func65.trans (congrArg some (by kernel_rfl))⟩
  f8 := ⟨Tryz.f105.name, by decide, Tryz.func105.trans (congrArg some (by kernel_rfl))⟩
  f11 := ⟨Tryz.f144.name, by decide, Tryz.func144.trans (congrArg some (by kernel_rfl))⟩
  t0 := Tryz.underlying0
  a0 := Tryz.isAgg0
  z0 := Tryz.sizeOf0
  v0 := Tryz.zeroValue0
  t24 := Tryz.underlying24
  a24 := Tryz.isAgg24
  z24 := Tryz.sizeOf24
  v24 := Tryz.zeroValue24
  t26 := Tryz.underlying3
  a26 := Tryz.isAgg3
  z26 := Tryz.sizeOf3
  v26 := Tryz.zeroValue3
  t28 := Tryz.underlying120
  a28 := Tryz.isAgg120
  z28 := Tryz.sizeOf120
  v28 := Tryz.zeroValue120
  i26 := by kernel_rfl }
def sortI_ren : Go.Shelf.Ren := ⟨fun | 5 => 106 | 8 => 142 | 7 => 145 | 19 => 169 | 20 => 170 | 10 => 171 | 11 => 172 | 12 => 173 | 13 => 174 | 14 => 175 | 15 => 176 | 16 => 177 | 17 => 178 | 18 => 179 | 30 => 197 | 31 => 193 | 32 => 194 | 33 => 198 | 34 => 199 | 35 => 143 | 40 => 213 | n => n, fun | 23 => 24 | 25 => 3 | 3 => 3 | 32 => 195 | 22 => 24 | 0 => 0 | 44 => 217 | 46 => 219 | 4 => 4 | 36 => 211 | 35 => 210 | 41 => 129 | 5 => 5 | 9 => 9 | 53 => 234 | 57 => 238 | 63 => 250 | 64 => 113 | n => n, fun | n => n⟩
theorem sortI : Go.Proofs.SlLaysM.n5 Tryz.prog sortI_ren := {
  mixed := by kernel_rfl
  f5 := ⟨Tryz.f106.name, by decide, Tryz.func106.trans (congrArg some (by kernel_rfl))⟩
  f7 := ⟨Tryz.f145.name, by decide, Tryz.func145.trans (congrArg some (by kernel_rfl))⟩
  f8 := Tryz.func142.trans (congrArg some (by kernel_rfl))
  f10 := ⟨Tryz.f171.name, by decide, Tryz.func171.trans (congrArg some (by kernel_rfl))⟩
  f11 := ⟨Tryz.f172.name, by decide, Tryz.func172.trans (congrArg some (by kernel_rfl))⟩
  f12 := ⟨Tryz.f173.name, by decide, Tryz.func173.trans (congrArg some (by kernel_rfl))⟩
  f13 := ⟨Tryz.f174.name, by decide, Tryz.func174.trans (congrArg some (by kernel_rfl))⟩
  f14 := ⟨Tryz.f175.name, by decide, Tryz.func175.trans (congrArg some (by kernel_rfl))⟩
  f15 := ⟨Tryz.f176.name, by decide, Tryz.func176.trans (congrArg some (by kernel_rfl))⟩
  f16 := ⟨Tryz.f177.name, by decide, Tryz.func177.trans (congrArg some (by kernel_rfl))⟩
  f17 := ⟨Tryz.f178.name, by decide, Tryz.func178.trans (congrArg some (by kernel_rfl))⟩
  f18 := ⟨Tryz.f179.name, by decide, Tryz.func179.trans (congrArg some (by kernel_rfl))⟩
  f19 := Tryz.func169.trans (congrArg some (by kernel_rfl))
  f20 := Tryz.func170.trans (congrArg some (by kernel_rfl))
  f30 := ⟨Tryz.f197.name, by decide, Tryz.func197.trans (congrArg some (by kernel_rfl))⟩
  f31 := Tryz.func193.trans (congrArg some (by kernel_rfl))
  f32 := Tryz.func194.trans (congrArg some (by kernel_rfl))
  f33 := ⟨Tryz.f198.name, by decide, Tryz.func198.trans (congrArg some (by kernel_rfl))⟩
  f34 := ⟨Tryz.f199.name, by decide, Tryz.func199.trans (congrArg some (by kernel_rfl))⟩
  f35 := ⟨Tryz.f143.name, by decide, Tryz.func143.trans (congrArg some (by kernel_rfl))⟩
  f40 := ⟨Tryz.f213.name, by decide, Tryz.func213.trans (congrArg some (by kernel_rfl))⟩
  t0 := Tryz.underlying0
  a0 := Tryz.isAgg0
  z0 := Tryz.sizeOf0
  v0 := Tryz.zeroValue0
  t3 := Tryz.underlying3
  a3 := Tryz.isAgg3
  z3 := Tryz.sizeOf3
  v3 := Tryz.zeroValue3
  t4 := Tryz.underlying4
  a4 := Tryz.isAgg4
  z4 := Tryz.sizeOf4
  v4 := Tryz.zeroValue4
  t5 := Tryz.underlying5
  a5 := Tryz.isAgg5
  z5 := Tryz.sizeOf5
  v5 := Tryz.zeroValue5
  t9 := Tryz.underlying9
  a9 := Tryz.isAgg9
  z9 := Tryz.sizeOf9
  v9 := Tryz.zeroValue9
  t22 := Tryz.underlying24
  a22 := Tryz.isAgg24
  z22 := Tryz.sizeOf24
  v22 := Tryz.zeroValue24
  t23 := Tryz.underlying24
  a23 := Tryz.isAgg24
  z23 := Tryz.sizeOf24
  v23 := Tryz.zeroValue24
  t25 := Tryz.underlying3
  a25 := Tryz.isAgg3
  z25 := Tryz.sizeOf3
  v25 := Tryz.zeroValue3
  t32 := Tryz.underlying195
  a32 := Tryz.isAgg195
  z32 := Tryz.sizeOf195
  v32 := Tryz.zeroValue195
  t35 := Tryz.underlying210
  a35 := Tryz.isAgg210
  z35 := Tryz.sizeOf210
  v35 := Tryz.zeroValue210
  t36 := Tryz.underlying211
  a36 := Tryz.isAgg211
  z36 := Tryz.sizeOf211
  v36 := Tryz.zeroValue211
  t41 := Tryz.underlying129
  a41 := Tryz.isAgg129
  z41 := Tryz.sizeOf129
  v41 := Tryz.zeroValue129
  t44 := Tryz.underlying217
  a44 := Tryz.isAgg217
  z44 := Tryz.sizeOf217
  v44 := Tryz.zeroValue217
  t46 := Tryz.underlying219
  a46 := Tryz.isAgg219
  z46 := Tryz.sizeOf219
  v46 := Tryz.zeroValue219
  t53 := Tryz.underlying234
  a53 := Tryz.isAgg234
  z53 := Tryz.sizeOf234
  v53 := Tryz.zeroValue234
  t57 := Tryz.underlying238
  a57 := Tryz.isAgg238
  z57 := Tryz.sizeOf238
  v57 := Tryz.zeroValue238
  t63 := Tryz.underlying250
  a63 := Tryz.isAgg250
  z63 := Tryz.sizeOf250
  v63 := Tryz.zeroValue250
  t64 := Tryz.underlying113
  a64 := Tryz.isAgg113
  z64 := Tryz.sizeOf113
  v64 := Tryz.zeroValue113 }
end Go.Proofs.YtcahgmnkphmnhaaGreat
/- Laid by hand: slices.Compact and slices.Reverse at ints. -/
namespace Go.Proofs.YtcahgmnkphmnhaaGreat
open Go.Shelf
def compactI_ren : Go.Shelf.Ren := ⟨fun | 20 => 110 | n => n, fun | 0 => 0 | 3 => 3 | 4 => 4 | 22 => 24 | n => n, fun | n => n⟩
theorem compactI : Go.Proofs.Lays2.n20 Tryz.prog compactI_ren := {
  mixed := by kernel_rfl
  f20 := Tryz.func110.trans (congrArg some (by kernel_rfl))
  t0 := Tryz.underlying0
  a0 := Tryz.isAgg0
  z0 := Tryz.sizeOf0
  v0 := Tryz.zeroValue0
  t3 := Tryz.underlying3
  a3 := Tryz.isAgg3
  z3 := Tryz.sizeOf3
  v3 := Tryz.zeroValue3
  t4 := Tryz.underlying4
  a4 := Tryz.isAgg4
  z4 := Tryz.sizeOf4
  v4 := Tryz.zeroValue4
  t22 := Tryz.underlying24
  a22 := Tryz.isAgg24
  z22 := Tryz.sizeOf24
  v22 := Tryz.zeroValue24
  i3 := by kernel_rfl }
def reverseI_ren : Go.Shelf.Ren := ⟨fun | 112 => 73 | n => n, fun | 0 => 0 | 3 => 3 | 4 => 4 | 28 => 24 | n => n, fun | n => n⟩
theorem reverseI : Go.Proofs.Lays.n112 Tryz.prog reverseI_ren := {
  mixed := by kernel_rfl
  f112 := Tryz.func73.trans (congrArg some (by kernel_rfl))
  t0 := Tryz.underlying0
  a0 := Tryz.isAgg0
  z0 := Tryz.sizeOf0
  v0 := Tryz.zeroValue0
  t3 := Tryz.underlying3
  a3 := Tryz.isAgg3
  z3 := Tryz.sizeOf3
  v3 := Tryz.zeroValue3
  t4 := Tryz.underlying4
  a4 := Tryz.isAgg4
  z4 := Tryz.sizeOf4
  v4 := Tryz.zeroValue4
  t28 := Tryz.underlying24
  a28 := Tryz.isAgg24
  z28 := Tryz.sizeOf24
  v28 := Tryz.zeroValue24 }
end Go.Proofs.YtcahgmnkphmnhaaGreat
/- Sorting, compacting and turning own rows of ints. -/
namespace Go.Proofs.YtcahgmnkphmnhaaGreat
open Go.RowKit Go.Sort Go.Shelf Go.Lib

theorem take_putCellsZ (enc : Int → Value) (cur : Array Value) (d : Array Int) (h : d.size ≤ cur.size) : (putCells enc 0 d cur).toList.take d.size = d.toList.map enc := by
  apply List.ext_getElem?
  intro j
  by_cases hj : j < d.size
  · rw [List.getElem?_take_of_lt hj, Array.getElem?_toList]
    simp [putCells, hj, show j < cur.size by omega]
  · rw [List.getElem?_take_eq_none (by omega), List.getElem?_eq_none (by simp; omega)]
theorem holdsZ_own {w : World} {base : Nat} {e : TypeId} {g n cap : Nat} {L : List Int} (h : w.ownsRow base e 1 (.slice (some ⟨g, 0, none⟩) n cap) n (L.map (Value.int .i64))) :
    Holds (Value.int .i64) w g 0 L.toArray ∧ g < w.heap.size := by
  rcases h.2 with ⟨h1, _⟩ | ⟨g', cap', cur, he, _, hh, _⟩
  · cases h1
  · injection he with he _ hcap
    injection he with he
    injection he with he
    subst he hcap
    refine ⟨fun j hj => ?_, (Array.getElem?_eq_some_iff.1 hh).1⟩
    have hj' : j < L.length := by simpa using hj
    have := h.cells (g := g) rfl j (.int .i64 L[j]) (by simp [hj'])
    rw [Addr.add_lit] at this
    rw [getElem!_pos _ j hj]
    exact ⟨by simpa using this, by simp [World.frozen?, hh]⟩
theorem own_putZ {w : World} {base : Nat} {e : TypeId} {g n cap m : Nat} {L : List Int} {d : Array Int} {os : Array Obj} (hd : d.size = n) (h : w.ownsRow base e 1 (.slice (some ⟨g, 0, none⟩) n cap) n (L.map (Value.int .i64))) :
    (grow (putRow (Value.int .i64) (Sort.ahead w m) g 0 d) os).ownsRow base e 1 (.slice (some ⟨g, 0, none⟩) n cap) n (d.toList.map (Value.int .i64)) ∧ w.grownBy (grow (putRow (Value.int .i64) (Sort.ahead w m) g 0 d) os) (some g) := by
  rcases h.2 with ⟨h1, _⟩ | ⟨g', cap', cur, he, hb, hh, hc, hm, hz, ht⟩
  · cases h1
  · injection he with he _ hcap
    injection he with he
    injection he with he
    subst he hcap
    have hg : g < w.heap.size := (Array.getElem?_eq_some_iff.1 hh).1
    have hheap : (grow (putRow (Value.int .i64) (Sort.ahead w m) g 0 d) os).heap[g]? = some (.cells (putCells (Value.int .i64) 0 d cur) e (0, 0)) := by
      rw [heap_grow_old _ _ (by simpa [putRow, mapBlock, Sort.ahead] using hg)]
      simp [putRow, mapBlock, Sort.ahead, Array.getElem?_modify, hh, onCells]
    refine ⟨⟨by simp [hd], .inr ⟨g, cap, _, rfl, hb, hheap, hc, hm, by simp [putCells, hz], ?_⟩⟩, ?_⟩
    · rw [Nat.mul_one, ← hd, take_putCellsZ _ _ _ (by omega)]
    · refine ⟨rfl, rfl, rfl, by simp [putRow, mapBlock, Sort.ahead], fun q hq hne => ?_⟩
      rw [heap_grow_old _ _ (by simpa [putRow, mapBlock, Sort.ahead] using hq)]
      have : g ≠ q := fun e => hne (by rw [e])
      simp [putRow, mapBlock, Sort.ahead, Array.getElem?_modify, this]
def sortZ (L : List Int) : List Int := L.mergeSort fun x y => decide (x ≤ y)
theorem sortZ_any (base g n cap : Nat) (L : List Int) (w : World) (hn : L.length = n) (hl : n ≤ 100000) (h : w.ownsRow base 3 1 (.slice (some ⟨g, 0, none⟩) n cap) n (L.map (Value.int .i64))) :
    Calls Tryz.prog 106 #[.slice (some ⟨g, 0, none⟩) n cap] w fun e w' => e = .returned (.tuple #[]) ∧ w'.ownsRow base 3 1 (.slice (some ⟨g, 0, none⟩) n cap) n ((sortZ L).map (Value.int .i64)) ∧ w.grownBy w' (some g) := by
  subst hn
  obtain ⟨hH, hg⟩ := holdsZ_own h
  have hc := AnyM.slices_Sort_int sortI g 0 cap L w hH hg (by omega)
  change Calls Tryz.prog 106 _ _ _ at hc
  refine hc.mono ?_
  rintro e w' ⟨rfl, m, os, rfl⟩
  have h2 := own_putZ (m := m) (os := os) (d := (sortZ L).toArray) (by simp [sortZ]) h
  refine ⟨rfl, ?_, h2.2⟩
  have h3 := h2.1
  rw [List.toList_toArray] at h3
  exact h3
theorem grow_none (w : World) : grow w #[] = w := by
  unfold grow; simp
theorem own_putZ0 {w : World} {base : Nat} {e : TypeId} {g n cap m : Nat} {L : List Int} {d : Array Int} (hd : d.size = n) (h : w.ownsRow base e 1 (.slice (some ⟨g, 0, none⟩) n cap) n (L.map (Value.int .i64))) :
    (putRow (Value.int .i64) (Sort.ahead w m) g 0 d).ownsRow base e 1 (.slice (some ⟨g, 0, none⟩) n cap) n (d.toList.map (Value.int .i64)) ∧ w.grownBy (putRow (Value.int .i64) (Sort.ahead w m) g 0 d) (some g) := by
  have := own_putZ (m := m) (os := #[]) hd h
  rwa [grow_none] at this
theorem own_shrinkZ {w : World} {base : Nat} {e : TypeId} {g n k cap : Nat} {L M : List Int} (hk : k ≤ n) (hM : M.length = k) (h : w.ownsRow base e 1 (.slice (some ⟨g, 0, none⟩) n cap) n ((M ++ L).map (Value.int .i64))) :
    w.ownsRow base e 1 (.slice (some ⟨g, 0, none⟩) k cap) k (M.map (Value.int .i64)) := by
  rcases h.2 with ⟨h1, _⟩ | ⟨g', cap', cur, he, hb, hh, hc, hm, hz, ht⟩
  · cases h1
  · injection he with he _ hcap
    injection he with he
    injection he with he
    subst he hcap
    refine ⟨by simp [hM], .inr ⟨g, cap, cur, rfl, hb, hh, by omega, hm, hz, ?_⟩⟩
    have h3 := congrArg (List.take k) ht
    have h4 : List.take k (M.map (Value.int .i64)) = M.map (Value.int .i64) := List.take_of_length_le (by simp [hM])
    rw [List.take_take, Nat.mul_one, Nat.min_eq_left hk, List.map_append, List.take_append_of_le_length (by simp [hM]), h4] at h3
    rw [Nat.mul_one]
    exact h3
theorem compact_le (L : List Int) : (Lib.compact L).length ≤ L.length := by
  unfold Lib.compact Lib.compactUpTo
  rw [List.length_map]
  refine Nat.le_trans (List.length_filter_le ..) ?_
  simp
theorem compactZ_any (base g n cap : Nat) (L : List Int) (w : World) (hn : L.length = n) (hl : n ≤ 100000) (hcap : n ≤ cap) (h : w.ownsRow base 3 1 (.slice (some ⟨g, 0, none⟩) n cap) n (L.map (Value.int .i64))) :
    Calls Tryz.prog 110 #[.slice (some ⟨g, 0, none⟩) n cap] w fun e w' => e = .returned (.slice (some ⟨g, 0, none⟩) (Lib.compact L).length cap) ∧ w'.ownsRow base 3 1 (.slice (some ⟨g, 0, none⟩) (Lib.compact L).length cap) (Lib.compact L).length ((Lib.compact L).map (Value.int .i64)) ∧ w.grownBy w' (some g) := by
  subst hn
  obtain ⟨hH, hg⟩ := holdsZ_own h
  have hle := compact_le L
  have hc := Any.slices_Compact_int compactI g 0 cap L w hH (by omega) hcap
  change Calls Tryz.prog 110 _ _ _ at hc
  refine hc.mono ?_
  rintro e w' ⟨rfl, q, rfl⟩
  have h2 := own_putZ0 (m := q) (d := (Lib.compact L ++ List.replicate (L.length - (Lib.compact L).length) 0).toArray) (by simp; omega) h
  refine ⟨rfl, ?_, h2.2⟩
  have h3 := h2.1
  rw [List.toList_toArray] at h3
  exact own_shrinkZ hle rfl h3
theorem reverseZ_any (base g n cap : Nat) (L : List Int) (w : World) (hn : L.length = n) (hl : n ≤ 100000) (h : w.ownsRow base 3 1 (.slice (some ⟨g, 0, none⟩) n cap) n (L.map (Value.int .i64))) :
    Calls Tryz.prog 73 #[.slice (some ⟨g, 0, none⟩) n cap] w fun e w' => e = .returned (.tuple #[]) ∧ w'.ownsRow base 3 1 (.slice (some ⟨g, 0, none⟩) n cap) n (L.reverse.map (Value.int .i64)) ∧ w.grownBy w' (some g) := by
  subst hn
  obtain ⟨hH, hg⟩ := holdsZ_own h
  have hc := Any.slices_Reverse_int reverseI g 0 cap L w hH (by omega)
  change Calls Tryz.prog 73 _ _ _ at hc
  refine hc.mono ?_
  rintro e w' ⟨rfl, q, rfl⟩
  have h2 := own_putZ0 (m := q) (d := L.reverse.toArray) (by simp) h
  refine ⟨rfl, ?_, h2.2⟩
  have h3 := h2.1
  rw [List.toList_toArray] at h3
  exact h3
end Go.Proofs.YtcahgmnkphmnhaaGreat
/- Sorting, compacting and turning own rows of numbers. -/
namespace Go.Proofs.YtcahgmnkphmnhaaGreat
open Go.RowKit Go.Sort Go.Shelf Go.Lib

theorem ncell_map (L : List Nat) : L.flatMap ncell = (L.map fun i : Nat => (i : Int)).map (Value.int .i64) := by
  rw [List.map_map, List.map_eq_flatMap]; rfl
theorem sortZ_cast (L : List Nat) : sortZ (L.map fun i : Nat => (i : Int)) = (sortNat L).map fun i : Nat => (i : Int) := by
  unfold sortZ sortNat
  rw [List.map_mergeSort]
  intro a _ b _
  simp
theorem sortNat_any (base n : Nat) (v : Value) (L : List Nat) (w : World) (hn : L.length = n) (hl : n ≤ 100000) (h : w.ownsRow base 3 1 v n (L.flatMap ncell)) :
    Calls Tryz.prog 106 #[v] w fun e w' => e = .returned (.tuple #[]) ∧ w'.ownsRow base 3 1 v n ((sortNat L).flatMap ncell) ∧ w.grownBy w' v.ownBlock := by
  rcases h.2 with ⟨rfl, h0⟩ | ⟨g, cap, cur, rfl, -⟩
  · have hL : L = [] := List.eq_nil_of_length_eq_zero (by omega)
    subst hL h0
    have hc := AnyM.slices_Sort_int_none sortI none 0 w
    change Calls Tryz.prog 106 _ _ _ at hc
    refine hc.mono ?_
    rintro e w' ⟨rfl, rfl⟩
    exact ⟨rfl, by rw [show sortNat [] = [] by simp [sortNat]]; exact h, World.grownBy.refl _ _⟩
  · have h' := h
    rw [ncell_map] at h'
    have hc := sortZ_any base g n cap _ w (by simpa using hn) hl h'
    refine hc.mono ?_
    rintro e w' ⟨rfl, h1, h2⟩
    rw [sortZ_cast, ← ncell_map] at h1
    exact ⟨rfl, h1, h2⟩
theorem reverseNat_any (base g n cap : Nat) (L : List Nat) (w : World) (hn : L.length = n) (hl : n ≤ 100000) (h : w.ownsRow base 3 1 (.slice (some ⟨g, 0, none⟩) n cap) n (L.flatMap ncell)) :
    Calls Tryz.prog 73 #[.slice (some ⟨g, 0, none⟩) n cap] w fun e w' => e = .returned (.tuple #[]) ∧ w'.ownsRow base 3 1 (.slice (some ⟨g, 0, none⟩) n cap) n (L.reverse.flatMap ncell) ∧ w.grownBy w' (some g) := by
  have h' := h
  rw [ncell_map] at h'
  have hc := reverseZ_any base g n cap _ w (by simpa using hn) hl h'
  refine hc.mono ?_
  rintro e w' ⟨rfl, h1, h2⟩
  rw [← List.map_reverse, ← ncell_map] at h1
  exact ⟨rfl, h1, h2⟩
theorem compact_none (w : World) : Calls Tryz.prog 110 #[.slice none 0 0] w fun e w' => e = .returned (.slice none 0 0) ∧ w = w' := by
  go_enter Tryz.func110, Tryz.ntmps110
  go_wp2_with fail
  go_ret
  exact ⟨rfl, rfl⟩
theorem compactNat_any (base n : Nat) (v : Value) (L : List Nat) (w : World) (hn : L.length = n) (hl : n ≤ 100000) (h : w.ownsRow base 3 1 v n ((sortNat L).flatMap ncell)) :
    Calls Tryz.prog 110 #[v] w fun e w' => ∃ v', e = .returned v' ∧ w'.ownsRow base 3 1 v' (dedup (sortNat L)).length ((dedup (sortNat L)).flatMap ncell) ∧ w.grownBy w' v.ownBlock ∧ v'.ownBlock = v.ownBlock := by
  rcases h.2 with ⟨rfl, h0⟩ | ⟨g, cap, cur, rfl, -, -, hcap, -⟩
  · have hL : L = [] := List.eq_nil_of_length_eq_zero (by omega)
    subst hL h0
    have hs : sortNat [] = [] := by unfold sortNat; simp
    rw [hs] at h ⊢
    refine (compact_none w).mono ?_
    rintro e w' ⟨rfl, rfl⟩
    exact ⟨_, rfl, h, World.grownBy.refl _ _, rfl⟩
  · have h' := h
    rw [ncell_map] at h'
    have hc := compactZ_any base g n cap _ w (by rw [List.length_map, sortNat_len]; exact hn) hl hcap h'
    refine hc.mono ?_
    rintro e w' ⟨rfl, h1, h2⟩
    rw [compact_cast] at h1 ⊢
    rw [List.length_map, ← ncell_map] at h1
    rw [List.length_map]
    exact ⟨_, rfl, h1, h2, rfl⟩
end Go.Proofs.YtcahgmnkphmnhaaGreat
/- The contracts of package device: Read and Write. -/
namespace Go.Proofs.YtcahgmnkphmnhaaGreat
open Go.RowKit Go.Maps Go.ChangeMaps

theorem wf_nat {n : Nat} (hn : n ≤ 100000) : (Lit.int .i64 (n : Int)).wf = true := by
  have : (-9223372036854775808 : Int) ≤ n ∧ (n : Int) ≤ 9223372036854775807 := by omega
  simpa [Lit.wf, IntKind.min, IntKind.max, IntKind.bits, IntKind.signed] using this
theorem int_key {n : Nat} (hn : n ≤ 100000) : keyOf Tryz.prog 3 (.int .i64 (n : Int)) = some (natL n) := keyOf_int_mk Tryz.underlying3 (wf_nat hn)
theorem int_keyed : Go.Maps.Keyed Tryz.prog 3 := Go.Maps.int_keyed Tryz.underlying3
theorem zero_bytes (w : World) : (zeroValue 22).run Tryz.prog w = .ok (.slice none 0 0) w := by kernel_rfl
theorem int_info : (Tryz.prog.info? 3).map (fun i => (i.zero, i.size, i.bytes)) = some (some (.int .i64 0), 1, 8) := by kernel_rfl
/-- what a sector reads as -/
def readD (D : Dv) (i : Nat) : Bytes := if i ∈ D.O then D.M i else D.S.getD i []
def InO (D : Dv) (i : Nat) : Prop := i ∈ D.O
/-- a device in which something more is pending -/
def putD (D : Dv) (i : Nat) (b : Bytes) : Dv := { D with O := if i ∈ D.O then D.O else D.O ++ [i], M := fun k => if k = i then b else D.M k }
def growF (F : Nat → Prop) (w w' : World) : Nat → Prop := fun k => (F k ∨ w.heap.size ≤ k) ∧ k < w'.heap.size
theorem putD_mem (D : Dv) (i : Nat) (b : Bytes) (k : Nat) : k ∈ (putD D i b).O ↔ k ∈ D.O ∨ k = i := by
  unfold putD
  by_cases hi : i ∈ D.O
  · simp only [if_pos hi]
    exact ⟨.inl, fun h => by rcases h with h | rfl; exact h; exact hi⟩
  · simp [if_neg hi]
end Go.Proofs.YtcahgmnkphmnhaaGreat
/- slices.Sorted(maps.Keys(m)) of maps from numbers to booleans. -/
namespace Go.Proofs.YtcahgmnkphmnhaaGreat
open Go.RowKit Go.Maps Go.ChangeMaps Go.Sort Go.Shelf

section
variable {P : Program} {K : TypeId} {w : World} {b cnt : Nat} {f : Nat → Option Value}
/-- the keys of a map that is told by a function -/
theorem IM.keys (h : IM P K natL w b f cnt) (hK : P.underlying K = some (.int .i64)) :
    ∃ D : DataW Value, w.ownsMap P K heldR b cnt D ∧ Maps.size D = cnt ∧ (intKeys D).Nodup ∧ (∀ x ∈ intKeys D, ∃ k : Nat, x = k ∧ (f k).isSome = true) ∧ ∀ k, (f k).isSome = true → (k : Int) ∈ intKeys D := by
  obtain ⟨D, hown, hs, hh⟩ := h
  have hK2 := Go.Maps.int_keyed hK
  refine ⟨D, hown, hs, ?_⟩
  obtain ⟨L, hD, hp, _⟩ := hown.entries hK2
  obtain ⟨L', hD', hko⟩ := hown.keysOf
  obtain rfl : L = L' := by rw [hD] at hD'; simpa using hD'
  subst hD
  have hint : ∀ p ∈ L, ∃ x, p.1 = .int .i64 x := fun p hp => by
    obtain ⟨v, hv⟩ := hko p hp
    obtain ⟨x, _, hx, _⟩ := Maps.keyOf_i64 hK hv
    exact ⟨x, hx⟩
  clear hown hD'
  have hmem : ∀ x : Int, x ∈ intKeys (.map L) ↔ has (.map L) (.int .i64 x) = true := fun x => by
    rw [has_eq, List.any_eq_true]
    show x ∈ L.map (fun p => Go.intOf p.1) ↔ _
    rw [List.mem_map]
    constructor
    · rintro ⟨p, hp', rfl⟩
      obtain ⟨a, ha⟩ := hint p hp'
      exact ⟨p, hp', by rw [ha]; simp [Lit.sameKey, Go.intOf]⟩
    · rintro ⟨p, hp', hs'⟩
      obtain ⟨a, ha⟩ := hint p hp'
      rw [ha] at hs'
      exact ⟨p, hp', by rw [ha]; simpa [Lit.sameKey, Go.intOf] using hs'⟩
  refine ⟨?_, fun x hx => ?_, fun k hk => ?_⟩
  · show (L.map fun p => Go.intOf p.1).Nodup
    refine List.pairwise_map.2 (hp.imp_of_mem fun {p q} hp' hq' hne e => hne ?_)
    obtain ⟨a, ha⟩ := hint p hp'
    obtain ⟨c, hc⟩ := hint q hq'
    rw [ha, hc] at e ⊢
    exact congrArg _ e
  · obtain ⟨k, e, hk⟩ := hh.2 _ ((hmem x).1 hx)
    unfold natL at e
    injection e with _ e
    exact ⟨k, e, hk⟩
  · obtain ⟨v, hv⟩ := Option.isSome_iff_exists.1 hk
    exact (hmem k).2 ((hh.1 k).2 v hv).1
end
/-- a list of numbers that rises, with just the keys of f -/
structure KeysOf (f : Nat → Option Value) (S : List Nat) : Prop where
  up : S.Pairwise (· < ·)
  mem : ∀ k, k ∈ S ↔ (f k).isSome = true
theorem keys_sorted {f : Nat → Option Value} {L ss : List Int} (hp : ss.Perm L) (hn : L.Nodup) (h1 : ∀ x ∈ L, ∃ k : Nat, x = k ∧ (f k).isSome = true) (h2 : ∀ k, (f k).isSome = true → (k : Int) ∈ L) :
    ∃ S : List Nat, ss.mergeSort leI = S.map (fun i : Nat => (i : Int)) ∧ KeysOf f S := by
  have tr : ∀ a b c : Int, leI a b = true → leI b c = true → leI a c = true := fun a b c h1 h2 => by simp only [leI, decide_eq_true_eq] at *; exact Int.le_trans h1 h2
  have tot : ∀ a b : Int, (leI a b || leI b a) = true := fun a b => by simp only [leI, Bool.or_eq_true, decide_eq_true_eq]; exact Int.le_total a b
  have hpm : (ss.mergeSort leI).Perm L := (List.mergeSort_perm ss leI).trans hp
  have hs := List.pairwise_mergeSort tr tot ss
  have hnd : (ss.mergeSort leI).Nodup := hpm.nodup_iff.2 hn
  have hm : ∀ x, x ∈ ss.mergeSort leI ↔ x ∈ L := fun x => hpm.mem_iff
  generalize ss.mergeSort leI = T at *
  have hcast : T = (T.map Int.toNat).map (fun i : Nat => (i : Int)) := by
    rw [List.map_map]
    conv => lhs; rw [← List.map_id T]
    refine List.map_congr_left fun x hx => ?_
    obtain ⟨k, rfl, _⟩ := h1 x ((hm x).1 hx)
    simp
  refine ⟨T.map Int.toNat, hcast, ?_, fun k => ?_⟩
  · refine List.pairwise_map.2 ?_
    refine (hs.and hnd).imp_of_mem fun {a b} ha hb hab => ?_
    obtain ⟨x, rfl, _⟩ := h1 a ((hm a).1 ha)
    obtain ⟨y, rfl, _⟩ := h1 b ((hm b).1 hb)
    have e1 := of_decide_eq_true hab.1
    have e2 := hab.2
    simp only [Int.toNat_natCast]
    omega
  · rw [List.mem_map]
    constructor
    · rintro ⟨x, hx, rfl⟩
      obtain ⟨y, rfl, hy⟩ := h1 x ((hm x).1 hx)
      simpa using hy
    · intro hk
      exact ⟨(k : Int), (hm _).2 (h2 k hk), by simp⟩
theorem sorts_int (m : Nat) : AnyZI.SortsIn Tryz.prog sortedI_ren Fence.wide m :=
  ⟨fun blk off cap ss W hH hblk hsz => callsIn_wide.2 (AnyM.slices_Sort_int sortI blk off cap ss W hH hblk hsz),
   fun p cap W => callsIn_wide.2 (AnyM.slices_Sort_int_none sortI p cap W)⟩
end Go.Proofs.YtcahgmnkphmnhaaGreat
/- Plain facts on applying changes, and turning them. No program in sight. -/
namespace Go.Proofs.YtcahgmnkphmnhaaGreat

/-- one change applied: a number of an error, or the bytes -/
def apply1 (b : Bytes) (c : Chg) : Except Int Bytes :=
  if c.at_ < 0 ∨ (b.length : Int) < c.at_ ∨ (b.length : Int) - c.at_ < c.old.length then .error 1
  else if c.old.length ≠ c.new.length then .error 3
  else if (b.drop c.at_.toNat).take c.old.length ≠ c.old then .error 6
  else .ok (splice b c.at_.toNat c.new)
/-- changes applied, one after the other -/
def applyL : Bytes → List Chg → Except Int Bytes
  | b, [] => .ok b
  | b, c :: L => match apply1 b c with
    | .error e => .error e
    | .ok b' => applyL b' L
/-- changes turned -/
def turnC (c : Chg) : Chg := ⟨c.at_, c.new, c.old⟩
def turnL (L : List Chg) : List Chg := L.reverse.map turnC

theorem apply1_len {b b' : Bytes} {c : Chg} (h : apply1 b c = .ok b') : b'.length = b.length := by
  unfold apply1 at h
  split at h
  · cases h
  · split at h
    · cases h
    · split at h
      · cases h
      · rename_i h1 h2 h3
        injection h with h
        subst h
        exact length_splice _ _ _ (by omega)
theorem apply1_ok (b old new : Bytes) (j : Nat) (hn : old.length = new.length) (hj : j + old.length ≤ b.length) (ho : (b.drop j).take old.length = old) : apply1 b ⟨j, old, new⟩ = .ok (splice b j new) := by
  unfold apply1
  simp only [Int.toNat_natCast]
  rw [if_neg (by omega), if_neg (by omega), if_neg (by simpa using ho)]
theorem applyL_append (b : Bytes) (L M : List Chg) : applyL b (L ++ M) = match applyL b L with
    | .error e => .error e
    | .ok b' => applyL b' M := by
  induction L generalizing b with
  | nil => rfl
  | cons c L ih =>
    simp only [List.cons_append, applyL]
    cases apply1 b c with
    | error e => rfl
    | ok b' => exact ih b'
theorem applyL_one (b : Bytes) (c : Chg) : applyL b [c] = apply1 b c := by
  simp only [applyL]
  cases apply1 b c <;> rfl
theorem turnL_append (L M : List Chg) : turnL (L ++ M) = turnL M ++ turnL L := by simp [turnL]
theorem turnL_length (L : List Chg) : (turnL L).length = L.length := by simp [turnL]
theorem take_drop_ext (x y : Bytes) (i r : Nat) (h : ∀ p, i ≤ p → p < i + r → x[p]? = y[p]?) : (x.drop i).take r = (y.drop i).take r := by
  apply List.ext_getElem?
  intro p
  rw [List.getElem?_take, List.getElem?_take]
  split
  · rw [List.getElem?_drop, List.getElem?_drop]; exact h _ (by omega) (by omega)
  · rfl
theorem splice_read (l x : Bytes) (o p : Nat) (h : o + x.length ≤ l.length) : (splice l o x)[p]? = if o ≤ p ∧ p < o + x.length then x[p - o]? else l[p]? := by
  split
  · rename_i hp
    have := splice_get l x o (p - o) h (by omega)
    rwa [show o + (p - o) = p from by omega] at this
  · rename_i hp
    exact (splice_same l x o p h (by omega)).symm
theorem cut_read (x : Bytes) (i r p : Nat) (h1 : i ≤ p) (h2 : p < i + r) : ((x.drop i).take r)[p - i]? = x[p]? := by
  rw [List.getElem?_take, if_pos (by omega), List.getElem?_drop]
  congr 1; omega
/-- what has changed makes of the old the new -/
theorem apply_diffF (a b : Bytes) (hl : a.length = b.length) (f : Nat) : ∀ i cur, a.length - i ≤ f → cur.length = a.length → (∀ p, cur[p]? = if p < i then b[p]? else a[p]?) → applyL cur (diffF a b f i) = .ok b := by
  have hend : ∀ i (cur : Bytes), a.length ≤ i → cur.length = a.length → (∀ p, cur[p]? = if p < i then b[p]? else a[p]?) → cur = b := by
    intro i cur hi hc hp
    apply List.ext_getElem?
    intro p
    rw [hp p]
    split
    · rfl
    · rw [List.getElem?_eq_none (by omega), List.getElem?_eq_none (by omega)]
  induction f with
  | zero =>
    intro i cur hf hc hp
    simp only [diffF, applyL]
    rw [hend i cur (by omega) hc hp]
  | succ f ih =>
    intro i cur hf hc hp
    simp only [diffF]
    by_cases hi : i < a.length
    · rw [if_pos hi]
      have hr := runAt_le a b i hl (by omega)
      have hstop : i + runAt a b i < a.length → a[i + runAt a b i]? = b[i + runAt a b i]? := runAt_stop a b i hl
      generalize runAt a b i = r at *
      by_cases h0 : 0 < r
      · rw [if_pos h0, applyL_append, applyL_one]
        have ho : ((a.drop i).take r).length = r := by simp; omega
        have hn : ((b.drop i).take r).length = r := by simp; omega
        have hm : (cur.drop i).take ((a.drop i).take r).length = (a.drop i).take r := by
          rw [ho]
          exact take_drop_ext _ _ _ _ fun p h1 h2 => by rw [hp p, if_neg (by omega)]
        rw [apply1_ok cur _ _ i (by omega) (by omega) hm]
        dsimp only
        refine ih _ _ (by omega) (by rw [length_splice _ _ _ (by omega), hc]) fun p => ?_
        rw [splice_read _ _ _ _ (by omega), hn]
        by_cases h1 : i ≤ p ∧ p < i + r
        · rw [if_pos h1, if_pos (by omega), cut_read _ _ _ _ h1.1 h1.2]
        · rw [if_neg h1, hp p]
          by_cases h2 : p < i
          · rw [if_pos h2, if_pos (by omega)]
          · rw [if_neg h2]
            by_cases h3 : p < i + r + 1
            · rw [if_pos h3]
              obtain rfl : p = i + r := by omega
              by_cases h4 : i + r < a.length
              · exact hstop h4
              · rw [List.getElem?_eq_none (by omega), List.getElem?_eq_none (by omega)]
            · rw [if_neg h3]
      · obtain rfl : r = 0 := by omega
        rw [if_neg h0, List.nil_append]
        refine ih _ _ (by omega) hc fun p => ?_
        rw [hp p]
        by_cases h2 : p < i
        · rw [if_pos h2, if_pos (by omega)]
        · rw [if_neg h2]
          by_cases h3 : p < i + 0 + 1
          · rw [if_pos h3]
            obtain rfl : p = i := by omega
            exact hstop (by omega)
          · rw [if_neg h3]
    · rw [if_neg hi]
      simp only [applyL]
      rw [hend i cur (by omega) hc hp]
theorem apply_diffL (a b : Bytes) (hl : a.length = b.length) : applyL a (diffL a b) = .ok b :=
  apply_diffF a b hl _ 0 a (by omega) rfl fun p => by rw [if_neg (by omega)]
/-- .. and turned, of the new the old -/
theorem apply_turnF (a b : Bytes) (hl : a.length = b.length) (f : Nat) : ∀ i cur, a.length - i ≤ f → cur.length = a.length → (∀ p, i ≤ p → cur[p]? = b[p]?) →
    ∃ c', applyL cur (turnL (diffF a b f i)) = .ok c' ∧ c'.length = a.length ∧ ∀ p, c'[p]? = if p < i then cur[p]? else a[p]? := by
  have hend : ∀ i (cur : Bytes), a.length ≤ i → cur.length = a.length → ∀ p, cur[p]? = if p < i then cur[p]? else a[p]? := by
    intro i cur hi hc p
    split
    · rfl
    · rw [List.getElem?_eq_none (by omega), List.getElem?_eq_none (by omega)]
  induction f with
  | zero =>
    intro i cur hf hc hp
    exact ⟨cur, rfl, hc, hend i cur (by omega) hc⟩
  | succ f ih =>
    intro i cur hf hc hp
    simp only [diffF]
    by_cases hi : i < a.length
    · rw [if_pos hi]
      have hr := runAt_le a b i hl (by omega)
      have hstop : i + runAt a b i < a.length → a[i + runAt a b i]? = b[i + runAt a b i]? := runAt_stop a b i hl
      generalize runAt a b i = r at *
      obtain ⟨c1, h1, hl1, hp1⟩ := ih (i + r + 1) cur (by omega) hc (fun p h => hp p (by omega))
      rw [turnL_append, applyL_append, h1]
      dsimp only
      by_cases h0 : 0 < r
      · rw [if_pos h0]
        have ho : ((a.drop i).take r).length = r := by simp; omega
        have hn : ((b.drop i).take r).length = r := by simp; omega
        have hm : (c1.drop i).take ((b.drop i).take r).length = (b.drop i).take r := by
          rw [hn]
          exact take_drop_ext _ _ _ _ fun p h1 h2 => by rw [hp1 p, if_pos (by omega), hp p (by omega)]
        refine ⟨splice c1 i ((a.drop i).take r), ?_, by rw [length_splice _ _ _ (by omega), hl1], fun p => ?_⟩
        · simp only [turnL, List.reverse_cons, List.reverse_nil, List.nil_append, List.map_cons, List.map_nil, turnC]
          rw [applyL_one]
          exact apply1_ok c1 _ _ i (by omega) (by omega) hm
        · rw [splice_read _ _ _ _ (by omega), ho]
          by_cases h2 : i ≤ p ∧ p < i + r
          · rw [if_pos h2, if_neg (by omega), cut_read _ _ _ _ h2.1 h2.2]
          · rw [if_neg h2, hp1 p]
            by_cases h3 : p < i
            · rw [if_pos (by omega), if_pos h3]
            · rw [if_neg h3]
              by_cases h4 : p < i + r + 1
              · rw [if_pos h4, hp p (by omega)]
                obtain rfl : p = i + r := by omega
                by_cases h5 : i + r < a.length
                · exact (hstop h5).symm
                · rw [List.getElem?_eq_none (by omega), List.getElem?_eq_none (by omega)]
              · rw [if_neg h4]
      · obtain rfl : r = 0 := by omega
        rw [if_neg h0]
        refine ⟨c1, rfl, hl1, fun p => ?_⟩
        rw [hp1 p]
        by_cases h3 : p < i
        · rw [if_pos (by omega), if_pos h3]
        · rw [if_neg h3]
          by_cases h4 : p < i + 0 + 1
          · rw [if_pos h4, hp p (by omega)]
            obtain rfl : p = i := by omega
            exact (hstop (by omega)).symm
          · rw [if_neg h4]
    · rw [if_neg hi]
      exact ⟨cur, rfl, hc, hend i cur (by omega) hc⟩
theorem apply_turnL (a b : Bytes) (hl : a.length = b.length) : applyL b (turnL (diffL a b)) = .ok a := by
  obtain ⟨c, h, hc, hp⟩ := apply_turnF a b hl a.length 0 b (by omega) hl.symm (fun _ _ => rfl)
  have : c = a := List.ext_getElem? fun p => by rw [hp p, if_neg (by omega)]
  rw [this] at h; exact h
/-- where a change begins, and that two do not touch -/
theorem diffF_apart (a b : Bytes) (hl : a.length = b.length) (f : Nat) : ∀ i, ∀ k c d, (diffF a b f i)[k]? = some c → (diffF a b f i)[k + 1]? = some d → c.at_ + (c.old.length : Int) < d.at_ := by
  induction f with
  | zero => intro i k c d h; simp [diffF] at h
  | succ f ih =>
    intro i k c d h1 h2
    simp only [diffF] at h1 h2
    split at h1
    · rename_i hi
      rw [if_pos hi] at h2
      split at h1
      · rename_i h0
        rw [if_pos h0] at h2
        cases k with
        | zero =>
          simp only [List.singleton_append, List.getElem?_cons_zero, Option.some.injEq, List.getElem?_cons_succ] at h1 h2
          obtain ⟨j, r, hj⟩ := diffF_mem a b hl f _ d (List.mem_of_getElem? h2)
          have hle := runAt_le a b i hl (by omega)
          have ho : ((a.drop i).take (runAt a b i)).length = runAt a b i := by simp; omega
          subst h1
          rw [hj.at_]
          have := hj.lo
          dsimp only
          rw [ho]
          omega
        | succ k =>
          simp only [List.singleton_append, List.getElem?_cons_succ] at h1 h2
          exact ih _ k c d h1 h2
      · rename_i h0
        rw [if_neg h0] at h2
        exact ih _ k c d h1 h2
    · simp at h1
end Go.Proofs.YtcahgmnkphmnhaaGreat
/- The contract of diff.Apply. -/
namespace Go.Proofs.YtcahgmnkphmnhaaGreat
open Go.RowKit

/-- the cells of one change, wherever its bytes lie -/
structure ChAny (w : World) (g off i : Nat) (c : Chg) (Ao An : Option Addr) (co cn : Nat) : Prop where
  at_ : w.cell? ⟨g, off + i * 3, none⟩ = some (.int .i64 c.at_)
  old : w.cell? ⟨g, off + i * 3 + 1, none⟩ = some (.slice Ao c.old.length co)
  new : w.cell? ⟨g, off + i * 3 + 2, none⟩ = some (.slice An c.new.length cn)
  rdO : Rd w Ao c.old
  rdN : Rd w An c.new
  leO : c.old.length ≤ co
  leN : c.new.length ≤ cn
/-- the slice at A has the changes L, wherever their bytes lie -/
def RdG (w : World) (A : Option Addr) (L : List Chg) : Prop := ∀ i (h : i < L.length), ∃ g off Ao An co cn, A = some ⟨g, off, none⟩ ∧ ChAny w g off i L[i] Ao An co cn
theorem RdC.rdg {w : World} {A : Option Addr} {L : List Chg} (h : RdC w A L) : RdG w A L := fun i hi => by
  obtain ⟨g, off, go, co, gn, cn, hA, hc⟩ := h i hi
  exact ⟨g, off, _, _, co, cn, hA, hc.at_, hc.old, hc.new, hc.rowO.rd, hc.rowN.rd, hc.rowO.le.1, hc.rowN.le.1⟩
theorem ChAny.below {w w' : World} {g off i : Nat} {c : Chg} {Ao An : Option Addr} {co cn : Nat} (h : ChAny w g off i c Ao An co cn) (hb : Below w.heap.size w w') : ChAny w' g off i c Ao An co cn :=
  ⟨(hb.cell (block_lt_of_cell h.at_)).trans h.at_, (hb.cell (block_lt_of_cell h.old)).trans h.old, (hb.cell (block_lt_of_cell h.new)).trans h.new, h.rdO.below hb, h.rdN.below hb, h.leO, h.leN⟩
theorem RdG.below {w w' : World} {A : Option Addr} {L : List Chg} (h : RdG w A L) (hb : Below w.heap.size w w') : RdG w' A L := fun i hi => by
  obtain ⟨g, off, Ao, An, co, cn, hA, hc⟩ := h i hi
  exact ⟨g, off, Ao, An, co, cn, hA, hc.below hb⟩

/-- b[i:k] of bytes, wherever i stands -/
theorem run_cut_any (A : Option Addr) (n c i k : Nat) (hik : i ≤ k) (hkc : k ≤ c) (W : World) :
    (Instr.sliceAt 22 (.slice A n c) (some (.int .i64 i)) (some (.int .i64 k)) none).run Tryz.prog W = .ok (.slice (if c = i then A else A.map (·.add i)) (k - i) (c - i)) W := by
  obtain ⟨i0, hi0, hz0, hz1, hz2⟩ := info_parts byte_info
  simp [Instr.sliceAt, Instr.slice, Instr.sliceBounds, Instr.sliceBound, run_underlying Tryz.underlying22, asIntOf, sizeOf, typeInfo, hi0, hz1, hik, hkc]
/-- b[i:] of bytes -/
theorem run_tail_any (A : Option Addr) (n c i : Nat) (hin : i ≤ n) (W : World) :
    (Instr.sliceAt 22 (.slice A n c) (some (.int .i64 i)) none none).run Tryz.prog W = .ok (.slice (if c = i then A else A.map (·.add i)) (n - i) (c - i)) W := by
  obtain ⟨i0, hi0, hz0, hz1, hz2⟩ := info_parts byte_info
  simp [Instr.sliceAt, Instr.slice, Instr.sliceBounds, Instr.sliceBound, run_underlying Tryz.underlying22, asIntOf, sizeOf, typeInfo, hi0, hz1, hin]

end Go.Proofs.YtcahgmnkphmnhaaGreat
/- The contract of Write. -/
namespace Go.Proofs.YtcahgmnkphmnhaaGreat
open Go.RowKit Go.Maps Go.ChangeMaps

section
variable {P : Program} {T K E : TypeId} {κ : Type} [DecidableEq κ] {kl : κ → Lit} {b cnt : Nat} {f : κ → Option Value}
theorem step_store_im (w : World) {ops : Array Oper} {o : Oper} {a : Act} {KK : Act → World → Prop} {Q : Exit → Act → World → Prop} {Z : Prop} (hgd : o.guard = none) (m x v : Operand) (hop : o.op = Op.mapUpdate T m x v)
    (KL : Keyed P K) (hinj : ∀ x y, kl x = kl y → x = y) (ht : P.underlying T = some (.map K E)) (hm : a.eval m = .map (some b)) (h : IM P K kl w b f cnt) (hn : cnt < maxLen) (key val : Value) (k : κ) (hx : a.eval x = key) (hv : a.eval v = val) (hkey : keyOf P K key = some (kl k))
    (hK : ∀ w', IM P K kl w' b (upd f k val) (if (f k).isSome then cnt else cnt + 1) → w.grownBy w' (some b) → w'.heap.size = w.heap.size → KK (a.put o.dst undef) w') :
    if Region.wanted o (yielded ops a.tmps) = true then Oper.wp P o a w KK Q else Z := by
  have hw : Region.wanted o (yielded ops a.tmps) = true := by simp [Region.wanted, hgd]
  rw [if_pos hw]
  obtain ⟨w', hrun, r1, r2, r3⟩ := h.store KL hinj ht hn hkey val
  unfold Oper.wp
  simp [execOp, hop, hm, hx, hv, hrun, Result.andThen]
  exact hK w' r1 r2 r3
end
/-- how Write's error reads -/
def powV (left : Int) : Value := if left = 0 then .iface 88 (.int .i64 9) else .nilIface
theorem memF_some (O : List Nat) (Y : Lay) (i : Nat) : (if (memF O Y i).isSome = true then O.length else O.length + 1) = (if i ∈ O then O else O ++ [i]).length := by
  unfold memF
  by_cases h : i ∈ O
  · simp [h]
  · simp [h]
theorem nodup_le : ∀ (n : Nat) (l : List Nat), l.Nodup → (∀ x ∈ l, x < n) → l.length ≤ n
  | 0, l, _, h => by
    cases l with
    | nil => simp
    | cons x r => have := h x (by simp); omega
  | n + 1, l, hd, h => by
    by_cases hm : n ∈ l
    · have h1 := nodup_le n (l.erase n) (hd.erase n) (fun x hx => by
        have h2 := (hd.mem_erase_iff).1 hx
        have := h x h2.2
        omega)
      rw [List.length_erase_of_mem hm] at h1
      omega
    · have h1 := nodup_le n l hd (fun x hx => by
        have := h x hx
        have : x ≠ n := fun e => hm (e ▸ hx)
        omega)
      omega
end Go.Proofs.YtcahgmnkphmnhaaGreat
/- The contract of diff.Pages. -/
namespace Go.Proofs.YtcahgmnkphmnhaaGreat
open Go.RowKit Go.Maps Go.ChangeMaps

/-- a set of numbers, as a map has it -/
def setF (S : Nat → Bool) (q : Nat) : Option Value := if S q = true then some (.bool true) else none
theorem setF_upd (S : Nat → Bool) (k : Nat) : upd (setF S) k (.bool true) = setF (fun q => S q || (k == q)) := by
  funext x
  unfold upd setF
  by_cases hx : x = k
  · subst hx; simp
  · rw [if_neg hx]
    have : (k == x) = false := by simpa using fun e => hx e.symm
    simp [this]
theorem IM.size_le {P : Program} {K : TypeId} {w : World} {b cnt : Nat} {f : Nat → Option Value} (h : IM P K natL w b f cnt) (hK : P.underlying K = some (.int .i64)) (n : Nat) (hn : ∀ k, (f k).isSome = true → k < n) : cnt ≤ n := by
  obtain ⟨D, hown, hs, hnd, h1, _⟩ := h.keys hK
  have hl : (intKeys D).length = cnt := by
    obtain ⟨L, hD, _⟩ := hown.entries (Go.Maps.int_keyed hK)
    subst hD
    rw [← hs]; simp [intKeys, Maps.size]
  have hm : ((intKeys D).map Int.toNat).Nodup := by
    refine List.pairwise_map.2 (hnd.imp_of_mem fun {a b} ha hb hne e => hne ?_)
    obtain ⟨x, rfl, _⟩ := h1 a ha
    obtain ⟨y, rfl, _⟩ := h1 b hb
    simp only [Int.toNat_natCast] at e
    rw [e]
  have := nodup_le n ((intKeys D).map Int.toNat) hm (fun x hx => by
    obtain ⟨y, hy, rfl⟩ := List.mem_map.1 hx
    obtain ⟨z, rfl, hz⟩ := h1 y hy
    exact hn z hz)
  rw [List.length_map, hl] at this
  exact this
/-- the pages that a change touches, of its first j bytes; that changes touch -/
def tchC (a : Nat) (j q : Nat) : Bool := (List.range j).any fun i => (a + i) / 32 == q
theorem tchC_succ (a j q : Nat) : tchC a (j + 1) q = (tchC a j q || ((a + j) / 32 == q)) := by
  unfold tchC
  rw [List.range_succ, List.any_append]; simp
def tchL (L : List Chg) (q : Nat) : Bool := L.any fun c => tchC c.at_.toNat c.new.length q
theorem tchL_succ (L : List Chg) (k q : Nat) (hk : k < L.length) : tchL (L.take (k + 1)) q = (tchL (L.take k) q || tchC L[k].at_.toNat L[k].new.length q) := by
  unfold tchL
  rw [List.take_succ_eq_append_getElem hk, List.any_append]; simp
/-- a change that lies within an image -/
def InC (c : Chg) : Prop := 0 ≤ c.at_ ∧ c.at_ < 6400 ∧ c.at_ + c.new.length ≤ 6400
theorem tchC_lt {a j q : Nat} (h : tchC a j q = true) (hj : a + j ≤ 6400) : q < 200 := by
  obtain ⟨i, hi, e⟩ := List.any_eq_true.1 h
  have := List.mem_range.1 hi
  have := beq_iff_eq.1 e
  omega
theorem tchL_lt {L : List Chg} (hL : ∀ c ∈ L, InC c) {q : Nat} (h : tchL L q = true) : q < 200 := by
  obtain ⟨c, hc, e⟩ := List.any_eq_true.1 h
  obtain ⟨a, b, d⟩ := hL c hc
  exact tchC_lt e (by omega)
structure DpSt (w wr : World) (mb : Nat) (S : Nat → Bool) : Prop where
  im : ∃ cnt, IM Tryz.prog 3 natL wr mb (setF S) cnt ∧ cnt ≤ 200
  bel : Below w.heap.size w wr
  new : w.heap.size ≤ mb
/-- what diff.Pages says -/
def DpAns (w : World) (L : List Chg) (e : Ending) (w' : World) : Prop := ∃ (v : Value) (S : List Nat), e = .returned (.tuple #[v, .nilIface]) ∧ S.Pairwise (· < ·) ∧ (∀ k, k ∈ S ↔ tchL L k = true) ∧ w'.ownsRow w.heap.size 3 1 v S.length (S.map fun i : Nat => .int .i64 (i : Int)) ∧ Below w.heap.size w w'
theorem dpAns_mk {w w' : World} {L : List Chg} {e : Ending} {v : Value} {S : List Nat} (h : e = .returned (.tuple #[v, .nilIface])) (hh : S.Pairwise (· < ·) ∧ (∀ k, k ∈ S ↔ tchL L k = true) ∧ w'.ownsRow w.heap.size 3 1 v S.length (S.map fun i : Nat => .int .i64 (i : Int)) ∧ Below w.heap.size w w') : DpAns w L e w' := ⟨v, S, h, hh⟩
theorem own_base' {w : World} {b b' : Nat} {e : TypeId} {size n : Nat} {v : Value} {xs : List Value} (h : w.ownsRow b e size v n xs) (hb : b' ≤ b) : w.ownsRow b' e size v n xs := by
  refine ⟨h.1, ?_⟩
  rcases h.2 with h1 | ⟨g, cap, cur, a1, a2, a3⟩
  · exact .inl h1
  · exact .inr ⟨g, cap, cur, a1, Nat.le_trans hb a2, a3⟩
end Go.Proofs.YtcahgmnkphmnhaaGreat
/- Package reach: from: who is led to, by the least way: what its walk holds. -/
namespace Go.Proofs.YtcahgmnkphmnhaaGreat
open Go.RowKit Go.Maps Go.ChangeMaps

def pv (W : Ways) : Nat → Option Value := fun k => (W k).map fun p => .int .i64 (par p : Int)
theorem pv_upd (W : Ways) (y : Nat) (p : List Nat) : upd (pv W) y (.int .i64 (par p : Int)) = pv (wset W y p) := by
  funext q; unfold upd pv wset
  by_cases e : q = y
  · rw [if_pos e, if_pos e]; rfl
  · rw [if_neg e, if_neg e]
theorem zero_int (w : World) : (zeroValue 3).run Tryz.prog w = .ok (.int .i64 0) w := by kernel_rfl
/-- a row of one's own beside a map -/
theorem own_map {w w' : World} {base n mb : Nat} {v : Value} {xs : List Value} (h : w.ownsRow base 3 1 v n xs) (hm : ∃ es clock, w.heap[mb]? = some (.map es clock)) (hk : Keep (fun q => q = mb) w w') : w'.ownsRow base 3 1 v n xs :=
  ownsRow_block h fun q hq => by
    refine hk.block q (h.lt q hq).2 fun e => ?_
    obtain ⟨es, clock, hm⟩ := hm
    rcases h.2 with ⟨he, -⟩ | ⟨g, cap, cur, he, -, hh, -⟩
    · rw [he] at hq; cases hq
    · rw [he] at hq
      have : g = q := by simpa [Value.ownBlock] using hq
      rw [this, e, hm] at hh; cases hh
theorem own_ne {w : World} {base n mb : Nat} {v : Value} {xs : List Value} (h : w.ownsRow base 3 1 v n xs) (hm : ∃ es clock, w.heap[mb]? = some (.map es clock)) : ∀ q, v.ownBlock = some q → q ≠ mb := fun q hq e => by
  obtain ⟨es, clock, hm⟩ := hm
  rcases h.2 with ⟨he, -⟩ | ⟨g, cap, cur, he, -, hh, -⟩
  · rw [he] at hq; cases hq
  · rw [he] at hq
    have : g = q := by simpa [Value.ownBlock] using hq
    rw [this, e, hm] at hh; cases hh
theorem own_other {w w' : World} {base n : Nat} {v : Value} {xs : List Value} {b : Option Nat} (h : w.ownsRow base 3 1 v n xs) (hg : w.grownBy w' b) (hn : ∀ q, v.ownBlock = some q → b ≠ some q) : w'.ownsRow base 3 1 v n xs :=
  ownsRow_block h fun q hq => hg.block q (h.lt q hq).2 fun e => hn q hq e.symm
section
variable {w0 w wr w' : World} {F : Nat → Prop} {h mb : Nat} {l : Bytes} {W : Ways}
/-- the map of the ways so far, beside the heap -/
structure FrSt (w0 w wr : World) (F : Nat → Prop) (h mb : Nat) (l : Bytes) (W : Ways) : Prop where
  hp : Hp w0 wr F h l
  bel : Below w.heap.size w wr
  new : w.heap.size ≤ mb
  nf : ¬ F mb
  w0w : w0.heap.size ≤ w.heap.size
  im : ∃ cnt, IM Tryz.prog 3 natL wr mb (pv W) cnt ∧ cnt ≤ 41
theorem FrSt.isMap (hs : FrSt w0 w wr F h mb l W) : ∃ es clock, wr.heap[mb]? = some (.map es clock) := by
  obtain ⟨cnt, him, -⟩ := hs.im
  exact him.isMap
theorem FrSt.below (hs : FrSt w0 w wr F h mb l W) (hb : Below wr.heap.size wr w') : FrSt w0 w w' F h mb l W := by
  obtain ⟨cnt, him, hc⟩ := hs.im
  exact ⟨hs.hp.below hb, hs.bel.trans (hb.mono hs.bel.size), hs.new, hs.nf, hs.w0w, cnt, him.block (hb.block _ him.lt), hc⟩
theorem Hp.grown (hp : Hp w0 wr F h l) {b : Option Nat} (hg : wr.grownBy w' b) (hb : ∀ q, b = some q → w0.heap.size ≤ q ∧ ¬ F q) : Hp w0 w' F h l := by
  have hk : Keep (fun q => b = some q) wr w' := ⟨hg.os, hg.tape, hg.output, hg.size, fun k hk hn => hg.block k hk (fun e => hn e.symm)⟩
  exact hp.keep hk (fun k hf e => (hb k e).2 hf) (fun k e => (hb k e).1)
theorem FrSt.grown (hs : FrSt w0 w wr F h mb l W) {b : Option Nat} (hg : wr.grownBy w' b) (hb : ∀ q, b = some q → w.heap.size ≤ q ∧ ¬ F q ∧ q ≠ mb) : FrSt w0 w w' F h mb l W := by
  obtain ⟨cnt, him, hc⟩ := hs.im
  exact ⟨hs.hp.grown hg fun q hq => ⟨Nat.le_trans hs.w0w (hb q hq).1, (hb q hq).2.1⟩, hs.bel.grown hg hs.bel.size (fun q hq => (hb q hq).1), hs.new, hs.nf, hs.w0w, cnt, him.block (hg.block _ him.lt (fun e => (hb _ e.symm).2.2 rfl)), hc⟩
theorem FrSt.store (hs : FrSt w0 w wr F h mb l W) {y x : Nat} {p : List Nat} (hy : y < 41) (hx : par p = x) (hW : ∀ k, (wset W y p k).isSome = true → k < 41) :
    ∃ w', (Instr.mapUpdate 127 (.map (some mb)) (.int .i64 (y : Int)) (.int .i64 (x : Int))).run Tryz.prog wr = .ok () w' ∧ FrSt w0 w w' F h mb l (wset W y p) ∧ Keep (fun q => q = mb) wr w' ∧ w'.heap.size = wr.heap.size := by
  obtain ⟨cnt, him, hc⟩ := hs.im
  obtain ⟨w', hrun, him', hg, hsz⟩ := him.store int_keyed natL_inj (T := 127) Tryz.underlying127 (by simp only [maxLen]; omega) (int_key (n := y) (by omega)) (.int .i64 (par p : Int))
  rw [pv_upd] at him'
  rw [hx] at hrun
  have hk : Keep (fun q => q = mb) wr w' := ⟨hg.os, hg.tape, hg.output, hg.size, fun k hk hn => hg.block k hk (fun e => hn (Option.some.inj e))⟩
  refine ⟨w', hrun, ⟨hs.hp.keep hk (fun k hf e => hs.nf (e ▸ hf)) (fun k e => e ▸ Nat.le_trans hs.w0w hs.new), hs.bel.grown hg hs.bel.size (fun q hq => by rw [← Option.some.inj hq]; exact hs.new), hs.new, hs.nf, hs.w0w, _, him', ?_⟩, hk, hsz⟩
  exact him'.size_le Tryz.underlying3 41 fun k hk' => by
    refine hW k ?_
    unfold pv at hk'
    cases e : wset W y p k with
    | none => rw [e] at hk'; cases hk'
    | some q => rfl
theorem FrSt.look (hs : FrSt w0 w wr F h mb l W) {y : Nat} (hy : y < 41) :
    (W y = none → (Instr.lookup 127 (.map (some mb)) (.int .i64 (y : Int)) true).run Tryz.prog wr = .ok (.tuple #[.int .i64 0, .bool false]) wr) ∧
    (∀ p, W y = some p → (Instr.lookup 127 (.map (some mb)) (.int .i64 (y : Int)) true).run Tryz.prog wr = .ok (.tuple #[.int .i64 (par p : Int), .bool true]) wr ∧ (Instr.lookup 127 (.map (some mb)) (.int .i64 (y : Int)) false).run Tryz.prog wr = .ok (.int .i64 (par p : Int)) wr) := by
  obtain ⟨cnt, him, -⟩ := hs.im
  constructor
  · intro hn
    exact (him.look_none int_keyed (T := 127) Tryz.underlying127 (zero_int wr) (int_key (n := y) (by omega)) (by unfold pv; rw [hn]; rfl)).1
  · intro p hp
    exact him.look_some int_keyed (T := 127) Tryz.underlying127 (zero_int wr) (int_key (n := y) (by omega)) (by unfold pv; rw [hp]; rfl)
/-- the roots laid so far -/
def partW (S : List Nat) : Ways := fun q => if q ∈ S then some [q] else none
theorem partW_succ (S : List Nat) (k : Nat) (hk : k < S.length) : wset (partW (S.take k)) S[k] [S[k]] = partW (S.take (k + 1)) := by
  funext q
  unfold wset partW
  rw [List.take_succ_eq_append_getElem hk]
  simp only [List.mem_append, List.mem_singleton]
  by_cases e : q = S[k]
  · subst e; rw [if_pos rfl, if_pos (.inr rfl)]
  · rw [if_neg e]
    by_cases hm : q ∈ S.take k
    · rw [if_pos hm, if_pos (.inl hm)]
    · rw [if_neg hm, if_neg (fun h => h.elim hm e)]
theorem partW_all (l : Bytes) : partW (sortNat (rootsH l)) = startW l := by
  funext q; unfold partW startW; simp only [sortNat_mem]
/-- within a level: the refs of one -/
theorem mid_ok {l : Bytes} {s : Ways × List Nat} {D : List Nat} (h : LvOk l s D) (i : Nat) (_hi : i ≤ s.2.length) : ∃ D', LOk l ((s.2.take i).foldl (stepX l) (s.1, [])) D' s.1 D := by
  obtain ⟨D', h1, -⟩ := LOk.foldX (l := l) (D0 := D) (W0 := s.1) (s.2.take i) (s.1, []) D ⟨h.ok, by simp, fun _ _ => rfl⟩ (fun x hx => h.row x (List.mem_of_mem_take hx))
  exact ⟨D', h1⟩
theorem mid_succ (l : Bytes) (s : Ways × List Nat) (i : Nat) (hi : i < s.2.length) : (s.2.take (i + 1)).foldl (stepX l) (s.1, []) = stepX l ((s.2.take i).foldl (stepX l) (s.1, [])) s.2[i] := by
  rw [List.take_succ_eq_append_getElem hi, List.foldl_append]; rfl
theorem in_ok {l : Bytes} {s : Ways × List Nat} {D D0 : List Nat} {W0 : Ways} (h : LOk l s D W0 D0) {x : Nat} (hx : x ∈ D0) (j : Nat) : ∃ D', LOk l (((sortNat (refsL l (x : Int))).take j).foldl (stepY x) s) D' W0 D0 := by
  obtain ⟨D', h1, -⟩ := LOk.foldY hx ((sortNat (refsL l (x : Int))).take j) s D h (fun y hy => sortNat_mem.1 (List.mem_of_mem_take hy))
  exact ⟨D', h1⟩
theorem in_succ (x : Nat) (L : List Nat) (s : Ways × List Nat) (j : Nat) (hj : j < L.length) : (L.take (j + 1)).foldl (stepY x) s = stepY x ((L.take j).foldl (stepY x) s) L[j] := by
  rw [List.take_succ_eq_append_getElem hj, List.foldl_append]; rfl
theorem LOk.next_le {l : Bytes} {s : Ways × List Nat} {D D0 : List Nat} {W0 : Ways} (h : LOk l s D W0 D0) : s.2.length ≤ 40 := by
  have := h.ok.le; rw [h.spl, List.length_append] at this; omega
theorem lvl_len {l : Bytes} (hg : Good l) : ∀ k, (lvlN l k).2.length ≤ 40
  | 0 => (startW_ok hg).le
  | k + 1 => by
    obtain ⟨D, h, -⟩ := LvOk.at_ hg k
    obtain ⟨D', h'⟩ := mid_ok h (lvlN l k).2.length (Nat.le_refl _)
    rw [List.take_length] at h'
    exact h'.next_le
/-- what a new one is led to by -/
theorem LOk.par_new {l : Bytes} {s : Ways × List Nat} {D D0 : List Nat} {W0 : Ways} (h : LOk l s D W0 D0) {x : Nat} (hx : x ∈ D0) (y : Nat) : par (wayOf s.1 x ++ [y]) = x := by
  have hxD : x ∈ D := by rw [h.spl]; exact List.mem_append_left _ hx
  obtain ⟨p, hp⟩ := Option.isSome_iff_exists.1 ((h.ok.dk x).2 hxD)
  obtain ⟨q, e, -⟩ := h.ok.ways x p hp
  unfold wayOf; rw [hp, e]
  show par (q ++ [x] ++ [y]) = x
  rw [List.append_assoc]; exact par_two q x y
theorem WOk.lt41 {l : Bytes} {W : Ways} {D : List Nat} (h : WOk l W D) {k : Nat} (hk : (W k).isSome = true) : k < 41 := by
  have := hE_nat (h.dh k ((h.dk k).1 hk)); omega
end
end Go.Proofs.YtcahgmnkphmnhaaGreat
/- Package reach: from, the walk. -/
namespace Go.Proofs.YtcahgmnkphmnhaaGreat
open Go.RowKit Go.Maps Go.ChangeMaps

section
variable {w0 w : World} {F : Nat → Prop} {h : Nat} {l : Bytes}
/-- within a level -/
structure LvSt (w0 w wX wr : World) (F : Nat → Prop) (h mb : Nat) (l : Bytes) (s : Ways × List Nat) (v : Value) : Prop where
  fr : FrSt w0 w wr F h mb l s.1
  nx : wr.ownsRow wX.heap.size 3 1 v s.2.length (s.2.flatMap ncell)
  kp : Keep (fun q => q = mb) wX wr
set_option maxRecDepth 100000 in
set_option maxHeartbeats 1000000 in
theorem from_any (hp : Hp w0 w F h l) (hg : Good l) :
    Calls Tryz.prog 71 #[.pointer (some ⟨h, 0, none⟩)] w fun e w' => ∃ mb, e = .returned (.map (some mb)) ∧ FrSt w0 w w' F h mb l (fromW l) := by
  obtain ⟨i0', hi0, hz0, hz1, hz2⟩ := info_parts int_infoC
  have HI := Hidden.mk (And.intro hi0 (And.intro hz0 (And.intro hz1 hz2)))
  have hmm := @run_makeMap Tryz.prog
  have HG := Hidden.mk hg
  have hal := (Below.refl w.heap.size w).alloc (Nat.le_refl _) (.map #[] 0)
  have HFL : Hidden (∀ q, F q → q < w.heap.size) := ⟨hp.flt⟩
  have HST : Hidden (FrSt w0 w (w.alloc (.map #[] 0)) F h w.heap.size l (fun _ => none)) := ⟨⟨hp.below hal, hal, Nat.le_refl _, fun hk => by have := hp.flt _ hk; omega, hp.bel.size, 0, IM.made w, by omega⟩⟩
  have HRT := Hidden.mk (hroots_any (hp.below hal))
  have hR8 : (rootsL l).length ≤ 8 := rootsF_len _ _
  have HRH : Hidden (rootsH l = (rootsL l).map (·.2)) := ⟨rfl⟩
  generalize rootsL l = R at *
  clear hp hal hi0 hz0 hz1 hz2 hg
  go_enter Tryz.func71, Tryz.ntmps71
  go_wp2_with fail
  clear hmm
  generalize w.alloc (.map #[] 0) = wA at *
  generalize hmb : w.heap.size = mb at HST ⊢
  clear hmb
  refine HRT.out.mono ?_
  rintro e w1 ⟨v1, rfl, hown1, hb1⟩
  have HST1 := Hidden.mk (HST.out.below hb1)
  obtain ⟨A1, c1, rfl, -, -⟩ := own_split hown1
  have HR := Hidden.mk (own_rdX3 (f := rcells) (fun _ => rfl) rfl hown1)
  generalize hm : R.length = m at *
  have HM := Hidden.mk hm
  clear hown1 hb1 HRT HST hm
  go_wp2_with fail
  go_loopg [4, 21] m (fun q v i wr => ∃ k : Nat, k ≤ m ∧ q = m - k ∧ i = .int .i64 (k : Int) ∧ Hidden (FrSt w0 w wr F h mb l (fun _ => none) ∧ Below w1.heap.size w1 wr ∧ wr.ownsRow w1.heap.size 3 1 v k (((R.map (·.2)).take k).flatMap ncell)))
  case atStart => exact ⟨0, by omega, rfl, rfl, ⟨HST1.out, Below.refl _ _, World.ownsRow_nil _ _ _ _⟩⟩
  case round =>
    obtain ⟨k, hk, rfl, rfl, hst⟩ := hrel
    by_cases hlt : k < m
    · have hkR : k < R.length := by rw [HM.out]; exact hlt
      obtain ⟨pb, ob, rfl, hcx⟩ := (HR.out.below hst.out.2.1) k hkR
      have x0 := hcx 0 _ rfl
      have x1 := hcx 1 _ rfl
      rw [Nat.add_zero] at x0
      have HS : Hidden ((R.map (·.2)).take (k + 1) = (R.map (·.2)).take k ++ [R[k].2]) := ⟨by rw [List.take_succ_eq_append_getElem (by simpa using hkR)]; simp⟩
      generalize R[k].2 = q0 at *
      generalize R[k].1 = s0 at *
      have i0 : (0 : Int) ≤ k := by omega
      have i1 : (k : Int) < m := by omega
      have s3 : IntKind.i64.wrap ((k : Int) + 1) = (k : Int) + 1 := IntWalk.i64_in _ (by omega)
      have hal : Below wr.heap.size wr (wr.alloc (.cells #[.string ⟨s0.toArray⟩, .int .i64 (q0 : Int)] 67)) := (Below.refl _ _).alloc (Nat.le_refl _) _
      have HN := Hidden.mk (And.intro (hst.out.1.below hal) (And.intro (hst.out.2.1.trans (hal.mono hst.out.2.1.size)) (own_below hst.out.2.2 hal)))
      obtain ⟨hi0, hz0, hz1, hz2⟩ := HI.out
      clear hcx hal hst
      go_wp2_with (at_builtin; refine wpList_append_lies _ rfl (.tmp 25) (.tmp 28) _ rfl w1.heap.size 3 i0' _ 1 8 Tryz.underlying24 hi0 hz0 hz1 hz2 rfl (by decide) u4 k (((R.map (·.2)).take k).flatMap ncell) rfl (own_below HN.out.2.2 ((Below.refl _ _).alloc (Nat.le_refl _) _)) ⟨wr.heap.size + 1, 0, none⟩ 1 1 [.int .i64 (q0 : Int)] rfl rfl (World.news_of_block (cs := #[.int .i64 (q0 : Int)]) (t := 3) (fr := (0, 0)) (by have hq_ := heap_alloc_new ((wr.alloc (.cells #[.string ⟨s0.toArray⟩, .int .i64 (q0 : Int)] 67))) (.cells #[.int .i64 (q0 : Int)] 3); rwa [World.size_alloc] at hq_)) (by simp [Value.oneCell']) (by omega) (by simp only [maxLen]; omega) (by omega) (by have hz_ := HN.out.2.1.size; rw [World.size_alloc]; omega) (wr.heap.size + 1 + 1) (by simp) ?_; intro g8 cap8 w8 hown8 hg8 hat8 hlt8)
      have hgW := grown_trans' ((Below.refl (wr.alloc (.cells #[.string ⟨s0.toArray⟩, .int .i64 (q0 : Int)] 67)).heap.size (wr.alloc (.cells #[.string ⟨s0.toArray⟩, .int .i64 (q0 : Int)] 67))).alloc (Nat.le_refl _) _) hg8
      have hlo : ∀ q, u4.ownBlock = some q → w1.heap.size ≤ q := fun q hq => (HN.out.2.2.lt q hq).1
      have hF8 : FrSt w0 w w8 F h mb l (fun _ => none) := HN.out.1.grown hgW fun q hq => by
        have h1 := hlo q hq
        refine ⟨Nat.le_trans HST1.out.bel.size h1, fun hf => ?_, own_ne HN.out.2.2 HN.out.1.isMap q hq⟩
        have := HST1.out.hp.flt q hf; omega
      have HF : Hidden (FrSt w0 w w8 F h mb l (fun _ => none) ∧ Below w1.heap.size w1 w8 ∧ w8.ownsRow w1.heap.size 3 1 (.slice (some ⟨g8, 0, none⟩) (k + 1) cap8) (k + 1) (((R.map (·.2)).take (k + 1)).flatMap ncell)) := ⟨hF8, HN.out.2.1.grown hgW HN.out.2.1.size hlo, by rw [HS.out]; simpa [ncell] using hown8⟩
      clear hgW hlo hF8 hown8 hg8 hat8 hlt8 hi0 hz0 hz1 hz2
      go_roundg (m - (k + 1))
      case measure => omega
      case rel => exact ⟨k + 1, by omega, rfl, by go_num, HF⟩
    · obtain rfl : m = k := by omega
      have hT := hst.out.2.2
      rw [List.take_of_length_le (by rw [List.length_map, HM.out]; exact Nat.le_refl _), ← HRH.out] at hT
      have hlen : (rootsH l).length = m := by rw [HRH.out, List.length_map]; exact HM.out
      have HSO := Hidden.mk (sortNat_any w1.heap.size m u4 (rootsH l) wr hlen (by omega) hT)
      have HO := Hidden.mk hT
      have HFR := Hidden.mk hst.out.1
      have HLN := Hidden.mk hlen
      clear hT hst hlen HRH HR
      go_wp2_with fail
      refine HSO.out.mono ?_
      rintro e w3 ⟨rfl, hown3, hg3⟩
      have hF3 : FrSt w0 w w3 F h mb l (partW ((sortNat (rootsH l)).take 0)) := by
        have := HFR.out.grown hg3 fun q hq => by
          have h1 := (HO.out.lt q hq).1
          refine ⟨Nat.le_trans HST1.out.bel.size h1, fun hf => ?_, own_ne HO.out HFR.out.isMap q hq⟩
          have := HST1.out.hp.flt q hf; omega
        have e : partW ((sortNat (rootsH l)).take 0) = fun _ => none := by funext q; simp [partW]
        rw [e]; exact this
      have HF3 := Hidden.mk hF3
      have HB1 := Hidden.mk HST1.out.bel
      obtain ⟨A3, c3, hu4, hc3, -⟩ := own_split hown3
      rw [hu4] at hown3 ⊢
      have HO3 := Hidden.mk hown3
      have HSL : Hidden ((sortNat (rootsH l)).length = m) := ⟨by rw [sortNat_len]; exact HLN.out⟩
      have HSE : Hidden (∀ x ∈ sortNat (rootsH l), x < 41) := ⟨fun x hx => by have := hE_nat (rootsH_mem HG.out (sortNat_mem.1 hx)); omega⟩
      generalize hS : sortNat (rootsH l) = S at *
      have HS := Hidden.mk hS
      clear hF3 hown3 hg3 HSO HO HFR HST1 HLN hS hu4
      go_wp2_with fail
      go_loopg [35] m (fun q i wr => ∃ k : Nat, k ≤ m ∧ q = m - k ∧ i = .int .i64 (k : Int) ∧ Hidden (FrSt w0 w wr F h mb l (partW (S.take k)) ∧ Keep (fun q => q = mb) w3 wr))
      case atStart => exact ⟨0, by omega, rfl, rfl, ⟨HF3.out, Keep.refl _ _⟩⟩
      case round =>
        obtain ⟨k, hk, rfl, rfl, hst⟩ := hrel
        by_cases hlt : k < m
        · have hkS : k < S.length := by rw [HSL.out]; exact hlt
          have hown := own_map HO3.out HF3.out.isMap hst.out.2
          obtain ⟨pb, ob, hA3, hcx⟩ := (own_rdX3 (f := ncell) (fun _ => rfl) HSL.out hown) k hkS
          have x0 : wr.cell? ⟨pb, ob + k, none⟩ = some (.int .i64 (S[k] : Int)) := by simpa using hcx 0 _ rfl
          have h41 := HSE.out S[k] (List.getElem_mem hkS)
          obtain ⟨w5, hrun, hF5, hk5, -⟩ := hst.out.1.store (y := S[k]) (x := S[k]) (p := [S[k]]) h41 rfl (fun z hz => by
            rw [partW_succ S k hkS] at hz
            unfold partW at hz
            split at hz
            · rename_i hm; exact HSE.out z (List.mem_of_mem_take hm)
            · cases hz)
          rw [partW_succ S k hkS] at hF5
          have HF5 := Hidden.mk (And.intro hF5 (hst.out.2.trans hk5 (fun _ hx => .inl hx)))
          generalize S[k] = q0 at *
          have i0 : (0 : Int) ≤ k := by omega
          have i1 : (k : Int) < m := by omega
          have s3 : IntKind.i64.wrap ((k : Int) + 1) = (k : Int) + 1 := IntWalk.i64_in _ (by omega)
          subst hA3
          clear hcx hst hown hF5 hk5
          go_wp2_with fail
          go_roundg (m - (k + 1))
          case measure => omega
          case rel => exact ⟨k + 1, by omega, rfl, by go_num, HF5⟩
        · obtain rfl : m = k := by omega
          have hown := own_map HO3.out HF3.out.isMap hst.out.2
          have hF6 := hst.out.1
          rw [List.take_of_length_le (by rw [HSL.out]; exact Nat.le_refl _), ← HS.out, partW_all] at hF6
          rw [← HS.out] at hown
          have HLN : Hidden ((rootsH l).length = m) := ⟨by rw [← sortNat_len, HS.out]; exact HSL.out⟩
          have HCP := Hidden.mk (compactNat_any w1.heap.size m (.slice A3 m c3) (rootsH l) wr HLN.out (by omega) hown)
          have HO6 := Hidden.mk hown
          have HF6 := Hidden.mk hF6
          clear hown hF6 hst HO3 HF3 HSL HSE HS
          go_wp2_with fail
          refine HCP.out.mono ?_
          rintro e w7 ⟨v7, rfl, hown7, hg7, -⟩
          have hF7 : FrSt w0 w w7 F h mb l (startW l) := HF6.out.grown hg7 fun q hq => by
            have h1 := (HO6.out.lt q hq).1
            refine ⟨Nat.le_trans HB1.out.size h1, fun hf => ?_, own_ne HO6.out HF6.out.isMap q hq⟩
            have := HFL.out q hf; have := HB1.out.size; omega
          have HL0 : Hidden (FrSt w0 w w7 F h mb l (lvlN l 0).1 ∧ w7.ownsRow w.heap.size 3 1 v7 (lvlN l 0).2.length ((lvlN l 0).2.flatMap ncell)) := ⟨hF7, own_base hown7 HB1.out.size⟩
          clear hF7 hown7 hg7 HCP HO6 HF6 HLN
          go_wp2_with fail
          go_loopg [4] 41 (fun q v wr => ∃ k : Nat, k ≤ 41 ∧ q = 41 - k ∧ Hidden (FrSt w0 w wr F h mb l (lvlN l k).1 ∧ wr.ownsRow w.heap.size 3 1 v (lvlN l k).2.length ((lvlN l k).2.flatMap ncell)))
          case atStart => exact ⟨0, by omega, rfl, HL0⟩
          case round =>
            obtain ⟨k, hk, rfl, hst⟩ := hrel
            generalize wr = wx at *
            obtain ⟨D, hLv, -⟩ := LvOk.at_ HG.out k
            obtain ⟨A4, c4, rfl, hc4, -⟩ := own_split hst.out.2
            by_cases hnil : (lvlN l k).2 = []
            · have hF := hst.out.1
              rw [fromW_of hk hnil] at hF
              have HF := Hidden.mk hF
              have e0 : (lvlN l k).2.length = 0 := by rw [hnil]; rfl
              have d0 : decide (0 < (lvlN l k).2.length) = false := decide_eq_false (by omega)
              generalize (lvlN l k).2.length = n0 at *
              clear hst hF hnil hLv e0
              go_wp2_with fail
              go_ret
              exact ⟨_, rfl, HF.out⟩
            · have hk41 : k < 41 := by
                rcases Nat.lt_or_eq_of_le hk with h | h
                · exact h
                · subst h; exact absurd (lvlN_end HG.out) hnil
              have hpos : 0 < (lvlN l k).2.length := List.length_pos_iff.2 hnil
              have d0 : decide (0 < (lvlN l k).2.length) = true := decide_eq_true hpos
              have hle := lvl_len HG.out k
              have HLS : Hidden (lvlN l (k + 1) = (lvlN l k).2.foldl (stepX l) ((lvlN l k).1, [])) := ⟨rfl⟩
              have HLV := Hidden.mk hLv
              have HST := Hidden.mk hst.out
              generalize hs : lvlN l k = s at *
              obtain ⟨W, L⟩ := s
              dsimp only at *
              clear hst hnil hLv hs hpos
              go_wp2_with fail
              go_loopg [9, 50] L.length (fun q v i ws => ∃ i0 : Nat, i0 ≤ L.length ∧ q = L.length - i0 ∧ i = .int .i64 (i0 : Int) ∧ Hidden (LvSt w0 w wx ws F h mb l ((L.take i0).foldl (stepX l) (W, [])) v))
              case atStart => exact ⟨0, by omega, rfl, rfl, ⟨HST.out.1, World.ownsRow_nil _ _ _ _, Keep.refl _ _⟩⟩
              case round =>
                obtain ⟨i, hi, rfl, rfl, hst⟩ := hrel
                generalize wr = ws at *
                by_cases hlt : i < L.length
                · have hown4 := own_map HST.out.2 HST.out.1.isMap hst.out.kp
                  obtain ⟨pb, ob, hA4, hcx⟩ := (own_rdX3 (f := ncell) (fun _ => rfl) rfl hown4) i hlt
                  have x0 : ws.cell? ⟨pb, ob + i, none⟩ = some (.int .i64 (L[i] : Int)) := by simpa using hcx 0 _ rfl
                  obtain ⟨D1, hL1⟩ := mid_ok HLV.out i hi
                  have HL1 := Hidden.mk hL1
                  have HMS := Hidden.mk (mid_succ l (W, L) i hlt)
                  have HXD := Hidden.mk (HLV.out.row L[i] (List.getElem_mem hlt))
                  have HLS1 := Hidden.mk hst.out
                  dsimp only at HL1 HMS
                  generalize L[i] = x at *
                  generalize (L.take i).foldl (stepX l) (W, []) = s1 at *
                  have i0 : (0 : Int) ≤ i := by omega
                  have i1 : (i : Int) < L.length := by omega
                  have s3 : IntKind.i64.wrap ((i : Int) + 1) = (i : Int) + 1 := IntWalk.i64_in _ (by omega)
                  have HRF := Hidden.mk (refs_any (x : Int) hst.out.fr.hp HG.out)
                  have HRL : Hidden ((refsL l (x : Int)).length ≤ 100000) := ⟨by
                    unfold refsL
                    have h1 := refsB_len l (readL l (x : Int) 0 (min (gL l (x : Int)) (gT l (x : Int)))) _ (Nat.le_refl _)
                    rw [List.take_length] at h1
                    refine Nat.le_trans h1 ?_
                    unfold readL
                    split
                    · rename_i hz
                      have := some_in HG.out hz
                      simp; omega
                    · simp⟩
                  subst hA4
                  clear hcx hst hown4 hL1
                  go_wp2_with fail
                  refine HRF.out.mono ?_
                  rintro e w5 ⟨v12, rfl, hown5, hb5⟩
                  have HSO := Hidden.mk (sortNat_any ws.heap.size _ v12 (refsL l (x : Int)) w5 rfl HRL.out hown5)
                  have HF5 := Hidden.mk (HLS1.out.fr.below hb5)
                  have HN5 := Hidden.mk (own_below HLS1.out.nx hb5)
                  have HK5 := Hidden.mk (HLS1.out.kp.trans (Keep.of_below (F := fun q => q = mb) hb5) (fun _ hx => .inl hx))
                  have HO5 := Hidden.mk hown5
                  have HSZ : Hidden (w.heap.size ≤ ws.heap.size) := ⟨HLS1.out.fr.bel.size⟩
                  have HNL : Hidden (∀ q, u9.ownBlock = some q → q < ws.heap.size) := ⟨fun q hq => (HLS1.out.nx.lt q hq).2⟩
                  have HWX : Hidden (wx.heap.size ≤ ws.heap.size) := ⟨HLS1.out.kp.size⟩
                  clear hown5 hb5 HRF HLS1
                  go_wp2_with fail
                  refine HSO.out.mono ?_
                  rintro e w6 ⟨rfl, hown6, hg6⟩
                  have hF6 : FrSt w0 w w6 F h mb l s1.1 := HF5.out.grown hg6 fun q hq => by
                    have h1 := (HO5.out.lt q hq).1
                    refine ⟨Nat.le_trans HSZ.out h1, fun hf => ?_, own_ne HO5.out HF5.out.isMap q hq⟩
                    have := HFL.out q hf; have := HSZ.out; omega
                  have hN6 := own_other HN5.out hg6 fun q hq e => by
                    have := HNL.out q hq; have := (HO5.out.lt q e).1; omega
                  have hK6 : Keep (fun q => q = mb) wx w6 := HK5.out.trans ⟨hg6.os, hg6.tape, hg6.output, hg6.size, fun k hk hn => hg6.block k hk (fun e => hn e)⟩ (fun q hq => .inr (by
                    have := (HO5.out.lt q hq.symm).1; have := HWX.out; omega))
                  obtain ⟨A12, c12, hv12, hc12, -⟩ := own_split hown6
                  have HL6 : Hidden (LvSt w0 w wx w6 F h mb l s1 u9) := ⟨hF6, hN6, hK6⟩
                  have HV12 : Hidden (∀ q, u9.ownBlock = some q → v12.ownBlock ≠ some q) := ⟨fun q hq e => by have := HNL.out q hq; have := (HO5.out.lt q e).1; omega⟩
                  have HSE : Hidden (∀ y ∈ sortNat (refsL l (x : Int)), y < 41) := ⟨fun y hy => by have := hE_nat (refsL_mem (y := 0) (sortNat_mem.1 hy)); omega⟩
                  have HSS : Hidden (stepX l s1 x = (sortNat (refsL l (x : Int))).foldl (stepY x) s1) := ⟨rfl⟩
                  have HIN : Hidden (∀ j, ∃ D', LOk l (((sortNat (refsL l (x : Int))).take j).foldl (stepY x) s1) D' W D) := ⟨fun j => in_ok HL1.out HXD.out j⟩
                  have hll : (sortNat (refsL l (x : Int))).length = (refsL l (x : Int)).length := sortNat_len _
                  rw [← hll] at hown6 hv12 HRL
                  rw [hv12] at hown6 HV12 ⊢
                  have HO6 := Hidden.mk hown6
                  generalize refsL l (x : Int) = RL at *
                  generalize hLL : sortNat RL = LL at *
                  clear hown6 hg6 hF6 hN6 hK6 HSO HF5 HN5 HK5 HO5 HSZ HNL hv12 hll hLL
                  go_wp2_with fail
                  go_loopg [9, 61] LL.length (fun q v i wq => ∃ j : Nat, j ≤ LL.length ∧ q = LL.length - j ∧ i = .int .i64 (j : Int) ∧ Hidden (LvSt w0 w wx wq F h mb l ((LL.take j).foldl (stepY x) s1) v ∧ wq.ownsRow ws.heap.size 3 1 (.slice A12 LL.length c12) LL.length (LL.flatMap ncell) ∧ ∀ q, v.ownBlock = some q → (Value.slice A12 LL.length c12).ownBlock ≠ some q))
                  case atStart => exact ⟨0, by omega, rfl, rfl, ⟨HL6.out, HO6.out, HV12.out⟩⟩
                  case round =>
                    obtain ⟨j, hj, rfl, rfl, hsq⟩ := hrel
                    generalize wr = wq at *
                    by_cases hjt : j < LL.length
                    · obtain ⟨pb2, ob2, hA12, hcx2⟩ := (own_rdX3 (f := ncell) (fun _ => rfl) rfl hsq.out.2.1) j hjt
                      have y0 : wq.cell? ⟨pb2, ob2 + j, none⟩ = some (.int .i64 (LL[j] : Int)) := by simpa using hcx2 0 _ rfl
                      obtain ⟨D2, hL2⟩ := HIN.out j
                      have HIS := Hidden.mk (in_succ x LL s1 j hjt)
                      obtain ⟨D3, hL3⟩ := HIN.out (j + 1)
                      rw [HIS.out] at hL3
                      have h41 := HSE.out LL[j] (List.getElem_mem hjt)
                      generalize LL[j] = y at *
                      generalize (LL.take j).foldl (stepY x) s1 = t at *
                      have j0 : (0 : Int) ≤ j := by omega
                      have j1 : (j : Int) < LL.length := by omega
                      have s4 : IntKind.i64.wrap ((j : Int) + 1) = (j : Int) + 1 := IntWalk.i64_in _ (by have := HRL.out; omega)
                      obtain ⟨lk0, lk1⟩ := hsq.out.1.fr.look (y := y) h41
                      have HQ := Hidden.mk hsq.out
                      subst hA12
                      clear hcx2 hsq
                      cases hty : t.1 y with
                      | some p =>
                        have lk := (lk1 p hty).1
                        have HTT : Hidden (stepY x t y = t) := ⟨by unfold stepY; rw [if_pos (by rw [hty]; rfl)]⟩
                        generalize (par p : Int) = pp at *
                        clear lk0 lk1 hty hL2 hL3
                        go_wp2_with fail
                        go_roundg (LL.length - (j + 1))
                        case measure => omega
                        case rel => exact ⟨j + 1, by omega, rfl, by go_num, ⟨by rw [HIS.out, HTT.out]; exact HQ.out⟩⟩
                      | none =>
                        have lk := lk0 hty
                        have hTT : stepY x t y = (wset t.1 y (wayOf t.1 x ++ [y]), t.2 ++ [y]) := by unfold stepY; rw [if_neg (by rw [hty]; simp)]
                        rw [hTT] at hL3
                        have hpar := hL2.par_new HXD.out y
                        have hnl := hL2.next_le
                        obtain ⟨w7, hrun, hF7, hk7, hs7⟩ := HQ.out.1.fr.store h41 hpar (fun z hz => hL3.ok.lt41 hz)
                        have HTT := Hidden.mk hTT
                        have HM := HQ.out.1.fr.isMap
                        have hN7 := own_map HQ.out.1.nx HM hk7
                        have hO7 := own_map HQ.out.2.1 HM hk7
                        have HK7 := Hidden.mk (HQ.out.1.kp.trans hk7 (fun _ hx => .inl hx))
                        have HF7 := Hidden.mk hF7
                        have HN7 := Hidden.mk hN7
                        have HO7 := Hidden.mk hO7
                        have HLQ : Hidden (∀ q, u9.ownBlock = some q → q < w7.heap.size) := ⟨fun q hq => (hN7.lt q hq).2⟩
                        have HXS : Hidden (wx.heap.size ≤ w7.heap.size) := ⟨HK7.out.size⟩
                        have HWS : Hidden (w.heap.size ≤ wx.heap.size) := ⟨HST.out.1.bel.size⟩
                        obtain ⟨hi0, hz0, hz1, hz2⟩ := HI.out
                        generalize wset t.1 y (wayOf t.1 x ++ [y]) = W2 at *
                        generalize t.2 = N at *
                        clear lk0 lk1 hty hL2 hL3 hpar hF7 hk7 hN7 hO7 hTT HM hs7
                        go_wp2_with (at_builtin; refine wpList_append_lies _ rfl (.tmp 76) (.tmp 78) _ rfl wx.heap.size 3 i0' _ 1 8 Tryz.underlying24 hi0 hz0 hz1 hz2 rfl (by decide) u9 N.length (N.flatMap ncell) rfl (own_below HN7.out ((Below.refl _ _).alloc (Nat.le_refl _) _)) ⟨(w7).heap.size, 0, none⟩ 1 1 [.int .i64 (y : Int)] rfl rfl (World.news_of_block (cs := #[.int .i64 (y : Int)]) (t := 3) (fr := (0, 0)) (heap_alloc_new (w7) _)) (by simp [Value.oneCell']) (by omega) (by simp only [maxLen]; omega) (by omega) (by have hz_ := HK7.out.size; rw [World.size_alloc]; omega) ((w7).heap.size + 1) (by simp) ?_; intro g8 cap8 w8 hown8 hg8 hat8 hlt8)
                        have hgW := grown_trans' ((Below.refl w7.heap.size w7).alloc (Nat.le_refl _) _) hg8
                        have hlo : ∀ q, u9.ownBlock = some q → wx.heap.size ≤ q := fun q hq => (HN7.out.lt q hq).1
                        have hF8 : FrSt w0 w w8 F h mb l W2 := HF7.out.grown hgW fun q hq => by
                          have h1 := hlo q hq
                          refine ⟨Nat.le_trans HWS.out h1, fun hf => ?_, own_ne HN7.out HF7.out.isMap q hq⟩
                          have := HFL.out q hf; have := HWS.out; omega
                        have hK8 : Keep (fun q => q = mb) wx w8 := HK7.out.trans (F' := fun q => u9.ownBlock = some q) ⟨hgW.os, hgW.tape, hgW.output, hgW.size, fun k hk hn => hgW.block k hk (fun e => hn e.symm)⟩ (fun q hq => .inr (hlo q hq))
                        have hO8 := own_other HO7.out hgW fun q hq e => HQ.out.2.2 q e hq
                        have HF : Hidden (LvSt w0 w wx w8 F h mb l (stepY x t y) (.slice (some ⟨g8, 0, none⟩) (N.length + 1) cap8) ∧ w8.ownsRow ws.heap.size 3 1 (.slice (some ⟨pb2, ob2, none⟩) LL.length c12) LL.length (LL.flatMap ncell) ∧ ∀ q, (Value.slice (some ⟨g8, 0, none⟩) (N.length + 1) cap8).ownBlock = some q → (Value.slice (some ⟨pb2, ob2, none⟩) LL.length c12).ownBlock ≠ some q) := ⟨by
                          rw [HTT.out]
                          exact ⟨hF8, by rw [List.length_append, List.flatMap_append]; simpa [ncell] using hown8, hK8⟩, hO8, fun q hq e => by
                          have hq' : g8 = q := by simpa [Value.ownBlock] using hq
                          subst hq'
                          rcases hat8 with h8 | h8
                          · exact HQ.out.2.2 _ h8 e
                          · have := (HO7.out.lt _ e).2; omega⟩
                        clear hgW hlo hF8 hK8 hO8 hown8 hg8 hat8 hlt8 hi0 hz0 hz1 hz2
                        go_roundg (LL.length - (j + 1))
                        case measure => omega
                        case rel => exact ⟨j + 1, by omega, rfl, by go_num, ⟨by rw [HIS.out]; exact HF.out⟩⟩
                    · obtain rfl : j = LL.length := by omega
                      have hT := hsq.out.1
                      rw [List.take_length, ← HSS.out, ← HMS.out] at hT
                      have HT := Hidden.mk hT
                      have d8 : decide ((LL.length : Int) < LL.length) = false := decide_eq_false (by omega)
                      clear hT hsq
                      go_wp2_with fail
                      go_roundg (L.length - (i + 1))
                      case measure => omega
                      case rel => exact ⟨i + 1, by omega, rfl, by go_num, HT⟩
                · obtain rfl : i = L.length := by omega
                  have hT := hst.out
                  rw [List.take_length, ← HLS.out] at hT
                  have HT : Hidden (FrSt w0 w ws F h mb l (lvlN l (k + 1)).1 ∧ ws.ownsRow w.heap.size 3 1 u9 (lvlN l (k + 1)).2.length ((lvlN l (k + 1)).2.flatMap ncell)) := ⟨hT.fr, own_base hT.nx HST.out.1.bel.size⟩
                  clear hT hst
                  go_wp2_with fail
                  go_roundg (41 - (k + 1))
                  case measure => omega
                  case rel => exact ⟨k + 1, by omega, rfl, HT⟩
end
end Go.Proofs.YtcahgmnkphmnhaaGreat
/- Laid: maps.Keys at maps from numbers to numbers. -/
namespace Go.Proofs.YtcahgmnkphmnhaaGreat
open Go.Shelf
def keysN_ren : Go.Shelf.Ren := ⟨fun | 7 => 70 | 10 => 109 | n => n, fun | 23 => 127 | 26 => 3 | 3 => 3 | 28 => 120 | 0 => 0 | 27 => 119 | 33 => 81 | 4 => 4 | n => n, fun | n => n⟩
theorem keysN : Go.Proofs.SlLaysZI.n7 Tryz.prog keysN_ren := {
  mixed := by kernel_rfl
  f7 := ⟨Tryz.f70.name, by decide, Tryz.func70.trans (congrArg some (by kernel_rfl))⟩
  f10 := ⟨Tryz.f109.name, by decide, Tryz.func109.trans (congrArg some (by kernel_rfl))⟩
  t0 := Tryz.underlying0
  a0 := Tryz.isAgg0
  z0 := Tryz.sizeOf0
  v0 := Tryz.zeroValue0
  t4 := Tryz.underlying4
  a4 := Tryz.isAgg4
  z4 := Tryz.sizeOf4
  v4 := Tryz.zeroValue4
  t23 := Tryz.underlying127
  a23 := Tryz.isAgg127
  z23 := Tryz.sizeOf127
  v23 := Tryz.zeroValue127
  t26 := Tryz.underlying3
  a26 := Tryz.isAgg3
  z26 := Tryz.sizeOf3
  v26 := Tryz.zeroValue3
  t27 := Tryz.underlying119
  a27 := Tryz.isAgg119
  z27 := Tryz.sizeOf119
  v27 := Tryz.zeroValue119
  t28 := Tryz.underlying120
  a28 := Tryz.isAgg120
  z28 := Tryz.sizeOf120
  v28 := Tryz.zeroValue120
  t33 := Tryz.underlying81
  a33 := Tryz.isAgg81
  z33 := Tryz.sizeOf81
  v33 := Tryz.zeroValue81 }
end Go.Proofs.YtcahgmnkphmnhaaGreat
/- slices.Sorted(maps.Keys(m)) of maps from numbers to numbers. -/
namespace Go.Proofs.YtcahgmnkphmnhaaGreat
open Go.RowKit Go.Maps Go.ChangeMaps Go.Sort Go.Shelf

theorem keysN_call (b : Nat) (w : World) : Calls Tryz.prog 70 #[.map (some b)] w fun e w' => e = .returned (.func (.func 109) #[] #[.pointer (some ⟨w.heap.size, 0, none⟩)]) ∧ w' = w.alloc (.cells #[.map (some b)] 127) := by
  have cK : CallsIn Fence.wide 5 Tryz.prog 70 #[.map (some b)] w fun e w' => e = .returned (.func (.func 109) #[] #[.pointer (some ⟨w.heap.size, 0, none⟩)]) ∧ w' = w.alloc (.cells #[.map (some b)] 127) := AnyZI.keys_in keysN Fence.wide 5 trivial rfl (some b) w
  exact callsIn_wide.1 cK
theorem sortedN_call (b cnt : Nat) (f : Nat → Option Value) (w : World) (h : IM Tryz.prog 3 natL w b f cnt) (hc : cnt ≤ 100000) :
    Calls Tryz.prog 65 #[.func (.func 109) #[] #[.pointer (some ⟨w.heap.size, 0, none⟩)]] (w.alloc (.cells #[.map (some b)] 127)) fun e w' => ∃ v S, e = .returned v ∧ KeysOf f S ∧
      w'.ownsRow w.heap.size 3 1 v S.length (S.map fun i : Nat => .int .i64 (i : Int)) ∧ Below w.heap.size w w' := by
  obtain ⟨D, hown, hs, hn, h1, h2⟩ := h.keys Tryz.underlying3
  have hbl := hown.lt
  have hseq : SeqGives Fence.wide 2 Tryz.prog 109 #[.pointer (some ⟨w.heap.size, 0, none⟩)] encZ (fun ss => ss.Perm (intKeys D)) (Maps.size D) (w.alloc (.cells #[.map (some b)] 127)) :=
    AnyZI.keys_gives (ρ := keysN_ren) { keysN with } Fence.wide _ trivial rfl (by omega) w.heap.size b cnt D _ (by simp) (by simp) (by
      obtain ⟨es, clock, hb, Ft, hs, hD⟩ := hown
      exact ⟨es, clock, (Below.heap_alloc _ _ b hbl).trans hb, Ft, hs, hD⟩)
  have cS := AnyZI.sorted_in sortedI Fence.wide 5 trivial trivial trivial trivial rfl (by omega) (sorts_int _) (enters_of Tryz.func106 (by kernel_rfl) rfl) 109 #[.pointer (some ⟨w.heap.size, 0, none⟩)] trivial (enters_of Tryz.func109 (by kernel_rfl) rfl) _ _ (by rw [hs]; simp only [maxLen]; omega) (by rw [hs]; omega) _ hseq
  change CallsIn _ _ Tryz.prog 65 _ _ _ at cS
  refine (callsIn_wide.1 cS).mono ?_
  rintro e w' ⟨v, ss, rfl, hS, hrow, -, hb⟩
  obtain ⟨S, e1, e2⟩ := keys_sorted hS hn h1 h2
  have hlen : S.length = ss.length := by
    have := congrArg List.length e1
    rw [List.length_map, List.length_mergeSort] at this
    omega
  refine ⟨v, S, rfl, e2, ?_, ((Below.refl _ w).alloc (Nat.le_refl _) _).trans (hb.mono (by simp))⟩
  have e3 : (ss.mergeSort (fun x y => decide (x ≤ y))).map encZ = S.map fun i : Nat => .int .i64 (i : Int) := by
    show (ss.mergeSort leI).map encZ = _
    rw [e1, List.map_map]; rfl
  rw [e3, ← hlen] at hrow
  exact ownsRow_base_a hrow (by simp)
end Go.Proofs.YtcahgmnkphmnhaaGreat
/- Package reach: Live, Dead, Sweep. -/
namespace Go.Proofs.YtcahgmnkphmnhaaGreat
open Go.RowKit Go.Maps Go.ChangeMaps

theorem pv_some (W : Ways) (k : Nat) : (pv W k).isSome = (W k).isSome := by unfold pv; cases W k <;> rfl
theorem keys_live {l : Bytes} (hg : Good l) {S : List Nat} (h : KeysOf (pv (fromW l)) S) : S = liveL l :=
  up_ext (A := S) (B := liveL l) h.up (liveL_up l) fun x => by
    have h1 := h.mem x
    have h2 := pv_some (fromW l) x
    have h3 := liveL_mem hg (x := x)
    rw [h2] at h1
    exact h1.trans h3.symm
section
variable {w0 w : World} {F : Nat → Prop} {h : Nat} {l : Bytes}
set_option maxRecDepth 100000 in
theorem live_any (hp : Hp w0 w F h l) (hg : Good l) :
    Calls Tryz.prog 30 #[.pointer (some ⟨h, 0, none⟩)] w fun e w' => ∃ v, e = .returned v ∧ w'.ownsRow w.heap.size 3 1 v (liveL l).length ((liveL l).flatMap ncell) ∧ Below w.heap.size w w' := by
  have HC := Hidden.mk (from_any hp hg)
  have HKL : Hidden (∀ S, KeysOf (pv (fromW l)) S → S = liveL l) := ⟨fun S h => keys_live hg h⟩
  generalize liveL l = LL at *
  generalize fromW l = W at *
  clear hp hg
  go_enter Tryz.func30, Tryz.ntmps30
  go_wp2_with fail
  refine HC.out.mono ?_
  rintro e w1 ⟨mb, rfl, hf⟩
  obtain ⟨cnt, him, hc⟩ := hf.im
  have HB := Hidden.mk hf.bel
  have HS := Hidden.mk (sortedN_call mb cnt (pv W) w1 him (by omega))
  clear hf him HC
  go_wp2_with fail
  refine (keysN_call mb w1).mono ?_
  rintro e w2 ⟨rfl, rfl⟩
  go_wp2_with fail
  refine HS.out.mono ?_
  rintro e w3 ⟨v, S, rfl, hS, hown, hb⟩
  have hSL := HKL.out S hS
  subst hSL
  have HF : Hidden (w3.ownsRow w.heap.size 3 1 v S.length (S.flatMap ncell) ∧ Below w.heap.size w w3) := ⟨by
    rw [ncell_map, List.map_map]; exact own_base hown HB.out.size, HB.out.trans (hb.mono HB.out.size)⟩
  clear hS hown hb HS
  go_wp2_with fail
  go_ret
  exact ⟨v, rfl, HF.out.1, HF.out.2⟩
set_option maxRecDepth 100000 in
theorem dead_any (hp : Hp w0 w F h l) (hg : Good l) :
    Calls Tryz.prog 31 #[.pointer (some ⟨h, 0, none⟩)] w fun e w' => ∃ v, e = .returned v ∧ w'.ownsRow w.heap.size 3 1 v (deadL l).length ((deadL l).flatMap ncell) ∧ Below w.heap.size w w' := by
  obtain ⟨i0', hi0, hz0, hz1, hz2⟩ := info_parts int_infoC
  have HI := Hidden.mk (And.intro hi0 (And.intro hz0 (And.intro hz1 hz2)))
  have HC := Hidden.mk (from_any hp hg)
  have HEN : Hidden (∀ e ∈ entriesL l, ∃ k : Nat, k < 40 ∧ e = ((k : Int) + 1, rawE l k)) := ⟨fun e he => by
    obtain ⟨k, h1, -, h2⟩ := entL_mem.1 he
    exact ⟨k, h1, h2⟩⟩
  have hle : (entriesL l).length ≤ 40 := entsL_len _ _ 40
  have HD : Hidden (deadL l = deadE l (entriesL l)) := ⟨rfl⟩
  generalize deadL l = DL at *
  clear hp hg hi0 hz0 hz1 hz2
  go_enter Tryz.func31, Tryz.ntmps31
  go_wp2_with fail
  refine HC.out.mono ?_
  rintro e w1 ⟨mb, rfl, hf⟩
  have HF1 := Hidden.mk hf
  have HEC := Hidden.mk (hentries_any hf.hp)
  generalize entriesL l = E at *
  clear hf HC
  go_wp2_with fail
  refine HEC.out.mono ?_
  rintro e w2 ⟨v, rfl, hown, hb2⟩
  obtain ⟨A1, c1, rfl, hc1, -⟩ := own_split hown
  have HR := Hidden.mk (own_rdX3 (f := ecells) (fun _ => rfl) rfl hown)
  have HF2 := Hidden.mk (HF1.out.below hb2)
  generalize hm : E.length = m at *
  have HM := Hidden.mk hm
  clear hown hb2 HEC HF1 hm
  go_wp2_with fail
  go_loopg [2, 13] m (fun q v i wr => ∃ k : Nat, k ≤ m ∧ q = m - k ∧ i = .int .i64 (k : Int) ∧ Hidden (Below w2.heap.size w2 wr ∧ wr.ownsRow w2.heap.size 3 1 v (deadE l (E.take k)).length ((deadE l (E.take k)).flatMap ncell)))
  case atStart => exact ⟨0, by omega, rfl, rfl, ⟨Below.refl _ _, World.ownsRow_nil _ _ _ _⟩⟩
  case round =>
    obtain ⟨k, hk, rfl, rfl, hst⟩ := hrel
    by_cases hlt : k < m
    · have hkE : k < E.length := by rw [HM.out]; exact hlt
      obtain ⟨p, off, rfl, hcx⟩ := (HR.out.below hst.out.1) k hkE
      have x0 := hcx 0 _ rfl
      have x1 := hcx 1 _ rfl
      have x2 := hcx 2 _ rfl
      have x3 := hcx 3 _ rfl
      rw [Nat.add_zero] at x0
      have HS := Hidden.mk (deadE_succ l E k hkE)
      obtain ⟨j, hj, hej⟩ := HEN.out E[k] (List.getElem_mem hkE)
      have hdl : (deadE l (E.take k)).length ≤ 40 := Nat.le_trans (deadE_len _ _) (by rw [List.length_take]; omega)
      rw [hej] at x0 x1 x2 x3 HS
      dsimp only at x0 x1 x2 x3 HS
      rw [show ((j : Int) + 1).toNat = j + 1 by omega] at HS
      generalize rAt (rawE l j) = e1 at *
      generalize rLen (rawE l j) = e2 at *
      generalize rTag (rawE l j) = e3 at *
      have i0 : (0 : Int) ≤ k := by omega
      have i1 : (k : Int) < m := by omega
      have s3 : IntKind.i64.wrap ((k : Int) + 1) = (k : Int) + 1 := IntWalk.i64_in _ (by omega)
      have hal : Below wr.heap.size wr (wr.alloc (.cells #[.int .i64 ((j : Int) + 1), .int .i64 e1, .int .i64 e2, .int .i64 e3] 97)) := (Below.refl _ _).alloc (Nat.le_refl _) _
      have hFW := (HF2.out.below hst.out.1).below hal
      obtain ⟨lk0, lk1⟩ := hFW.look (y := j + 1) (by omega)
      rw [show ((j + 1 : Nat) : Int) = (j : Int) + 1 from by omega] at lk0 lk1
      have HN := Hidden.mk (And.intro (hst.out.1.trans (hal.mono hst.out.1.size)) (own_below hst.out.2 hal))
      generalize hDe : deadE l (E.take k) = DE at *
      clear hcx hst hej hFW hDe
      cases hw : fromW l (j + 1) with
      | some pp =>
        have lk := (lk1 pp hw).1
        rw [hw] at HS
        have HSS : Hidden (deadE l (E.take (k + 1)) = DE) := ⟨by rw [HS.out]; simp⟩
        generalize (par pp : Int) = pz at *
        clear lk0 lk1 hw HS hal
        go_wp2_with fail
        go_roundg (m - (k + 1))
        case measure => omega
        case rel => exact ⟨k + 1, by omega, rfl, by go_num, ⟨by rw [HSS.out]; exact HN.out⟩⟩
      | none =>
        have lk := lk0 hw
        rw [hw] at HS
        have HSS : Hidden (deadE l (E.take (k + 1)) = DE ++ [j + 1]) := ⟨by rw [HS.out]; simp⟩
        obtain ⟨hi0, hz0, hz1, hz2⟩ := HI.out
        clear lk0 lk1 hw HS hal
        go_wp2_with (at_builtin; refine wpList_append_lies _ rfl (.tmp 26) (.tmp 29) _ rfl w2.heap.size 3 i0' _ 1 8 Tryz.underlying24 hi0 hz0 hz1 hz2 rfl (by decide) u2 DE.length (DE.flatMap ncell) rfl (own_below HN.out.2 ((Below.refl _ _).alloc (Nat.le_refl _) _)) ⟨wr.heap.size + 1, 0, none⟩ 1 1 [.int .i64 ((j : Int) + 1)] rfl rfl (World.news_of_block (cs := #[.int .i64 ((j : Int) + 1)]) (t := 3) (fr := (0, 0)) (by have hq_ := heap_alloc_new ((wr.alloc (.cells #[.int .i64 ((j : Int) + 1), .int .i64 e1, .int .i64 e2, .int .i64 e3] 97))) (.cells #[.int .i64 ((j : Int) + 1)] 3); rwa [World.size_alloc] at hq_)) (by simp [Value.oneCell']) (by omega) (by simp only [maxLen]; omega) (by omega) (by have hz_ := HN.out.1.size; rw [World.size_alloc]; omega) (wr.heap.size + 1 + 1) (by simp) ?_; intro g8 cap8 w8 hown8 hg8 hat8 hlt8)
        have hgW := grown_trans' ((Below.refl (wr.alloc (.cells #[.int .i64 ((j : Int) + 1), .int .i64 e1, .int .i64 e2, .int .i64 e3] 97)).heap.size (wr.alloc (.cells #[.int .i64 ((j : Int) + 1), .int .i64 e1, .int .i64 e2, .int .i64 e3] 97))).alloc (Nat.le_refl _) _) hg8
        have hB8 : Below w2.heap.size w2 w8 := HN.out.1.grown hgW HN.out.1.size (fun q hq => (HN.out.2.lt q hq).1)
        have HF : Hidden (Below w2.heap.size w2 w8 ∧ w8.ownsRow w2.heap.size 3 1 (.slice (some ⟨g8, 0, none⟩) (DE.length + 1) cap8) (DE ++ [j + 1]).length ((DE ++ [j + 1]).flatMap ncell)) := ⟨hB8, by
          rw [List.length_append, List.flatMap_append]
          simpa [ncell] using hown8⟩
        clear hgW hB8 hown8 hg8 hat8 hlt8 hi0 hz0 hz1 hz2
        go_roundg (m - (k + 1))
        case measure => omega
        case rel => exact ⟨k + 1, by omega, rfl, by go_num, ⟨by rw [HSS.out]; exact HF.out⟩⟩
    · obtain rfl : m = k := by omega
      have hT := hst.out.2
      rw [List.take_of_length_le (by rw [HM.out]; exact Nat.le_refl _), ← HD.out] at hT
      have HF : Hidden (wr.ownsRow w.heap.size 3 1 u2 DL.length (DL.flatMap ncell) ∧ Below w.heap.size w wr) := ⟨own_base hT HF2.out.bel.size, HF2.out.bel.trans (hst.out.1.mono HF2.out.bel.size)⟩
      clear hT hst HD
      go_wp2_with fail
      go_ret
      exact ⟨_, rfl, HF.out.1, HF.out.2⟩
set_option maxRecDepth 100000 in
theorem sweep_any (hp : Hp w0 w F h l) (hg : Good l) :
    Calls Tryz.prog 28 #[.pointer (some ⟨h, 0, none⟩)] w fun e w' => e = .returned (.tuple #[.int .i64 ((deadL l).length : Int), .nilIface]) ∧ ∃ F', HpM w0 w w' F F' h (sweepL l) := by
  have HC := Hidden.mk (dead_any hp hg)
  have HP := Hidden.mk hp
  have HG := Hidden.mk hg
  have hle : (deadL l).length ≤ 40 := Nat.le_trans (deadE_len _ _) (entsL_len _ _ 40)
  have HSF : Hidden (∀ i (hi : i < (deadL l).length), freeE (sweepT l ((deadL l).take i)) ((deadL l)[i] : Int) = 0) := ⟨fun i hi => sweep_free HG.out hi⟩
  have HSS : Hidden (∀ i (hi : i < (deadL l).length), sweepT l ((deadL l).take (i + 1)) = freeL (sweepT l ((deadL l).take i)) ((deadL l)[i] : Int)) := ⟨fun i hi => sweepT_succ l _ i hi⟩
  have HSW : Hidden (sweepL l = sweepT l (deadL l)) := ⟨rfl⟩
  generalize deadL l = D at *
  clear hp hg
  go_enter Tryz.func28, Tryz.ntmps28
  go_wp2_with fail
  refine HC.out.mono ?_
  rintro e w1 ⟨v, rfl, hown, hb1⟩
  obtain ⟨A1, c1, rfl, hc1, -⟩ := own_split hown
  have HO := Hidden.mk hown
  have HP1 := Hidden.mk (HP.out.same hb1)
  have HNF : Hidden (∀ q, (Value.slice A1 D.length c1).ownBlock = some q → ¬ F q) := ⟨fun q hq hf => by
    have := (hown.lt q hq).1; have := HP.out.flt q hf; omega⟩
  clear hown hb1 HC HP
  go_wp2_with fail
  go_loopg [12] D.length (fun q i wr => ∃ (k : Nat) (F' : Nat → Prop), k ≤ D.length ∧ q = D.length - k ∧ i = .int .i64 (k : Int) ∧ Hidden (HpM w0 w1 wr F F' h (sweepT l (D.take k))))
  case atStart => exact ⟨0, F, by omega, rfl, rfl, ⟨HP1.out.hp.same (Below.refl _ _)⟩⟩
  case round =>
    obtain ⟨k, F', hk, rfl, rfl, hst⟩ := hrel
    by_cases hlt : k < D.length
    · have hkD : k < D.length := hlt
      have hown := ownsRow_block HO.out (w' := wr) fun q hq => hst.out.kp.block q (HO.out.lt q hq).2 (HNF.out q hq)
      obtain ⟨pb, ob, rfl, hcx⟩ := (own_rdX3 (f := ncell) (fun _ => rfl) rfl hown) k hkD
      have x0 : wr.cell? ⟨pb, ob + k, none⟩ = some (.int .i64 (D[k] : Int)) := by simpa using hcx 0 _ rfl
      have HFR := Hidden.mk (hfree_any (D[k] : Int) hst.out.hp)
      rw [HSF.out k hkD, ← HSS.out k hkD, show errV 0 = Value.nilIface from rfl] at HFR
      have HST := Hidden.mk hst.out
      generalize D[k] = q0 at *
      have i0 : (0 : Int) ≤ k := by omega
      have i1 : (k : Int) < D.length := by omega
      have s3 : IntKind.i64.wrap ((k : Int) + 1) = (k : Int) + 1 := IntWalk.i64_in _ (by omega)
      clear hcx hst hown
      go_wp2_with fail
      refine HFR.out.mono ?_
      rintro e w5 ⟨rfl, F5, hm5⟩
      have HM5 := Hidden.mk (HST.out.trans hm5)
      clear hm5 HFR
      go_wp2_with fail
      go_roundg (D.length - (k + 1))
      case measure => omega
      case rel => exact ⟨k + 1, F5, by omega, rfl, by go_num, HM5⟩
    · obtain rfl : k = D.length := by omega
      have hT := hst.out
      rw [List.take_length, ← HSW.out] at hT
      have HF := Hidden.mk (HP1.out.trans hT)
      clear hT hst
      go_wp2_with fail
      go_ret2
      exact ⟨rfl, _, HF.out⟩
end
end Go.Proofs.YtcahgmnkphmnhaaGreat
/- Package reach: Path. -/
namespace Go.Proofs.YtcahgmnkphmnhaaGreat
open Go.RowKit Go.Maps Go.ChangeMaps

/-- each beginning of a way is the way to its last one -/
theorem WOk.pre {l : Bytes} {W : Ways} {D : List Nat} (h : WOk l W D) : ∀ (n : Nat) (y : Nat) (p : List Nat), p.length ≤ n → W y = some p → ∀ i (hi : i < p.length), W p[i] = some (p.take (i + 1))
  | 0, _, p, hn, _, i, hi => by omega
  | n + 1, y, p, hn, hp, i, hi => by
    obtain ⟨q, e, h1⟩ := h.ways y p hp
    subst e
    by_cases hl : i = q.length
    · subst hl
      rw [List.getElem_append_right (Nat.le_refl _)]
      simp only [Nat.sub_self, List.getElem_singleton]
      rw [hp, List.take_of_length_le (by simp)]
    · have hiq : i < q.length := by simp at hi; omega
      rcases h1 with ⟨rfl, -⟩ | ⟨x, h2, -⟩
      · simp at hiq
      · rw [List.getElem_append_left hiq, List.take_append_of_le_length (by omega)]
        exact WOk.pre h n x q (by simp at hn; omega) h2 i hiq
theorem par_take (p : List Nat) (i : Nat) (hi : i + 1 < p.length) : par (p.take (i + 2)) = p[i] := by
  have e : p.take (i + 2) = p.take i ++ [p[i], p[i + 1]] := by
    rw [List.take_succ_eq_append_getElem hi, List.take_succ_eq_append_getElem (by omega), List.append_assoc]; rfl
  rw [e]; exact par_two _ _ _
theorem par_take0 (p : List Nat) (h : 0 < p.length) : par (p.take 1) = p[0] := by
  have e : p.take 1 = [p[0]] := by
    rw [show (1 : Nat) = 0 + 1 from rfl, List.take_succ_eq_append_getElem h]; rfl
  rw [e]; rfl
theorem WOk.ne {l : Bytes} {W : Ways} {D : List Nat} (h : WOk l W D) {y : Nat} {p : List Nat} (hp : W y = some p) {i : Nat} (hi : i + 1 < p.length) : p[i] ≠ p[i + 1] := fun e => by
  have h1 := h.pre _ y p (Nat.le_refl _) hp i (by omega)
  have h2 := h.pre _ y p (Nat.le_refl _) hp (i + 1) hi
  rw [e, h2] at h1
  have := congrArg List.length (Option.some.inj h1)
  simp at this; omega
theorem own_one (w : World) (x : Value) : (w.alloc (.cells #[x] 3)).ownsRow w.heap.size 3 1 (.slice (some ⟨w.heap.size, 0, none⟩) 1 1) 1 [x] :=
  ⟨rfl, .inr ⟨w.heap.size, 1, #[x], rfl, Nat.le_refl _, heap_alloc_new w _, Nat.le_refl _, by simp [maxLen], rfl, rfl⟩⟩
section
variable {w0 w : World} {F : Nat → Prop} {h : Nat} {l : Bytes}
set_option maxRecDepth 100000 in
theorem path_no (x : Int) (hp : Hp w0 w F h l) (h0 : hE l x ≠ 0) :
    Calls Tryz.prog 34 #[.pointer (some ⟨h, 0, none⟩), .int .i64 x] w fun e w' => e = .returned (.tuple #[.slice none 0 0, errV (hE l x)]) ∧ Below w.heap.size w w' := by
  have HT := Hidden.mk (htag_any x hp)
  obtain ⟨ec, hec⟩ : ∃ ec, hE l x = ec + 1 := ⟨hE l x - 1, by omega⟩
  rw [hec, show errV (ec + 1) = .iface 88 (.int .i64 ((ec + 1 : Nat) : Int)) from rfl] at HT ⊢
  generalize gT l x = tg at *
  generalize ((ec + 1 : Nat) : Int) = ei at *
  clear hp h0 hec
  go_enter Tryz.func34, Tryz.ntmps34
  go_wp2_with fail
  refine HT.out.mono ?_
  rintro e w1 ⟨rfl, hb1⟩
  have HB := Hidden.mk hb1
  clear hb1 HT
  go_wp2_with fail
  go_ret2
  exact ⟨rfl, HB.out⟩
set_option maxRecDepth 100000 in
theorem path_none (x : Nat) (hp : Hp w0 w F h l) (hg : Good l) (h0 : hE l (x : Int) = 0) (hw : fromW l x = none) :
    Calls Tryz.prog 34 #[.pointer (some ⟨h, 0, none⟩), .int .i64 (x : Int)] w fun e w' => e = .returned (.tuple #[.slice none 0 0, errV 5]) ∧ Below w.heap.size w w' := by
  have HT := Hidden.mk (htag_any (x : Int) hp)
  rw [h0, show errV 0 = Value.nilIface from rfl] at HT
  have hx := hE_nat h0
  have HC : Hidden (∀ W, Below w.heap.size w W → Calls Tryz.prog 71 #[.pointer (some ⟨h, 0, none⟩)] W fun e w' => ∃ mb, e = .returned (.map (some mb)) ∧ FrSt w0 W w' F h mb l (fromW l)) := ⟨fun W hW => from_any (hp.below hW) hg⟩
  have HLK : Hidden (∀ W w' mb, FrSt w0 W w' F h mb l (fromW l) → (Instr.lookup 127 (.map (some mb)) (.int .i64 (x : Int)) true).run Tryz.prog w' = .ok (.tuple #[.int .i64 0, .bool false]) w') := ⟨fun W w' mb hf => (hf.look (y := x) (by omega)).1 hw⟩
  generalize gT l (x : Int) = tg at *
  clear hp h0 hg hw hx
  go_enter Tryz.func34, Tryz.ntmps34
  go_wp2_with fail
  refine HT.out.mono ?_
  rintro e w1 ⟨rfl, hb1⟩
  have HB := Hidden.mk hb1
  clear hb1 HT
  go_wp2_with fail
  refine (HC.out w1 HB.out).mono ?_
  rintro e w2 ⟨mb, rfl, hf⟩
  have lk := HLK.out _ _ _ hf
  have HB2 := Hidden.mk (HB.out.trans (hf.bel.mono HB.out.size))
  clear hf HC HLK HB
  go_wp2_with fail
  go_ret2
  exact ⟨rfl, HB2.out⟩
set_option maxRecDepth 100000 in
theorem path_ok (x : Nat) (p : List Nat) (hp : Hp w0 w F h l) (hg : Good l) (hw : fromW l x = some p) :
    Calls Tryz.prog 34 #[.pointer (some ⟨h, 0, none⟩), .int .i64 (x : Int)] w fun e w' => ∃ v, e = .returned (.tuple #[v, .nilIface]) ∧ w'.ownsRow w.heap.size 3 1 v p.length (p.flatMap ncell) ∧ Below w.heap.size w w' := by
  obtain ⟨i0', hi0, hz0, hz1, hz2⟩ := info_parts int_infoC
  have HI := Hidden.mk (And.intro hi0 (And.intro hz0 (And.intro hz1 hz2)))
  have h0 : hE l (x : Int) = 0 := way_hE hg (by rw [hw]; rfl)
  have HT := Hidden.mk (htag_any (x : Int) hp)
  rw [h0, show errV 0 = Value.nilIface from rfl] at HT
  have hx := hE_nat h0
  obtain ⟨D, hD, -⟩ := fromW_ok hg
  have hfrom : ∀ W, Below w.heap.size w W → Calls Tryz.prog 71 #[.pointer (some ⟨h, 0, none⟩)] W fun e w' => ∃ mb, e = .returned (.map (some mb)) ∧ FrSt w0 W w' F h mb l (fromW l) := fun W hW => from_any (hp.below hW) hg
  generalize fromW l = WW at *
  have hplast : ∃ q, p = q ++ [x] := by
    obtain ⟨q, e, -⟩ := hD.ways x p hw
    exact ⟨q, e⟩
  have hpl : 1 ≤ p.length ∧ p.length ≤ 40 := by
    obtain ⟨q, e⟩ := hplast
    refine ⟨by rw [e]; simp, ?_⟩
    have hnd : p.Nodup := by
      refine List.pairwise_iff_getElem.2 fun i j hi hj hij e' => ?_
      have h1 := hD.pre _ x p (Nat.le_refl _) hw i hi
      have h2 := hD.pre _ x p (Nat.le_refl _) hw j hj
      rw [e', h2] at h1
      have := congrArg List.length (Option.some.inj h1)
      simp at this; omega
    refine nodup_le1 hnd fun k hk => ?_
    obtain ⟨i, hi, rfl⟩ := List.getElem_of_mem hk
    exact hE_nat (hD.dh _ ((hD.dk _).1 (by rw [hD.pre _ x p (Nat.le_refl _) hw i hi]; rfl)))
  have HC : Hidden (∀ W, Below w.heap.size w W → Calls Tryz.prog 71 #[.pointer (some ⟨h, 0, none⟩)] W fun e w' => ∃ mb, e = .returned (.map (some mb)) ∧ FrSt w0 W w' F h mb l WW) := ⟨hfrom⟩
  have HLK : Hidden (∀ W w' mb, FrSt w0 W w' F h mb l WW → (Instr.lookup 127 (.map (some mb)) (.int .i64 (x : Int)) true).run Tryz.prog w' = .ok (.tuple #[.int .i64 (par p : Int), .bool true]) w') := ⟨fun W w' mb hf => ((hf.look (y := x) (by omega)).2 p hw).1⟩
  have HLI : Hidden (∀ W w' mb, FrSt w0 W w' F h mb l WW → ∀ i (hi : i < p.length), (Instr.lookup 127 (.map (some mb)) (.int .i64 (p[i] : Int)) false).run Tryz.prog w' = .ok (.int .i64 ((if i = 0 then p[i] else p[i - 1] : Nat) : Int)) w') := ⟨fun W w' mb hf i hi => by
    have hwi := hD.pre _ x p (Nat.le_refl _) hw i hi
    have h41 := hD.lt41 (k := p[i]) (by rw [hwi]; rfl)
    have := ((hf.look (y := p[i]) h41).2 _ hwi).2
    rw [this]
    congr 3
    by_cases e : i = 0
    · subst e; rw [if_pos rfl]; exact congrArg Nat.cast (par_take0 p hi)
    · rw [if_neg e]
      obtain ⟨j, rfl⟩ : ∃ j, i = j + 1 := ⟨i - 1, by omega⟩
      exact congrArg Nat.cast (par_take p j hi)⟩
  have HNE : Hidden (∀ i (hi : i + 1 < p.length), p[i] ≠ p[i + 1]) := ⟨fun i hi => hD.ne hw hi⟩
  have HXL : Hidden (∀ hi : p.length - 1 < p.length, x = p[p.length - 1]) := ⟨fun hi => by
    obtain ⟨q, e⟩ := hplast
    subst e
    simp⟩
  generalize gT l (x : Int) = tg at *
  clear hp h0 hg hw hx hD hfrom hi0 hz0 hz1 hz2 hplast
  go_enter Tryz.func34, Tryz.ntmps34
  go_wp2_with fail
  refine HT.out.mono ?_
  rintro e w1 ⟨rfl, hb1⟩
  have HB := Hidden.mk hb1
  clear hb1 HT
  go_wp2_with fail
  refine (HC.out w1 HB.out).mono ?_
  rintro e w2 ⟨mb, rfl, hf⟩
  have lk := HLK.out _ _ _ hf
  have HF2 := Hidden.mk hf
  have HO2 := Hidden.mk (own_one w2 (.int .i64 (x : Int)))
  have HBA := Hidden.mk ((Below.refl w2.heap.size w2).alloc (Nat.le_refl _) (.cells #[.int .i64 (x : Int)] 3))
  generalize (par p : Int) = pz at *
  clear hf HC HLK
  go_wp2_with fail
  generalize w2.alloc (.cells #[.int .i64 (x : Int)] 3) = w3 at *
  clear lk
  go_loopg [1, 11] (p.length - 1) (fun q x' v wr => ∃ (i : Nat) (hi : i < p.length), q = i ∧ x' = .int .i64 (p[i] : Int) ∧ Hidden (Below w2.heap.size w2 wr ∧ wr.ownsRow w2.heap.size 3 1 v (p.length - i) ((p.drop i).reverse.flatMap ncell)))
  case atStart =>
    refine ⟨p.length - 1, by omega, rfl, by rw [← HXL.out (by omega)], ⟨HBA.out, ?_⟩⟩
    have e : p.drop (p.length - 1) = [x] := by
      rw [List.drop_eq_getElem_cons (by omega), HXL.out (by omega), List.drop_of_length_le (by omega)]
    rw [e, show p.length - (p.length - 1) = 1 by omega]
    exact HO2.out
  case round =>
    obtain ⟨i, hi, hqi, rfl, hst⟩ := hrel
    obtain rfl : i = _ := hqi.symm
    have hFW := HF2.out.below hst.out.1
    have lki := HLI.out _ _ _ hFW i hi
    obtain ⟨A4, c4, rfl, hc4, -⟩ := own_split hst.out.2
    by_cases h0 : i = 0
    · subst h0
      rw [if_pos rfl] at lki
      have hown := hst.out.2
      rw [List.drop_zero, Nat.sub_zero] at hown
      obtain ⟨g, hA⟩ : ∃ g, A4 = some ⟨g, 0, none⟩ := by
        rcases hown.2 with ⟨he, hz⟩ | ⟨g, cap, cur, he, -⟩
        · omega
        · injection he with he; exact ⟨g, he⟩
      subst hA
      have HRV := Hidden.mk (reverseNat_any w2.heap.size g p.length c4 p.reverse wr (by simp) (by omega) hown)
      rw [List.reverse_reverse] at HRV
      have HST := Hidden.mk hst.out
      have hself : ((p[0] : Int) != (p[0] : Int)) = false := by simp
      have hself2 : ((p[0] : Int) == (p[0] : Int)) = true := by simp
      generalize (p[0] : Int) = p0 at *
      clear hst hown hFW
      go_wp2_with fail
      refine HRV.out.mono ?_
      rintro e w5 ⟨rfl, hown5, hg5⟩
      have hlo : w2.heap.size ≤ g := (HST.out.2.lt g rfl).1
      have HF : Hidden (w5.ownsRow w.heap.size 3 1 (.slice (some ⟨g, 0, none⟩) p.length c4) p.length (p.flatMap ncell) ∧ Below w.heap.size w w5) := ⟨own_base hown5 (Nat.le_trans HB.out.size HF2.out.bel.size), (HB.out.trans (HF2.out.bel.mono HB.out.size)).trans ((HST.out.1.grown hg5 HST.out.1.size (fun q hq => by rw [← Option.some.inj hq]; exact hlo)).mono (Nat.le_trans HB.out.size HF2.out.bel.size))⟩
      clear hown5 hg5 HRV HST hlo
      go_wp2_with fail
      go_ret2
      exact ⟨_, rfl, HF.out.1, HF.out.2⟩
    · obtain ⟨j, rfl⟩ : ∃ j, i = j + 1 := ⟨i - 1, by omega⟩
      rw [if_neg h0] at lki
      simp only [Nat.add_sub_cancel] at lki
      have hne := HNE.out j hi
      have HS : Hidden ((p.drop j).reverse = (p.drop (j + 1)).reverse ++ [p[j]]) := ⟨by rw [List.drop_eq_getElem_cons (show j < p.length by omega), List.reverse_cons]⟩
      have hd : ((p[j] : Int) != (p[j + 1] : Int)) = true := by simp; omega
      have hd2 : ((p[j] : Int) == (p[j + 1] : Int)) = false := by simp; omega
      have HST := Hidden.mk hst.out
      have HPJ : Hidden ((p[j] : Int) = p[j]) := ⟨rfl⟩
      generalize hpj : p[j] = pj at *
      generalize p[j + 1] = pk at *
      obtain ⟨hi0, hz0, hz1, hz2⟩ := HI.out
      clear hst hFW h0 hne
      go_wp2_with (at_builtin; refine wpList_append_lies _ rfl (.tmp 42) (.tmp 44) _ rfl w2.heap.size 3 i0' _ 1 8 Tryz.underlying24 hi0 hz0 hz1 hz2 rfl (by decide) (.slice A4 (p.length - (j + 1)) c4) (p.length - (j + 1)) ((p.drop (j + 1)).reverse.flatMap ncell) rfl (own_below HST.out.2 ((Below.refl _ _).alloc (Nat.le_refl _) _)) ⟨(wr).heap.size, 0, none⟩ 1 1 [.int .i64 (pj : Int)] rfl rfl (World.news_of_block (cs := #[.int .i64 (pj : Int)]) (t := 3) (fr := (0, 0)) (heap_alloc_new (wr) _)) (by simp [Value.oneCell']) (by omega) (by simp only [maxLen]; omega) (by omega) (by have hz_ := HST.out.1.size; rw [World.size_alloc]; omega) ((wr).heap.size + 1) (by simp) ?_; intro g8 cap8 w8 hown8 hg8 hat8 hlt8)
      have hgW := grown_trans' ((Below.refl wr.heap.size wr).alloc (Nat.le_refl _) _) hg8
      have hB8 : Below w2.heap.size w2 w8 := HST.out.1.grown hgW HST.out.1.size (fun q hq => (HST.out.2.lt q hq).1)
      have HF : Hidden (Below w2.heap.size w2 w8 ∧ w8.ownsRow w2.heap.size 3 1 (.slice (some ⟨g8, 0, none⟩) (p.length - (j + 1) + 1) cap8) (p.length - j) ((p.drop j).reverse.flatMap ncell)) := ⟨hB8, by
        rw [HS.out, List.flatMap_append, show p.length - j = p.length - (j + 1) + 1 by omega]
        simpa [ncell] using hown8⟩
      clear hgW hB8 hown8 hg8 hat8 hlt8 hi0 hz0 hz1 hz2
      go_roundg j
      case measure => omega
      case rel => exact ⟨j, by omega, rfl, by rw [hpj], HF⟩
end
end Go.Proofs.YtcahgmnkphmnhaaGreat
/- ReachHolds: the plain law. -/
namespace Go.Proofs.YtcahgmnkphmnhaaGreat
open Go.RowKit

/-- an object allocated where the first handle is free -/
theorem alloc_at {l : Bytes} (hg : Good l) {k n t : Nat} (hk : k < 40) (hhas : ∀ j, j < 40 → hasE (rawE l j) = decide (j < k)) (hn : 1 ≤ n ∧ n ≤ 1000) (ht : t ≤ 15) (hfit : fitE ((l.length : Int) - 288) (takenL l) (n : Int) = 0) :
    allocE l n t = 0 ∧ allocH l n t = (k : Int) + 1 ∧ ∃ a, AllocIs l (allocL l n t) k a n t := by
  have hfh : fH l 40 = k + 1 := fH_first k hk (fun j hj => by rw [hhas j (by omega)]; exact decide_eq_true hj) (by rw [hhas k hk]; exact decide_eq_false (by omega))
  have hl : lenB (n : Int) = true := lenB_true.2 (by omega)
  have htg : tagB (t : Int) = true := by unfold tagB; simp; omega
  have he : allocE l n t = 0 := by
    unfold allocE
    rw [if_neg (by rw [hl, htg]; simp), if_neg (by rw [hfh, hfit]; simp)]
  obtain ⟨k', a, n', t', hn', ht', hH, -, hi⟩ := alloc_is hg he
  have hkk : k' = k := by
    have h1 := hi.none
    rw [hhas k' hi.k40] at h1
    have h1' := of_decide_eq_false h1
    refine Classical.byContradiction fun hne => ?_
    have h2 := hi.least k (by omega)
    rw [hhas k hk, decide_eq_false (by omega)] at h2; cases h2
  subst hkk
  obtain rfl : n' = n := by omega
  obtain rfl : t' = t := by omega
  exact ⟨he, hH, a, hi⟩
/-- the first root set in an image that has none -/
theorem root_first {l : Bytes} (hg : Good l) (hz : ∀ i, i < 8 → zeroE (rawR l i) = true) (hh1 : hE l 1 = 0) :
    setE l [97] 1 = 0 ∧ Good (setL l [97] 1) ∧ rootsH (setL l [97] 1) = [1] ∧ (∀ j, j < 40 → rawE (setL l [97] 1) j = rawE l j) ∧ (∀ j, j < 40 → objT (setL l [97] 1) j = objT l j ∧ objS (setL l [97] 1) j = objS l j) := by
  obtain ⟨p1, p2⟩ := placeF_spec l [97] 8 (Nat.le_refl _)
  have q1 : (placeF l [97] 8).1 = -1 := by
    rcases p1 with ⟨p1, -⟩ | ⟨i, -, h8, -, hz', -⟩
    · exact p1
    · rw [hz i h8] at hz'; cases hz'
  have q2 : (placeF l [97] 8).2 = 0 := by
    rcases p2 with ⟨-, p2⟩ | ⟨i, -, h8, e, -, hq⟩
    · have := p2 0 (by omega) (by omega); rw [hz 0 (by omega)] at this; cases this
    · by_cases hi : i = 0
      · subst hi; exact e
      · have := hq 0 (by omega) (by omega); rw [hz 0 (by omega)] at this; cases this
  have hsa : setAt l [97] = 0 := by unfold setAt; rw [q1, q2]; rfl
  have hse : setE l [97] 1 = 0 := by
    unfold setE
    rw [if_neg (by decide), if_neg (by rw [hh1]; simp), hsa]; rfl
  have hs := setE_is hg hse
  obtain ⟨i, hp⟩ := hs.puts
  have hents : ∀ j, j < 40 → rawE (setL l [97] 1) j = rawE l j := fun j hj => hp.ents hg.bd.1 j hj
  refine ⟨hse, hs.good, ?_, hents, fun j hj => ?_⟩
  · have hc := hs.count
    have hno : rootsL l = [] := List.eq_nil_iff_forall_not_mem.2 fun x hx => by
      obtain ⟨i, h8, hz', -⟩ := rootsL_mem.1 hx
      rw [hz i h8] at hz'; cases hz'
    rw [hno, q1] at hc
    simp only [List.length_nil, if_pos (show (-1 : Int) < 0 by decide)] at hc
    obtain ⟨r, hr1, hr2⟩ := hs.own
    unfold rootsH
    match hL : rootsL (setL l [97] 1), hc with
    | [r'], _ =>
      rw [hL] at hr1
      obtain rfl := List.mem_singleton.1 hr1
      show [r.2] = [1]
      congr 1; omega
  · refine obj_congr (hents j hj) fun hh => ?_
    have hst := strayE_false (hg.s.fit j hj hh)
    have hb := hg.bd
    rw [hp.eq]
    exact cut_splice _ _ _ _ _ (by have := hp.i8; have := hp.x11; omega) (.inr (by have := hp.i8; have := hp.x11; omega))
theorem AllocIs.has {l l' : Bytes} {k a n t : Nat} (h : AllocIs l l' k a n t) (hb : l.length ≤ 6400) (hhas : ∀ j, j < 40 → hasE (rawE l j) = decide (j < k)) : ∀ j, j < 40 → hasE (rawE l' j) = decide (j < k + 1) := fun j hj => by
  by_cases e : j = k
  · subst e; rw [(h.ent hb).1]; exact (decide_eq_true (by omega)).symm
  · rw [h.ents j hj, if_neg e, hhas j hj]
    by_cases hjk : j < k
    · rw [decide_eq_true hjk, decide_eq_true (by omega)]
    · rw [decide_eq_false hjk, decide_eq_false (by omega)]
theorem AllocIs.objs {l l' : Bytes} {k a n t : Nat} (h : AllocIs l l' k a n t) (hg : Good l) : objT l' k = t ∧ objS l' k = List.replicate n 0 := by
  obtain ⟨e1, e2, e3, e4⟩ := h.ent hg.bd.2
  obtain ⟨r1, r2⟩ := h.read hg
  have hd := h.hd hg
  refine ⟨by unfold objT; rw [if_pos e1, e4], ?_⟩
  unfold objS
  rw [if_pos e1, e2, e3]
  unfold readL at r2
  rw [if_pos r1, hd.2.1] at r2
  simpa using r2
theorem holds_start : ∃ l1 l2 l3 l4 : Bytes, allocL (List.replicate 320 0) 2 1 = l1 ∧ allocE (List.replicate 320 0) 2 1 = 0 ∧ allocH (List.replicate 320 0) 2 1 = 1 ∧ allocL l1 2 0 = l2 ∧ allocE l1 2 0 = 0 ∧ allocH l1 2 0 = 2 ∧
    someE l2 1 0 1 = 0 ∧ writeL l2 1 0 [2] = l3 ∧ setE l3 [97] 1 = 0 ∧ setL l3 [97] 1 = l4 ∧ Good l2 ∧ Good l3 ∧ Good l4 ∧ (liveL l4).length = 2 := by
  have hg0 : Good (List.replicate 320 0) := good_zero' rfl
  have hhas0 : ∀ j, j < 40 → hasE (rawE (List.replicate 320 (0 : UInt8)) j) = decide (j < 0) := fun j hj => by unfold rawE; rw [zeros_cut 320 _ _ (by omega)]; rfl
  have hf0 : fitE (((List.replicate 320 (0 : UInt8)).length : Int) - 288) (takenL (List.replicate 320 0)) ((2 : Nat) : Int) = 0 := fit_exists (p := 0) (good_chk hg0) (by omega) (by omega) (by rw [List.length_replicate]; omega) fun e he => by
    obtain ⟨j, h1, h2, -⟩ := takenL_mem.1 he
    rw [hhas0 j h1] at h2; simp at h2
  obtain ⟨a1, a2, a, hi1⟩ := alloc_at hg0 (k := 0) (n := 2) (t := 1) (by omega) hhas0 (by omega) (by omega) hf0
  have hg1 := hi1.good hg0
  have hhas1 := hi1.has hg0.bd.2 hhas0
  have hl1 := hi1.len
  rw [List.length_replicate] at hl1
  have ho1 := hi1.objs hg0
  have he1 := hi1.ent hg0.bd.2
  have hz1 : ∀ i, i < 8 → zeroE (rawR (allocL (List.replicate 320 0) ((2 : Nat) : Int) ((1 : Nat) : Int)) i) = true := fun i hi => by
    rw [hi1.rots i hi]; unfold rawR; rw [zeros_cut 320 _ _ (by omega)]; rfl
  rw [show (((2 : Nat) : Int)) = 2 from rfl, show (((1 : Nat) : Int)) = 1 from rfl] at *
  generalize hL1 : allocL (List.replicate 320 0) 2 1 = l1 at *
  have hf1 : fitE ((l1.length : Int) - 288) (takenL l1) ((2 : Nat) : Int) = 0 := by
    have hs := strayE_false (hg1.s.fit 0 (by omega) he1.1)
    refine fit_exists (p := if rAt (rawE l1 0) < 290 then 4 else 0) (good_chk hg1) (by split <;> omega) (by omega) (by rw [hl1]; split <;> omega) fun e he => ?_
    obtain ⟨j, h1, h2, rfl⟩ := takenL_mem.1 he
    rw [hhas1 j h1] at h2
    have hj := of_decide_eq_true h2
    obtain rfl : j = 0 := by omega
    dsimp only
    rw [he1.2.2.1]
    have := he1.2.1
    split <;> omega
  obtain ⟨b1, b2, a', hi2⟩ := alloc_at hg1 (k := 1) (n := 2) (t := 0) (by omega) hhas1 (by omega) (by omega) hf1
  have hg2 := hi2.good hg1
  have hhas2 := hi2.has hg1.bd.2 hhas1
  have ho2 := hi2.objs hg1
  have hk2 := hi2.keep hg1 (j := 0) (by omega) (by omega)
  have he2 := hi2.ents 0 (by omega)
  rw [if_neg (by omega)] at he2
  have hz2 : ∀ i, i < 8 → zeroE (rawR (allocL l1 ((2 : Nat) : Int) ((0 : Nat) : Int)) i) = true := fun i hi => by rw [hi2.rots i hi]; exact hz1 i hi
  rw [show (((2 : Nat) : Int)) = 2 from rfl, show (((0 : Nat) : Int)) = 0 from rfl] at *
  generalize hL2 : allocL l1 2 0 = l2 at *
  obtain ⟨w1, w2, w3, w4, w5, w6⟩ := write_two hg2 (k := 0) (by omega) (by rw [hhas2 0 (by omega)]; rfl) (by rw [he2]; exact he1.2.2.1) 0 0 2 (hk2.2.trans ho1.2)
  have hg3 := write_good hg2 ((0 : Nat) + 1 : Int) 0 [2]
  rw [show (((0 : Nat) : Int) + 1) = 1 from rfl] at *
  generalize hL3 : writeL l2 1 0 [2] = l3 at *
  have hhas3 : ∀ j, j < 40 → hasE (rawE l3 j) = decide (j < 2) := fun j hj => by rw [w2 j hj]; exact hhas2 j hj
  have hh1 : hE l3 1 = 0 := (hE_has (k := 0) (by omega) (by rw [hhas3 0 (by omega)]; rfl)).1
  obtain ⟨r1, r2, r3, r4, r5⟩ := root_first hg3 (fun i hi => by rw [w3 i hi]; exact hz2 i hi) hh1
  generalize hL4 : setL l3 [97] 1 = l4 at *
  have hhas4 : ∀ j, j < 40 → hasE (rawE l4 j) = decide (j < 2) := fun j hj => by rw [r4 j hj]; exact hhas3 j hj
  have hh2 : hE l4 2 = 0 := (hE_has (k := 1) (by omega) (by rw [hhas4 1 (by omega)]; rfl)).1
  have href : refsL l4 1 = [2] := by
    have := refs_first r2 (k := 0) (by omega) (by rw [hhas4 0 (by omega)]; rfl) (((r5 0 (by omega)).1.trans w4).trans (hk2.1.trans ho1.1)) ((r5 0 (by omega)).2.trans w5)
    rw [show (((0 : Nat) : Int) + 1) = 1 from rfl, show (((2 : UInt8).toNat : Nat) : Int) = 2 from rfl, if_pos hh2] at this
    exact this
  refine ⟨l1, l2, l3, l4, rfl, a1, a2, hL2, b1, b2, w1, hL3, r1, hL4, hg2, hg3, r2, ?_⟩
  obtain ⟨D, hD, hcl⟩ := fromW_ok r2
  have h1D : 1 ∈ D := (hD.dk 1).1 (by rw [hD.roots 1 (by rw [r3]; simp)]; rfl)
  have h2D : 2 ∈ D := hcl 1 h1D 2 (by
    show 2 ∈ refsL l4 1
    rw [href]; simp)
  have hu := liveL_up l4
  have hx : ∀ x, x ∈ liveL l4 ↔ (x = 1 ∨ x = 2) := fun x => by
    rw [liveL_mem r2]
    constructor
    · intro h
      obtain ⟨k, hk, e, hh, -⟩ := hE_zero (way_hE r2 h)
      rw [hhas4 k hk] at hh
      have := of_decide_eq_true hh
      omega
    · rintro (rfl | rfl)
      · exact (hD.dk 1).2 h1D
      · exact (hD.dk 2).2 h2D
  generalize liveL l4 = S at *
  have e : S = [1, 2] := up_ext hu (by decide) fun x => by rw [hx]; simp
  rw [e]; rfl
theorem refsL_le {l : Bytes} (hg : Good l) (x : Int) : (refsL l x).length ≤ 100000 := by
  unfold refsL
  have h1 := refsB_len l (readL l x 0 (min (gL l x) (gT l x))) _ (Nat.le_refl _)
  rw [List.take_length] at h1
  refine Nat.le_trans h1 ?_
  unfold readL
  split
  · rename_i hz
    have := some_in hg hz
    simp; omega
  · simp
/-- a way, link by link -/
theorem way_links {l : Bytes} (hg : Good l) {x : Nat} {p : List Nat} (h : fromW l x = some p) : ∃ q, p.length = q + 1 ∧ p.length ≤ 40 ∧ (∀ hq : q < p.length, p[q] = x) ∧ (∀ h0 : 0 < p.length, p[0] ∈ rootsH l) ∧ (∀ j (hj : j + 1 < p.length), hE l ((p[j] : Nat) : Int) = 0 ∧ p[j + 1] ∈ refsL l ((p[j] : Nat) : Int)) := by
  obtain ⟨D, hD, -⟩ := fromW_ok hg
  generalize fromW l = W at *
  obtain ⟨q, e, -⟩ := hD.ways x p h
  have hpre := hD.pre _ x p (Nat.le_refl _) h
  have hnd : p.Nodup := by
    refine List.pairwise_iff_getElem.2 fun i j hi hj hij e' => ?_
    have h1 := hpre i hi
    have h2 := hpre j hj
    rw [e', h2] at h1
    have := congrArg List.length (Option.some.inj h1)
    simp at this; omega
  have h40 : p.length ≤ 40 := nodup_le1 hnd fun k hk => by
    obtain ⟨i, hi, rfl⟩ := List.getElem_of_mem hk
    exact hE_nat (hD.dh _ ((hD.dk _).1 (by rw [hpre i hi]; rfl)))
  refine ⟨q.length, by rw [e]; simp, h40, fun hq => by subst e; simp, fun h0 => ?_, fun j hj => ?_⟩
  · have h1 := hpre 0 h0
    obtain ⟨q', e', h2⟩ := hD.ways _ _ h1
    have hq' : q' = [] := by
      have := congrArg List.length e'
      simp at this
      exact List.eq_nil_of_length_eq_zero (by omega)
    subst hq'
    rcases h2 with ⟨-, h2⟩ | ⟨y, h2, -⟩
    · exact h2
    · obtain ⟨q2, e2, -⟩ := hD.ways _ _ h2
      cases q2 <;> simp at e2
  · have h1 := hpre (j + 1) hj
    have h0 := hpre j (by omega)
    have hE0 := hD.dh _ ((hD.dk _).1 (by rw [h0]; rfl : (W p[j]).isSome = true))
    refine ⟨hE0, ?_⟩
    obtain ⟨q', e', h2⟩ := hD.ways _ _ h1
    have hq' : q' = p.take (j + 1) := by
      rw [List.take_succ_eq_append_getElem hj] at e'
      exact ((List.append_inj' e' rfl).1).symm
    rcases h2 with ⟨h3, -⟩ | ⟨y, h2, h3⟩
    · rw [hq'] at h3
      have := congrArg List.length h3
      rw [List.length_take] at this
      simp only [List.length_nil] at this
      omega
    · obtain ⟨q2, e2, -⟩ := hD.ways _ _ h2
      have hy : y = p[j] := by
        rw [hq', List.take_succ_eq_append_getElem (by omega)] at e2
        have := (List.append_inj' e2 rfl).2
        simpa using this.symm
      rw [← hy]; exact h3
end Go.Proofs.YtcahgmnkphmnhaaGreat
/- ReachChain: the walk. -/
namespace Go.Proofs.YtcahgmnkphmnhaaGreat
open Go.RowKit

theorem rd_byte1 (w : World) (x : Int) (h : UInt8) (hx : bv h = .int .u8 x) : Rd (w.alloc (.cells #[.int .u8 x] 5)) (some ⟨w.heap.size, 0, none⟩) [h] := fun j hj => by
  have hj0 : j = 0 := by simpa using hj
  subst hj0
  refine ⟨w.heap.size, 0, rfl, ?_⟩
  show (w.alloc (.cells #[.int .u8 x] 5)).cell? ⟨w.heap.size, 0, none⟩ = some (bv h)
  rw [hx]
  simp only [World.cell?]
  rw [heap_alloc_new w _]; rfl
set_option maxRecDepth 100000 in
set_option maxHeartbeats 4000000 in
theorem reachChain_walk (x y : Int) (w : World) :
    Calls Tryz.prog 6 #[.int .i64 x, .int .i64 y] w fun e w' => e = .returned (.bool true) ∧ Below w.heap.size w w' := by
  have HN := Hidden.mk (hnew_ok 1000 w (by decide))
  rw [show ((1000 : Nat) : Int) = 1000 from rfl] at HN
  by_cases h1 : x < 1
  · have d1 : decide (x < 1) = true := decide_eq_true h1
    clear h1
    generalize List.replicate 1000 (0 : UInt8) = l0 at *
    go_enter Tryz.func6, Tryz.ntmps6
    go_wp2_with fail
    refine HN.out.mono ?_
    rintro e w1 ⟨h, F1, rfl, hp⟩
    have HB := Hidden.mk hp.bel
    clear hp HN
    go_wp2_with fail
    go_ret
    exact ⟨rfl, HB.out⟩
  by_cases h2 : 30 < x
  · have d1 : decide (x < 1) = false := decide_eq_false h1
    have d2 : decide (30 < x) = true := decide_eq_true h2
    clear h1 h2
    generalize List.replicate 1000 (0 : UInt8) = l0 at *
    go_enter Tryz.func6, Tryz.ntmps6
    go_wp2_with fail
    refine HN.out.mono ?_
    rintro e w1 ⟨h, F1, rfl, hp⟩
    have HB := Hidden.mk hp.bel
    clear hp HN
    go_wp2_with fail
    go_ret
    exact ⟨rfl, HB.out⟩
  obtain ⟨m, rfl⟩ := Int.eq_ofNat_of_zero_le (show 0 ≤ x by omega)
  have hm1 : 1 ≤ m := by omega
  have hm30 : m ≤ 30 := by omega
  have d1 : decide ((m : Int) < 1) = false := decide_eq_false h1
  have d1' : decide (m < 1) = false := decide_eq_false (by omega)
  have d1'' : decide (m = 0) = false := decide_eq_false (by omega)
  have d1''' : (m == 0) = false := by simp; omega
  have d2 : decide (30 < (m : Int)) = false := decide_eq_false h2
  have d2' : decide (30 < m) = false := decide_eq_false (by omega)
  have HG0 := Hidden.mk (ChS.zero m)
  generalize List.replicate 1000 (0 : UInt8) = l0 at *
  clear h1 h2
  go_enter Tryz.func6, Tryz.ntmps6
  go_wp2_with fail
  refine HN.out.mono ?_
  rintro e w1 ⟨h, F1, rfl, hp⟩
  have HP := Hidden.mk hp
  clear hp HN
  go_upto_block 0 with (fail)
  go_cut [] (fun wx => ∃ (F : Nat → Prop) (l : Bytes), Hidden (Hp w wx F h l ∧ ChS m m l))
  case first =>
    go_wp2_with fail
    go_loopg [7] m (fun q i wr => ∃ (k : Nat) (F : Nat → Prop) (l : Bytes), k ≤ m ∧ q = m - k ∧ i = .int .i64 ((k : Int) + 1) ∧ Hidden (Hp w wr F h l ∧ ChS m k l))
    case atStart => exact ⟨0, F1, l0, by omega, rfl, rfl, ⟨HP.out, HG0.out⟩⟩
    case round =>
      obtain ⟨k, F, l, hk, rfl, rfl, hst⟩ := hrel
      by_cases hlt : k < m
      · have c0 : decide ((k : Int) + 1 ≤ m) = true := decide_eq_true (by omega)
        have c0' : decide (k + 1 ≤ m) = true := decide_eq_true (by omega)
        have c0'' : decide (k < m) = true := decide_eq_true hlt
        have s1 : IntKind.i64.wrap ((k : Int) + 1 + 1) = (k : Int) + 2 := by rw [IntWalk.i64_in _ (by omega)]; omega
        have s2 : IntKind.u8.wrap ((k : Int) + 2) = (k : Int) + 2 := IntWalk.u8_in _ (by omega)
        have sk : ((k : Int) + 1 == (k : Int) + 1) = true := beq_self_eq_true _
        have sk' : ((k : Int) + 1 != (k : Int) + 1) = false := bne_self_eq_false _
        obtain ⟨a1, a2, a3, -⟩ := hst.out.2.alloc (by omega)
        have HAL := Hidden.mk (halloc_any 2 1 hst.out.1)
        rw [a1, a2, show errV 0 = Value.nilIface from rfl] at HAL
        by_cases hl : k + 1 < m
        · obtain ⟨b1, b2⟩ := hst.out.2.link (by omega) hl
          have c1 : decide ((k : Int) + 1 < m) = true := decide_eq_true (by omega)
          have c1' : decide (k + 1 < m) = true := decide_eq_true hl
          have HC := Hidden.mk b2
          have HWR : Hidden (∀ (W : World) (F : Nat → Prop) (A : Option Addr) (c : Nat), Hp w W F h (allocL l 2 1) → Rd W A [UInt8.ofNat (k + 2)] → Calls Tryz.prog 16 #[.pointer (some ⟨h, 0, none⟩), .int .i64 ((k : Int) + 1), .int .i64 0, .slice A 1 c] W fun e w' => e = .returned .nilIface ∧ HpM w W w' F F h (writeL (allocL l 2 1) ((k : Int) + 1) 0 [UInt8.ofNat (k + 2)])) := ⟨fun W F A c hW hr => by
            have := hwrite_any ((k : Int) + 1) 0 A 1 c [UInt8.ofNat (k + 2)] hW a3 rfl (by omega) hr
            rw [show ((1 : Nat) : Int) = 1 from rfl, b1] at this
            exact this⟩
          have hu8 : ((UInt8.ofNat (k + 2)).toNat : Int) = (k : Int) + 2 := by rw [u8_nat (by omega)]; omega
          have HU := Hidden.mk hu8
          generalize writeL (allocL l 2 1) ((k : Int) + 1) 0 [UInt8.ofNat (k + 2)] = l' at *
          generalize allocL l 2 1 = la at *
          clear hst a1 a2 a3 b1 b2 hu8
          go_wp2_with fail
          refine HAL.out.mono ?_
          rintro e w3 ⟨rfl, F3, hm⟩
          have hal := (Below.refl w3.heap.size w3).alloc (Nat.le_refl _) (.cells #[.int .u8 ((k : Int) + 2)] 5)
          have HW3 := Hidden.mk (HWR.out _ F3 (some ⟨w3.heap.size, 0, none⟩) 1 (hm.hp.below hal) (rd_byte1 w3 _ _ (congrArg (Value.int .u8) HU.out)))
          clear hm hal HAL HWR
          go_wp2_with fail
          refine HW3.out.mono ?_
          rintro e w4 ⟨rfl, hm4⟩
          have HM := Hidden.mk hm4.hp
          clear hm4 HW3
          go_wp2_with fail
          go_roundg (m - (k + 1))
          case measure => omega
          case rel => exact ⟨k + 1, F3, l', by omega, rfl, by congr 1, ⟨HM.out, HC.out⟩⟩
        · have HC := Hidden.mk (hst.out.2.next (by omega) hl)
          have c1 : decide ((k : Int) + 1 < m) = false := decide_eq_false (by omega)
          have c1' : decide (k + 1 < m) = false := decide_eq_false hl
          generalize allocL l 2 1 = la at *
          clear hst a1 a2 a3
          go_wp2_with fail
          refine HAL.out.mono ?_
          rintro e w3 ⟨rfl, F3, hm⟩
          have HM := Hidden.mk hm.hp
          clear hm HAL
          go_wp2_with fail
          go_roundg (m - (k + 1))
          case measure => omega
          case rel => exact ⟨k + 1, F3, la, by omega, rfl, by congr 1, ⟨HM.out, HC.out⟩⟩
      · obtain rfl : m = k := by omega
        have c0 : decide ((m : Int) + 1 ≤ m) = false := decide_eq_false (by omega)
        have c0' : decide (m + 1 ≤ m) = false := decide_eq_false (by omega)
        have c0'' : decide (m < m) = false := decide_eq_false (by omega)
        have HS := Hidden.mk hst.out
        clear hst
        go_wp2_with fail
        go_meet
        exact ⟨F, l, HS⟩
  case rest =>
  obtain ⟨F2, l2, hc2⟩ := hcut
  have HP := Hidden.mk hc2.out.1
  obtain ⟨r1, r2, r3⟩ := hc2.out.2.rooted hm1
  have HOB : Hidden (∀ j, j < m → (∃ x, objS (setL l2 [97] 1) j = [x, 0]) ∧ objT (setL l2 [97] 1) j = 1 ∧ rLen (rawE (setL l2 [97] 1) j) = 2) := ⟨fun j hj => by
    obtain ⟨a, b, c⟩ := r3 j hj
    exact ⟨⟨_, a.trans (hc2.out.2.obj j hj).2⟩, b, c⟩⟩
  have HSET := Hidden.mk (rset_any [97] 1 HP.out hc2.out.2.good (by decide))
  rw [r1, show errV 0 = Value.nilIface from rfl] at HSET
  have HF := Hidden.mk r2
  generalize setL l2 [97] 1 = l3 at *
  generalize decide ((0 : Nat) = 0 ∧ (placeF l2 [97] 8).1 < 0) = fresh at *
  clear hc2 r1 r2 r3 HG0
  go_wp2_with fail
  refine HSET.out.mono ?_
  rintro e w3 ⟨rfl, F3, hm⟩
  have HP3 := Hidden.mk hm.hp
  obtain ⟨p, hp⟩ := Option.isSome_iff_exists.1 ((HF.out.ways m).2 ⟨hm1, Nat.le_refl _⟩)
  have hpe := HF.out.way hp
  have HPA := Hidden.mk (path_ok m p hm.hp HF.out.good hp)
  have HPL : Hidden (p.length = m) := ⟨by rw [hpe]; simp⟩
  have HPE : Hidden (∀ i (hi : i < p.length), p[i] = i + 1) := ⟨fun i hi => by subst hpe; simp⟩
  rw [HPL.out] at HPA
  have HLV : Hidden (∀ W, Hp w W F3 h l3 → Calls Tryz.prog 30 #[.pointer (some ⟨h, 0, none⟩)] W fun e w' => ∃ v, e = .returned v ∧ w'.ownsRow W.heap.size 3 1 v m ((liveL l3).flatMap ncell) ∧ Below W.heap.size W w') := ⟨fun W hW => by
    have := live_any hW HF.out.good
    rw [HF.out.live] at this
    exact this⟩
  generalize (liveL l3).flatMap ncell = LV at *
  clear hm HSET HP hp hpe
  go_wp2_with fail
  refine HPA.out.mono ?_
  rintro e w4 ⟨v4, rfl, hown4, hb4⟩
  have HP4 := Hidden.mk (HP3.out.below hb4)
  obtain ⟨A4, c4, rfl, -, -⟩ := own_split hown4
  have HR4 := Hidden.mk (own_rdX3 (f := ncell) (fun _ => rfl) HPL.out hown4)
  have mm : ((m : Int) != (m : Int)) = false := bne_self_eq_false _
  have mm' : ((m : Int) == (m : Int)) = true := beq_self_eq_true _
  clear hown4 hb4 HPA HP3
  go_wp2_with fail
  refine (HLV.out w4 HP4.out).mono ?_
  rintro e w5 ⟨v5, rfl, hown5, hb5⟩
  have HP5 := Hidden.mk (HP4.out.below hb5)
  have HR5 := Hidden.mk (HR4.out.below hb5)
  obtain ⟨A5, c5, rfl⟩ : ∃ A c, v5 = .slice A m c := by
    rcases hown5.2 with ⟨rfl, h0⟩ | ⟨g, cap, cur, rfl, -⟩
    · omega
    · exact ⟨_, _, rfl⟩
  clear hown5 hb5 HLV HP4 HR4
  go_upto_block 2 with (fail)
  go_cut [] (fun wx => wx = w5)
  case first =>
    go_wp2_with fail
    go_loopg [14] m (fun q i wr => ∃ k : Nat, k ≤ m ∧ q = m - k ∧ i = .int .i64 (k : Int) ∧ wr = w5)
    case atStart => exact ⟨0, by omega, rfl, rfl, rfl⟩
    case round =>
      obtain ⟨k, hk, rfl, rfl, rfl⟩ := hrel
      by_cases hlt : k < m
      · have hkp : k < p.length := by rw [HPL.out]; exact hlt
        obtain ⟨pp, oo, rfl, hcx⟩ := HR5.out k hkp
        have y0 : wr.cell? ⟨pp, oo + k, none⟩ = some (.int .i64 ((k : Int) + 1)) := by
          have := hcx 0 (.int .i64 (p[k] : Int)) rfl
          rw [HPE.out k hkp] at this
          simpa using this
        have i0 : (0 : Int) ≤ k := by omega
        have i1 : (k : Int) < m := by omega
        have c0 : decide ((k : Int) < m) = true := decide_eq_true i1
        have c0' : decide (k < m) = true := decide_eq_true hlt
        have s1 : IntKind.i64.wrap ((k : Int) + 1) = (k : Int) + 1 := IntWalk.i64_in _ (by omega)
        have sk : ((k : Int) + 1 == (k : Int) + 1) = true := beq_self_eq_true _
        have sk' : ((k : Int) + 1 != (k : Int) + 1) = false := bne_self_eq_false _
        clear hcx
        go_wp2_with fail
        go_roundg (m - (k + 1))
        case measure => omega
        case rel => exact ⟨k + 1, by omega, rfl, by go_num, rfl⟩
      · obtain rfl : m = k := by omega
        have c0 : decide ((m : Int) < m) = false := decide_eq_false (by omega)
        have c0' : decide (m < m) = false := decide_eq_false (by omega)
        go_wp2_with fail
        go_meet
        rfl
  case rest =>
  obtain rfl := hcut
  clear HR5 HPE HPL
  by_cases hy1 : y < 1
  · have e1 : decide (y < 1) = true := decide_eq_true hy1
    have HB := Hidden.mk HP5.out.bel
    clear hy1
    go_wp2_with fail
    go_ret
    exact ⟨rfl, HB.out⟩
  by_cases hy2 : (m : Int) < y
  · have e1 : decide (y < 1) = false := decide_eq_false hy1
    have e2 : decide ((m : Int) < y) = true := decide_eq_true hy2
    have HB := Hidden.mk HP5.out.bel
    clear hy1 hy2
    go_wp2_with fail
    go_ret
    exact ⟨rfl, HB.out⟩
  obtain ⟨c, rfl⟩ := Int.eq_ofNat_of_zero_le (show 0 ≤ y by omega)
  have e1 : decide ((c : Int) < 1) = false := decide_eq_false hy1
  have e1' : decide (c < 1) = false := decide_eq_false (by omega)
  have e1a : decide (c = 0) = false := decide_eq_false (by omega)
  have e1b : (c == 0) = false := by simp; omega
  have e2 : decide ((m : Int) < c) = false := decide_eq_false hy2
  have e2' : decide (m < c) = false := decide_eq_false (by omega)
  obtain ⟨b1, b2⟩ := HF.out.cut (c := c) (by omega) (by omega) HOB.out
  have HWR : Hidden (∀ (W : World) (A : Option Addr) (cc : Nat), Hp w W F3 h l3 → Rd W A [0] → Calls Tryz.prog 16 #[.pointer (some ⟨h, 0, none⟩), .int .i64 (c : Int), .int .i64 0, .slice A 1 cc] W fun e w' => e = .returned .nilIface ∧ HpM w W w' F3 F3 h (writeL l3 (c : Int) 0 [0])) := ⟨fun W A cc hW hr => by
    have := hwrite_any (c : Int) 0 A 1 cc [0] hW HF.out.good rfl (by omega) hr
    rw [show ((1 : Nat) : Int) = 1 from rfl, b1] at this
    exact this⟩
  have HF6 := Hidden.mk b2
  have s1 : IntKind.i64.wrap ((m : Int) - (c : Int)) = (m : Int) - (c : Int) := IntWalk.i64_in _ (by omega)
  have hcm : ((m - c : Nat) : Int) = (m : Int) - (c : Int) := by omega
  have HCM := Hidden.mk hcm
  generalize writeL l3 (c : Int) 0 [0] = l6 at *
  have hal := (Below.refl wc.heap.size wc).alloc (Nat.le_refl _) (.cells #[.int .u8 0] 5)
  have HW6 := Hidden.mk (HWR.out _ (some ⟨wc.heap.size, 0, none⟩) 1 (HP5.out.below hal) (rd_byte1 wc 0 0 rfl))
  clear hy1 hy2 b1 b2 hal HWR HP5 hcm HOB
  go_wp2_with fail
  refine HW6.out.mono ?_
  rintro e w6 ⟨rfl, hm6⟩
  have HSW := Hidden.mk (sweep_any hm6.hp HF6.out.good)
  rw [HF6.out.dead, HCM.out] at HSW
  obtain ⟨g1, g2⟩ := HF6.out.swept
  have HLV : Hidden (∀ W F, Hp w W F h (sweepL l6) → Calls Tryz.prog 30 #[.pointer (some ⟨h, 0, none⟩)] W fun e w' => ∃ v, e = .returned v ∧ w'.ownsRow W.heap.size 3 1 v c ((liveL (sweepL l6)).flatMap ncell) ∧ Below W.heap.size W w') := ⟨fun W F hW => by
    have := live_any hW (sweep_is HF6.out.good).good
    rw [g1] at this
    exact this⟩
  have HDD : Hidden (∀ W F, Hp w W F h (sweepL l6) → Calls Tryz.prog 31 #[.pointer (some ⟨h, 0, none⟩)] W fun e w' => ∃ v, e = .returned v ∧ w'.ownsRow W.heap.size 3 1 v 0 [] ∧ Below W.heap.size W w') := ⟨fun W F hW => by
    have := dead_any hW (sweep_is HF6.out.good).good
    rw [g2] at this
    exact this⟩
  generalize (liveL (sweepL l6)).flatMap ncell = LV2 at *
  generalize sweepL l6 = l7 at *
  have cc : ((c : Int) == (c : Int)) = true := beq_self_eq_true _
  have ccm : ((m : Int) - (c : Int) == (m : Int) - (c : Int)) = true := beq_self_eq_true _
  clear hm6 HW6 g1 g2
  go_wp2_with fail
  refine HSW.out.mono ?_
  rintro e w7 ⟨rfl, F7, hm7⟩
  have HP7 := Hidden.mk hm7.hp
  clear hm7 HSW
  go_wp2_with fail
  refine (HLV.out w7 F7 HP7.out).mono ?_
  rintro e w8 ⟨v8, rfl, hown8, hb8⟩
  have HP8 := Hidden.mk (HP7.out.below hb8)
  obtain ⟨A8, c8, rfl⟩ : ∃ A cq, v8 = .slice A c cq := by
    rcases hown8.2 with ⟨rfl, h0⟩ | ⟨g, cap, cur, rfl, -⟩
    · exact ⟨none, 0, by rw [h0]⟩
    · exact ⟨_, _, rfl⟩
  clear hown8 hb8 HLV HP7
  go_wp2_with fail
  refine (HDD.out w8 F7 HP8.out).mono ?_
  rintro e w9 ⟨v9, rfl, hown9, hb9⟩
  have HB9 := Hidden.mk (HP8.out.bel.trans (hb9.mono HP8.out.bel.size))
  obtain ⟨A9, c9, rfl⟩ : ∃ A cq, v9 = .slice A 0 cq := by
    rcases hown9.2 with ⟨rfl, h0⟩ | ⟨g, cap, cur, rfl, -⟩
    · exact ⟨none, 0, rfl⟩
    · exact ⟨_, _, rfl⟩
  clear hown9 hb9 HDD HP8
  go_wp2_with fail
  go_ret
  exact ⟨rfl, HB9.out⟩
end Go.Proofs.YtcahgmnkphmnhaaGreat
