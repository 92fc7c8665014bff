/- Contracts and plain laws, put together: RefD7, RefD8, Open3, Open6, Open5, Open7, Told, Told2, Told3, SameN. -/
import Derived.Test.YtmhlnbbnanehiaaDoorDevicePlaysFrameM2
import Derived.Test.YtmhlnbbnanehiaaDoorDevicePlaysFrameM1
import Derived.Deep.Grids
import Derived.LaidEql
import Derived.Stop.Asserts
import Derived.RowKitTokens
import Derived.Deep.LoopGhost
/- The reference's device: Crash. -/
namespace Go.Proofs.YtmhlnbbnanehiaaDoor
open Go.RowKit Go.Maps Go.ChangeMaps

theorem getD_of {O : List Nat} {k o : Nat} (h : O[k]? = some o) : O.getD k 0 = o := by rw [List.getD_eq_getElem?_getD, h]; rfl
theorem crashS_cur {D : Dv} {keep : List Bool} {torn : Int} {c k o : Nat} (hn : D.O.Nodup) (ho : D.O[k]? = some o) : (crashS D keep torn c k)[o]? = D.S[o]? :=
  crashS_old D keep torn c o k fun j hj e => by
    have hkl := (List.getElem?_eq_some_iff.1 ho).1
    have hjl : j < D.O.length := by omega
    rw [List.getD_eq_getElem?_getD, List.getElem?_eq_getElem hjl] at e
    have e2 := (List.getElem?_eq_some_iff.1 ho).2
    exact (List.pairwise_iff_getElem.1 hn) j k hjl hkl hj ((show D.O[j] = o from e).trans e2.symm)
section
variable {w : World} {F : Nat → Prop} {d : Nat} {D : Dv} {Y : RLay}
structure RcSt (w wr : World) (F : Nat → Prop) (d : Nat) (D : Dv) (S : List Bytes) (F' : Nat → Prop) (Y' : RLay) : Prop where
  dev : RdIs wr F' d { D with S := S } Y'
  kp : Keep F w wr
  sub : ∀ q, F' q → F q ∨ w.heap.size ≤ q
theorem RcSt.below {w wr w' : World} {F F' : Nat → Prop} {S : List Bytes} {Y' : RLay} (h : RcSt w wr F d D S F' Y') (hb : Below wr.heap.size wr w') : RcSt w w' F d D S F' Y' :=
  ⟨h.dev.below hb, h.kp.trans (Keep.of_below (F := F) hb) (fun _ h => .inl h), h.sub⟩
/-- a sector is set -/
theorem RcSt.put {w wr : World} {F F' F2 : Nat → Prop} {S : List Bytes} {Y' : RLay} {o g c : Nat} {b : Bytes} (h : RcSt w wr F d D S F' Y') (ho : o < S.length) (hr : Row wr 5 g c b) (hb : b.length = 32) (hF : ∀ q, F' q → F2 q) (hg : F2 g) (hl : ∀ q, F2 q → q < wr.heap.size) (hs : ∀ q, F2 q → F q ∨ w.heap.size ≤ q) :
    RcSt w (wr.setCell ⟨Y'.gs, o, none⟩ (rowV g c)) F d D (S.set o b) F2 { Y' with sb := setAt1 Y'.sb o g, sc := setAt1 Y'.sc o c } :=
  ⟨h.dev.setS ho hr hb hF hg hl, h.kp.setCell (h.sub _ h.dev.fs) _, hs⟩
set_option maxRecDepth 100000 in
set_option maxHeartbeats 1000000 in
theorem rcrash_any (A : Option Addr) (nk ck : Nat) (keep : List Bool) (torn cut : Int) (h : RdIs w F d D Y) (hn : keep.length = nk) (hrd : RdB w A keep) (hA : 0 < nk → ∀ ad, A = some ad → ¬ F ad.block) :
    Calls Tryd.prog 30 #[.pointer (some ⟨d, 0, none⟩), .slice A nk ck, .int .i64 torn, .int .i64 cut] w (RwAns w F d (crashD D keep torn (min 32 (max 0 cut)).toNat, D.O.length)) := by
  obtain ⟨⟨c0, c1, c2, c3⟩, -⟩ := fourF h.hd
  obtain ⟨A1, cl, hvl, hcl, -⟩ := h.lines
  obtain ⟨m, hm⟩ : ∃ m, D.O.length = m := ⟨_, rfl⟩
  have hm3 := h.ord_le
  have hn1 := h.n1
  rw [hm] at hm3
  rw [hvl, hm] at c1
  rw [hm]
  obtain ⟨cn, hcn⟩ : ∃ cn, (min 32 (max 0 cut)).toNat = cn := ⟨_, rfl⟩
  rw [hcn]
  have hc32 : cn ≤ 32 := by omega
  have hcj : ∀ j : Nat, (j < 32 ∧ (j : Int) < cut) ↔ j < cn := fun j => by omega
  have HCJ := Hidden.mk hcj
  have HM := Hidden.mk hm
  have HND := Hidden.mk h.nd
  have HST : Hidden (RcSt w w F d D (crashS D keep torn cn 0) F Y) := ⟨⟨h, Keep.refl _ _, fun _ hq => .inl hq⟩⟩
  have HKP := Hidden.mk (And.intro hn (And.intro hrd hA))
  have HO := Hidden.mk (show ∀ o ∈ D.O, o < D.S.length ∧ (D.M o).length = 32 ∧ (D.S.getD o []).length = 32 from fun o ho => by
    obtain ⟨a, b, c⟩ := h.mrow o ho
    refine ⟨c, b, ?_⟩
    rw [List.getD_eq_getElem?_getD, List.getElem?_eq_getElem c]
    exact (h.row o c).2)
  clear h hvl hcl hm hcn hcj hn hrd hA c0 c2 c3
  go_enter Tryd.func30, Tryd.ntmps30
  go_wp2_with fail
  clear c1
  go_loopg [10] m (fun r kv wr => ∃ (k : Nat) (F' : Nat → Prop) (Y' : RLay), k ≤ m ∧ r = m - k ∧ kv = .int .i64 (k : Int) ∧ Hidden (RcSt w wr F d D (crashS D keep torn cn k) F' Y'))
  case atStart => exact ⟨0, F, Y, by omega, rfl, rfl, HST⟩
  case round =>
    obtain ⟨k, F', Y', hk, rfl, rfl, hs⟩ := hrel
    have HX := Hidden.mk hs.out
    clear hs HST
    by_cases hlt : k < m
    · obtain ⟨⟨c0, c1, c2, c3⟩, ff⟩ := fourF HX.out.dev.hd
      obtain ⟨A2, cl, hvl, hcl, hln⟩ := HX.out.dev.lines
      rw [show ({ D with S := crashS D keep torn cn k } : Dv).O = D.O from rfl] at hvl hcl hln
      rw [HM.out] at hvl hcl
      rw [hvl] at c1
      rw [show ({ D with S := crashS D keep torn cn k } : Dv).S = crashS D keep torn cn k from rfl, crashS_len] at c0
      clear c2 c3 hvl
      have k0 : (0 : Int) ≤ k := by omega
      have k1 : (k : Int) < m := by omega
      have s1 : IntKind.i64.wrap ((k : Int) + 1) = (k : Int) + 1 := IntWalk.i64_in _ (by omega)
      obtain ⟨o, ho⟩ : ∃ o, D.O[k]? = some o := ⟨D.O[k]'(by rw [HM.out]; exact hlt), List.getElem?_eq_getElem _⟩
      obtain ⟨gl, rfl, hFg, y0, y1⟩ := hln k o ho
      obtain ⟨hol, hml, hsl⟩ := HO.out o (List.mem_of_getElem? ho)
      have o0 : (0 : Int) ≤ o := by omega
      have o1 : (o : Int) < D.S.length := by omega
      have HGO := Hidden.mk (And.intro (getD_of ho) (crashS_cur (keep := keep) (torn := torn) (c := cn) HND.out ho))
      have HMR := Hidden.mk (HX.out.dev.mrow o (List.mem_of_getElem? ho))
      have HFB := Hidden.mk (HX.out.dev.fb o (List.mem_of_getElem? ho))
      have hal := (Below.refl wr.heap.size wr).alloc (Nat.le_refl _) (.cells #[.int .i64 (o : Int), rowV (Y'.mb o) (Y'.mc o)] 61)
      have HX1 := Hidden.mk (HX.out.below hal)
      have HAL := Hidden.mk hal
      have hbx := heap_alloc_new wr (.cells #[.int .i64 (o : Int), rowV (Y'.mb o) (Y'.mc o)] 61)
      unfold rowV at y1 hbx HX1 HAL
      clear hln hcl ff hal ho
      have HCS : Hidden (crashS D keep torn cn (k + 1) = (crashS D keep torn cn k).set o (crash1 D keep torn cn k)) := ⟨by rw [crashS, HGO.out.1]⟩
      have HCR : Hidden (crash1 D keep torn cn k = if (k : Int) = torn then splice (D.S.getD o []) 0 ((D.M o).take cn) else if keep.getD k false = true then D.M o else D.S.getD o []) := ⟨by unfold crash1; rw [HGO.out.1]⟩
      have HSO : Hidden ((crashS D keep torn cn k)[o]? = some (D.S.getD o [])) := ⟨by rw [HGO.out.2, List.getD_eq_getElem?_getD, List.getElem?_eq_getElem hol]; rfl⟩
      have HCL := Hidden.mk (crashS_len D keep torn cn k)
      generalize D.S.getD o [] = so at *
      generalize crash1 D keep torn cn k = c1k at *
      go_upto_region 6 with (fail)
      have z0 := (HAL.out.cell (p := ⟨d, 0, none⟩) (block_lt_of_cell c0)).trans c0
      have z1 := (HAL.out.cell (p := ⟨d, 1, none⟩) (block_lt_of_cell c1)).trans c1
      have HB01 : Hidden ((wr.alloc (.cells #[.int .i64 (o : Int), .slice (some ⟨Y'.mb o, 0, none⟩) 32 (Y'.mc o)] 61)).cell? ⟨wr.heap.size, 0, none⟩ = some (.int .i64 (o : Int)) ∧ (wr.alloc (.cells #[.int .i64 (o : Int), .slice (some ⟨Y'.mb o, 0, none⟩) 32 (Y'.mc o)] 61)).cell? ⟨wr.heap.size, 1, none⟩ = some (.slice (some ⟨Y'.mb o, 0, none⟩) 32 (Y'.mc o))) := ⟨by simp only [World.cell?]; rw [hbx]; exact ⟨rfl, rfl⟩⟩
      have HKA : Hidden (∀ W, Keep F w W → k < nk → ∃ pb of, A = some ⟨pb, of, none⟩ ∧ W.cell? ⟨pb, of + k, none⟩ = some (.bool (keep.getD k false))) := ⟨fun W hW hkn => by
        obtain ⟨h1, h2, h3⟩ := HKP.out
        obtain ⟨pb, of, e, hc⟩ := h2 k (by omega)
        refine ⟨pb, of, e, (World.cell?_of_block (w := w) (a := ⟨pb, of + k, none⟩) (hW.block pb (block_lt_of_cell hc) (h3 (by omega) _ e))).trans ?_⟩
        rw [hc, List.getD_eq_getElem?_getD, List.getElem?_eq_getElem (by omega)]
        rfl⟩
      clear c0 c1 y0 y1 hbx HAL HX
      generalize wr.alloc (.cells #[.int .i64 (o : Int), .slice (some ⟨Y'.mb o, 0, none⟩) 32 (Y'.mc o)] 61) = W1 at *
      generalize wr.heap.size = bx at *
      obtain ⟨b0, b1⟩ := HB01.out
      by_cases htn : (k : Int) = torn
      · have q1 : ((k : Int) == torn) = true := by simpa using htn
        have HC1 := Hidden.mk (show c1k = splice so 0 ((D.M o).take cn) by rw [HCR.out, if_pos htn])
        clear htn
        obtain ⟨cur, hcur, hcs, hcu⟩ := HX1.out.dev.sec
        have hoS : o < (crashS D keep torn cn k).length := by rw [HCL.out]; exact hol
        have hsr := HX1.out.dev.row o hoS
        have hse : (crashS D keep torn cn k)[o] = so := by
          obtain ⟨h1, h2⟩ := List.getElem?_eq_some_iff.1 HSO.out
          exact h2
        rw [show ({ D with S := crashS D keep torn cn k } : Dv).S[o]'hoS = so from hse] at hsr
        have w0 : W1.cell? ⟨Y'.gs, o, none⟩ = some (rowV (Y'.sb o) (Y'.sc o)) := by rw [cell_of_row W1 Y'.gs o cur _ _ hcur]; exact hcu o hoS
        unfold rowV at w0
        have HCP := Hidden.mk (refCopied_ok (Y'.sb o) 0 32 (Y'.sc o) so W1.drew hsr.2 (by omega) (by omega) (hsr.1.rd.drewN 1))
        have HMB := Hidden.mk (HX1.out.dev.mrow o (List.mem_of_getElem? (List.getElem?_eq_some_iff.2 ⟨by rw [HM.out]; exact hlt, by have := HGO.out.1; rw [List.getD_eq_getElem?_getD, List.getElem?_eq_getElem (by rw [HM.out]; exact hlt)] at this; exact this⟩))).1
        have HB1 := Hidden.mk (And.intro b0 b1)
        clear hcur hcs hcu hsr hse
        go_upto_region 7 with (fail)
        go_still_tail 8, (by kernel_rfl)
        change wpList _ _ _ _ _ W1.drew
        clear w0 z0 z1 b0 b1
        have HX2 := Hidden.mk (HX1.out.below ((Below.refl _ W1).drew))
        have HMB2 := Hidden.mk (show Row W1.drew 5 (Y'.mb o) (Y'.mc o) (D.M o) from HMB.out)
        have HB2 : Hidden (W1.drew.cell? ⟨bx, 0, none⟩ = some (.int .i64 (o : Int)) ∧ W1.drew.cell? ⟨bx, 1, none⟩ = some (.slice (some ⟨Y'.mb o, 0, none⟩) 32 (Y'.mc o))) := ⟨HB1.out⟩
        generalize W1.drew = wd at *
        clear HX1 HMB HB1
        go_wp2_with fail
        refine HCP.out.mono ?_
        rintro e w9 ⟨g9, cap9, rfl, hg9, hcp9, hrow9, hb9⟩
        have HX9 := Hidden.mk (HX2.out.below hb9)
        have HG9 : Hidden (¬ F' g9 ∧ w.heap.size ≤ g9 ∧ g9 ≠ bx ∧ g9 ≠ Y'.mb o) := ⟨⟨fun hf => by have := HX2.out.dev.flt _ hf; omega, Nat.le_trans HX2.out.kp.size hg9, fun e => by have := block_lt_of_cell HB2.out.1; dsimp only at this; omega, fun e => by have := HMB2.out.lt; omega⟩⟩
        have HR9 : Hidden (Row w9 5 g9 cap9 (splice so 0 ((D.M o).take 0))) := ⟨by
          have : splice so 0 ((D.M o).take 0) = so := by simp [splice]
          rw [this]; exact hrow9⟩
        have HB9 : Hidden (w9.cell? ⟨bx, 0, none⟩ = some (.int .i64 (o : Int)) ∧ w9.cell? ⟨bx, 1, none⟩ = some (.slice (some ⟨Y'.mb o, 0, none⟩) 32 (Y'.mc o))) := ⟨⟨(hb9.cell (p := ⟨bx, 0, none⟩) (block_lt_of_cell HB2.out.1)).trans HB2.out.1, (hb9.cell (p := ⟨bx, 1, none⟩) (block_lt_of_cell HB2.out.2)).trans HB2.out.2⟩⟩
        have HM9 := Hidden.mk (HMB2.out.below hb9 HMB2.out.lt)
        clear hg9 hcp9 hrow9 hb9 HCP HX2 HMB2 HB2
        go_wp2_with fail
        go_loopg [13] cn (fun r jv wy => ∃ j : Nat, j ≤ cn ∧ r = cn - j ∧ jv = .int .i64 (j : Int) ∧ Hidden (RcSt w wy F d D (crashS D keep torn cn k) F' Y' ∧ Row wy 5 g9 cap9 (splice so 0 ((D.M o).take j)) ∧ (wy.cell? ⟨bx, 0, none⟩ = some (.int .i64 (o : Int)) ∧ wy.cell? ⟨bx, 1, none⟩ = some (.slice (some ⟨Y'.mb o, 0, none⟩) 32 (Y'.mc o))) ∧ Row wy 5 (Y'.mb o) (Y'.mc o) (D.M o)))
        case atStart => exact ⟨0, by omega, rfl, rfl, ⟨HX9.out, HR9.out, HB9.out, HM9.out⟩⟩
        case round =>
          obtain ⟨j, hj, rfl, rfl, hs⟩ := hrel
          have HZ := Hidden.mk hs.out
          clear hs HX9 HR9 HB9 HM9
          obtain ⟨b0, b1⟩ := HZ.out.2.2.1
          go_upto_region 9 with (fail)
          go_cut [49] (fun s wx => s = .bool (decide (j < cn)) ∧ wr = wx)
          case first =>
            have hcj := HCJ.out j
            by_cases h32 : j < 32
            · have t7 : decide ((j : Int) < 32) = true := by simp; omega
              have t8 : decide (j < 32) = true := by simpa using h32
              have hd : decide (j < cn) = decide ((j : Int) < cut) := decide_eq_decide.2 ⟨fun h => (hcj.2 h).2, fun h => hcj.1 ⟨h32, h⟩⟩
              have HD := Hidden.mk hd
              clear h32 hd hcj
              go_wp2_with fail
              go_meet
              exact ⟨by rw [HD.out], rfl⟩
            · have t7 : decide ((j : Int) < 32) = false := by simp; omega
              have t8 : decide (j < 32) = false := by simpa using h32
              have HD : Hidden (decide (j < cn) = false) := ⟨decide_eq_false (fun h => h32 (hcj.2 h).1)⟩
              clear h32 hcj
              go_wp2_with fail
              go_meet
              exact ⟨by rw [HD.out], rfl⟩
          case rest =>
          obtain ⟨rfl, rfl⟩ := hcut
          by_cases hjc : j < cn
          · rw [decide_eq_true hjc]
            have j0 : (0 : Int) ≤ j := by omega
            have j1 : (j : Int) < 32 := by omega
            have s6 : IntKind.i64.wrap ((j : Int) + 1) = (j : Int) + 1 := IntWalk.i64_in _ (by omega)
            have hjm : j < (D.M o).length := by rw [hml]; omega
            have hsl9 : (splice so 0 ((D.M o).take j)).length = 32 := by rw [splice_len _ _ _ (by rw [hsl, List.length_take]; omega)]; exact hsl
            have y1 := HZ.out.2.1.cell j (by omega)
            have y2 := HZ.out.2.1.frozen j
            have y3 := HZ.out.2.2.2.cell j hjm
            have hput := HZ.out.2.1.store j (by omega) (D.M o)[j]
            have hsp := splice_take_succ so (D.M o) 0 j hjm (by rw [hsl, hml]; omega)
            rw [Nat.zero_add] at hsp
            rw [hsp] at hput
            have hkg : Keep (fun q => q = g9) wr (wr.setCell ⟨g9, j, none⟩ (bv (D.M o)[j])) := Keep.setCell (F := fun q => q = g9) (Keep.refl _ _) (p := ⟨g9, j, none⟩) (.inl rfl) _
            have HP : Hidden (RcSt w (wr.setCell ⟨g9, j, none⟩ (bv (D.M o)[j])) F d D (crashS D keep torn cn k) F' Y' ∧ Row (wr.setCell ⟨g9, j, none⟩ (bv (D.M o)[j])) 5 g9 cap9 (splice so 0 ((D.M o).take (j + 1))) ∧ ((wr.setCell ⟨g9, j, none⟩ (bv (D.M o)[j])).cell? ⟨bx, 0, none⟩ = some (.int .i64 (o : Int)) ∧ (wr.setCell ⟨g9, j, none⟩ (bv (D.M o)[j])).cell? ⟨bx, 1, none⟩ = some (.slice (some ⟨Y'.mb o, 0, none⟩) 32 (Y'.mc o))) ∧ Row (wr.setCell ⟨g9, j, none⟩ (bv (D.M o)[j])) 5 (Y'.mb o) (Y'.mc o) (D.M o)) := ⟨by
              obtain ⟨n1, n2, n3, n4⟩ := HG9.out
              refine ⟨⟨HZ.out.1.dev.keep hkg (fun q hq e => n1 (e ▸ hq)), HZ.out.1.kp.setCell (.inr n2) _, HZ.out.1.sub⟩, hput, ⟨?_, ?_⟩, hkg.row HZ.out.2.2.2 (fun e => n4 e.symm)⟩
              · exact (World.cell?_of_block (w := wr) (a := ⟨bx, 0, none⟩) (Below.heap_setCell _ _ _ _ (show bx ≠ g9 from fun e => n3 e.symm))).trans HZ.out.2.2.1.1
              · exact (World.cell?_of_block (w := wr) (a := ⟨bx, 1, none⟩) (Below.heap_setCell _ _ _ _ (show bx ≠ g9 from fun e => n3 e.symm))).trans HZ.out.2.2.1.2⟩
            generalize (splice so 0 ((D.M o).take j))[j] = u at y1
            generalize (D.M o)[j] = bk at *
            clear hput hsp hkg hsl9 hjm HZ
            go_wp2_with fail
            go_roundg (cn - (j + 1))
            case measure => omega
            case rel => exact ⟨j + 1, by omega, rfl, by go_num, HP⟩
          · obtain rfl : j = cn := by omega
            rw [decide_eq_false hjc]
            obtain ⟨⟨c0, c1, c2, c3⟩, ff⟩ := fourF HZ.out.1.dev.hd
            rw [show ({ D with S := crashS D keep torn j k } : Dv).S = crashS D keep torn j k from rfl, crashS_len] at c0
            obtain ⟨cur, hcur, hcs, hcu⟩ := HZ.out.1.dev.sec
            have w0 : wr.drew.cell? ⟨Y'.gs, o, none⟩ = some (rowV (Y'.sb o) (Y'.sc o)) := by rw [show wr.drew.cell? ⟨Y'.gs, o, none⟩ = wr.cell? ⟨Y'.gs, o, none⟩ from rfl, cell_of_row wr Y'.gs o cur _ _ hcur]; exact hcu o hoS
            have w1 : wr.drew.frozen? ⟨Y'.gs, o, none⟩ = false := frozen_of_row wr Y'.gs o cur _ hcur
            have hset := (HZ.out.1.below ((Below.refl _ wr).drew)).put (F2 := fun q => F' q ∨ q = g9) hoS HZ.out.2.1 (by rw [splice_len _ _ _ (by rw [hsl, List.length_take]; omega)]; exact hsl) (fun _ h => .inl h) (.inr rfl) (fun q hq => by
              rcases hq with hq | rfl
              · exact HZ.out.1.dev.flt q hq
              · exact HZ.out.2.1.lt) (fun q hq => by
              rcases hq with hq | rfl
              · exact HZ.out.1.sub q hq
              · exact .inr HG9.out.2.1)
            have HN : Hidden (∃ Y2, RcSt w (wr.drew.setCell ⟨Y'.gs, o, none⟩ (rowV g9 cap9)) F d D (crashS D keep torn j (k + 1)) (fun q => F' q ∨ q = g9) Y2) := ⟨⟨_, by rw [HCS.out, HC1.out]; exact hset⟩⟩
            unfold rowV at w0 HN
            clear hset hcur hcs hcu hjc c1 c2 c3 ff HZ
            go_upto_region 12 with (fail)
            go_still_tail 8, (by kernel_rfl)
            change wpList _ _ _ _ _ wr.drew
            clear c0 b0 b1
            generalize wr.drew = we at *
            go_wp2_with fail
            go_roundg (m - (k + 1))
            case measure => omega
            case rel =>
              obtain ⟨Y2, h⟩ := HN.out
              exact ⟨k + 1, _, Y2, by omega, rfl, by go_num, ⟨h⟩⟩
      · have q1 : ((k : Int) == torn) = false := by simpa using htn
        have HC1 := Hidden.mk (show c1k = if keep.getD k false = true then D.M o else so by rw [HCR.out, if_neg htn])
        have hsame : crashS D keep torn cn k = (crashS D keep torn cn k).set o so := by
          obtain ⟨h1, h2⟩ := List.getElem?_eq_some_iff.1 HSO.out
          rw [← h2, List.set_getElem_self]
        clear htn
        by_cases hkn : k < nk
        · obtain ⟨pb, of, rfl, x0⟩ := HKA.out W1 HX1.out.kp hkn
          have q2 : decide ((k : Int) < nk) = true := by simp; omega
          have q3 : decide (k < nk) = true := by simpa using hkn
          have k2 : (k : Int) < nk := by omega
          clear hkn
          cases hkk : keep.getD k false with
          | true =>
            rw [hkk] at x0 HC1
            rw [if_pos rfl] at HC1
            obtain ⟨cur, hcur, hcs, hcu⟩ := HX1.out.dev.sec
            have w0 : W1.drew.cell? ⟨Y'.gs, o, none⟩ = some (rowV (Y'.sb o) (Y'.sc o)) := by rw [show W1.drew.cell? ⟨Y'.gs, o, none⟩ = W1.cell? ⟨Y'.gs, o, none⟩ from rfl, cell_of_row W1 Y'.gs o cur _ _ hcur]; exact hcu o (by show o < (crashS D keep torn cn k).length; rw [HCL.out]; exact hol)
            have w1 : W1.drew.frozen? ⟨Y'.gs, o, none⟩ = false := frozen_of_row W1 Y'.gs o cur _ hcur
            have hset := (HX1.out.below ((Below.refl _ W1).drew)).put (F2 := F') (o := o) (by rw [HCL.out]; exact hol) (HX1.out.dev.mrow o (by
              have := HMR.out; exact List.mem_of_getElem? (List.getElem?_eq_some_iff.2 ⟨by rw [HM.out]; exact hlt, by have := HGO.out.1; rw [List.getD_eq_getElem?_getD, List.getElem?_eq_getElem (by rw [HM.out]; exact hlt)] at this; exact this⟩))).1 hml (fun _ h => h) HFB.out HX1.out.dev.flt HX1.out.sub
            have HN : Hidden (∃ Y2, RcSt w (W1.drew.setCell ⟨Y'.gs, o, none⟩ (rowV (Y'.mb o) (Y'.mc o))) F d D (crashS D keep torn cn (k + 1)) F' Y2) := ⟨⟨_, by rw [HCS.out, HC1.out]; exact hset⟩⟩
            unfold rowV at w0 HN
            clear hset hcur hcs hcu hsame hkk
            go_upto_region 14 with (fail)
            go_still_tail 9, (by kernel_rfl)
            change wpList _ _ _ _ _ W1.drew
            clear z0 z1 b0 b1 x0
            generalize W1.drew = wd at *
            go_wp2_with fail
            go_roundg (m - (k + 1))
            case measure => omega
            case rel =>
              obtain ⟨Y2, h⟩ := HN.out
              exact ⟨k + 1, F', Y2, by omega, rfl, by go_num, ⟨h⟩⟩
          | false =>
            rw [hkk] at x0 HC1
            rw [if_neg (by decide)] at HC1
            have HN : Hidden (RcSt w W1 F d D (crashS D keep torn cn (k + 1)) F' Y') := ⟨by rw [HCS.out, HC1.out, ← hsame]; exact HX1.out⟩
            clear hsame hkk
            go_wp2_with fail
            go_roundg (m - (k + 1))
            case measure => omega
            case rel => exact ⟨k + 1, F', Y', by omega, rfl, by go_num, HN⟩
        · have q2 : decide ((k : Int) < nk) = false := by simp; omega
          have q3 : decide (k < nk) = false := by simpa using hkn
          have hkk : keep.getD k false = false := by rw [List.getD_eq_getElem?_getD, List.getElem?_eq_none (by rw [HKP.out.1]; omega)]; rfl
          rw [hkk, if_neg (by decide)] at HC1
          have HN : Hidden (RcSt w W1 F d D (crashS D keep torn cn (k + 1)) F' Y') := ⟨by rw [HCS.out, HC1.out, ← hsame]; exact HX1.out⟩
          clear hsame hkk hkn
          go_wp2_with fail
          go_roundg (m - (k + 1))
          case measure => omega
          case rel => exact ⟨k + 1, F', Y', by omega, rfl, by go_num, HN⟩
    · obtain rfl : k = m := by omega
      have t4 : decide ((k : Int) < k) = false := by simp
      obtain ⟨⟨c0, c1, c2, c3⟩, ff⟩ := fourF HX.out.dev.hd
      have f1 := ff 1
      have f2 := ff 2
      have f3 := ff 3
      have hno := HX.out.dev.noLines
      have hs3 := hno.set23 (-1) (by omega) (by omega) false
      have HF := Hidden.mk (And.intro hs3.1 (((HX.out.kp.setCell (p := ⟨d, 1, none⟩) (HX.out.sub d HX.out.dev.fd) (.slice none 0 0)).trans hs3.2.1 (fun q hq => HX.out.sub q hq))))
      have HSUB := Hidden.mk HX.out.sub
      have HR : Hidden ((crashD D keep torn cn, k) = (({ ({ ({ D with S := crashS D keep torn cn k } : Dv) with O := [] } : Dv) with left := -1, down := false } : Dv), k)) := ⟨by unfold crashD; rw [HM.out]⟩
      clear hno hs3 ff HX
      go_wp2_with fail
      go_ret
      exact RwAns.mk HR.out rfl ⟨HF.out.1, HF.out.2, HSUB.out⟩
end
end Go.Proofs.YtmhlnbbnanehiaaDoor
/- The reference's device: Write of whatever; both devices beside each other. -/
namespace Go.Proofs.YtmhlnbbnanehiaaDoor
open Go.RowKit Go.Maps Go.ChangeMaps

section
variable {w : World} {F : Nat → Prop} {d : Nat} {D : Dv} {Y : RLay}
set_option maxRecDepth 100000 in
theorem rwrite_any (h : RdIs w F d D Y) (i : Int) (A : Option Addr) (n c : Nat) (b : Bytes) (hn : b.length = n) (hrd : Rd w A b) (hAF : 0 < n → ∀ ad, A = some ad → ¬ F ad.block) :
    Calls Tryd.prog 24 #[.pointer (some ⟨d, 0, none⟩), .int .i64 i, .slice A n c] w (RwAns w F d (wrD D i b)) := by
  obtain ⟨⟨c0, c1, c2, c3⟩, -⟩ := fourF h.hd
  have HH : Hidden (RdIs w F d D Y ∧ Keep F w w ∧ ∀ k, F k → F k ∨ w.heap.size ≤ k) := ⟨h, Keep.refl _ _, fun _ hq => .inl hq⟩
  by_cases h1 : i < 0
  · have t1 : decide (i < 0) = true := by simpa using h1
    have HR : Hidden (wrD D i b = (D, 1)) := ⟨by unfold wrD; rw [if_pos (.inl h1)]⟩
    clear h h1 hrd hAF hn
    go_enter Tryd.func24, Tryd.ntmps24
    go_wp2_with fail
    go_ret
    exact RwAns.mk HR.out rfl HH.out
  have t1 : decide (i < 0) = false := by simpa using h1
  by_cases h2 : (D.S.length : Int) ≤ i
  · have t2 : decide ((D.S.length : Int) ≤ i) = true := by simpa using h2
    have HR : Hidden (wrD D i b = (D, 1)) := ⟨by unfold wrD; rw [if_pos (.inr h2)]⟩
    clear h h1 h2 hrd hAF hn
    go_enter Tryd.func24, Tryd.ntmps24
    go_wp2_with fail
    go_ret
    exact RwAns.mk HR.out rfl HH.out
  obtain ⟨i, rfl⟩ : ∃ k : Nat, i = k := ⟨i.toNat, by omega⟩
  have hi : i < D.S.length := by omega
  have t2 : decide ((D.S.length : Int) ≤ (i : Int)) = false := by simpa using h2
  have t3 : decide (D.S.length ≤ i) = false := by simp; omega
  by_cases h3 : n = 32
  · subst h3
    cases hd : D.down with
    | true =>
      have HR : Hidden (wrD D (i : Int) b = (D, 9)) := ⟨by unfold wrD; rw [if_neg (by omega), if_neg (by omega), if_pos hd]⟩
      rw [hd] at c3
      clear h h1 h2 hrd hAF hn hd hi
      go_enter Tryd.func24, Tryd.ntmps24
      go_wp2_with fail
      go_ret
      exact RwAns.mk HR.out rfl HH.out
    | false => exact rwrite_ok h i A c b hi hd hn hrd (hAF (by omega))
  · have t4 : ((n : Int) != 32) = true := by simp; omega
    have HR : Hidden (wrD D (i : Int) b = (D, 3)) := ⟨by unfold wrD; rw [if_neg (by omega), if_pos (by omega)]⟩
    clear h h1 h2 hrd hAF hn hi h3
    go_enter Tryd.func24, Tryd.ntmps24
    go_wp2_with fail
    go_ret
    exact RwAns.mk HR.out rfl HH.out
end
/-- both devices -/
structure Dv2 (w0 w : World) (Fp Fr : Nat → Prop) (dp dr : Nat) (Dp Dr : Dv) : Prop where
  p : DevB w0 w Fp dp Dp
  r : ∃ Y, RdIs w Fr dr Dr Y
  dj : ∀ q, Fp q → ¬ Fr q
  rn : ∀ q, Fr q → w0.heap.size ≤ q
section
variable {w0 w w' : World} {Fp Fr F' : Nat → Prop} {dp dr : Nat} {Dp Dr D' : Dv}
theorem Dv2.rlt (h : Dv2 w0 w Fp Fr dp dr Dp Dr) : ∀ q, Fr q → q < w.heap.size := by obtain ⟨Y, hY⟩ := h.r; exact hY.flt
theorem Dv2.below (h : Dv2 w0 w Fp Fr dp dr Dp Dr) (hb : Below w.heap.size w w') : Dv2 w0 w' Fp Fr dp dr Dp Dr := by
  obtain ⟨Y, hY⟩ := h.r
  exact ⟨h.p.below hb, ⟨Y, hY.below hb⟩, h.dj, h.rn⟩
theorem Dv2.stepP (h : Dv2 w0 w Fp Fr dp dr Dp Dr) (hp : DevB w0 w' F' dp D') (hk : Keep Fp w w') (hs : ∀ q, F' q → Fp q ∨ w.heap.size ≤ q) : Dv2 w0 w' F' Fr dp dr D' Dr := by
  obtain ⟨Y, hY⟩ := h.r
  exact ⟨hp, ⟨Y, hY.keep hk (fun q hq hp => h.dj q hp hq)⟩, fun q hq hr => by
    rcases hs q hq with h' | h'
    · exact h.dj q h' hr
    · have := hY.flt q hr; omega, h.rn⟩
theorem Dv2.stepR (h : Dv2 w0 w Fp Fr dp dr Dp Dr) {Y' : RLay} (hr : RdIs w' F' dr D' Y') (hk : Keep Fr w w') (hs : ∀ q, F' q → Fr q ∨ w.heap.size ≤ q) : Dv2 w0 w' Fp F' dp dr Dp D' :=
  ⟨h.p.keep hk (fun q hq hr => h.dj q hq hr) h.rn, ⟨Y', hr⟩, fun q hq hr => by
    rcases hs q hr with h' | h'
    · exact h.dj q hq h'
    · have := h.p.flt q hq; omega, fun q hq => by
    rcases hs q hq with h' | h'
    · exact h.rn q h'
    · exact Nat.le_trans h.p.bel.size h'⟩
/-- a block of the law's own, beside both -/
def Own2 (w : World) (Fp Fr : Nat → Prop) (q : Nat) (o : Obj) : Prop := w.heap[q]? = some o ∧ ¬ Fp q ∧ ¬ Fr q
theorem Own2.below {q : Nat} {o : Obj} (h : Own2 w Fp Fr q o) (hb : Below w.heap.size w w') : Own2 w' Fp Fr q o := ⟨(hb.block q (Array.getElem?_eq_some_iff.1 h.1).1).trans h.1, h.2⟩
theorem Own2.stepP {q : Nat} {o : Obj} (h : Own2 w Fp Fr q o) (hk : Keep Fp w w') (hs : ∀ q, F' q → Fp q ∨ w.heap.size ≤ q) : Own2 w' F' Fr q o := by
  have hl := (Array.getElem?_eq_some_iff.1 h.1).1
  exact ⟨(hk.block q hl h.2.1).trans h.1, fun hf => by
    rcases hs q hf with h' | h'
    · exact h.2.1 h'
    · omega, h.2.2⟩
theorem Own2.stepR {q : Nat} {o : Obj} (h : Own2 w Fp Fr q o) (hk : Keep Fr w w') (hs : ∀ q, F' q → Fr q ∨ w.heap.size ≤ q) : Own2 w' Fp F' q o := by
  have hl := (Array.getElem?_eq_some_iff.1 h.1).1
  exact ⟨(hk.block q hl h.2.2).trans h.1, h.2.1, fun hf => by
    rcases hs q hf with h' | h'
    · exact h.2.2 h'
    · omega⟩
end
end Go.Proofs.YtmhlnbbnanehiaaDoor
/- What comes in: the program's own slices, opened. -/
namespace Go.Proofs.YtmhlnbbnanehiaaDoor
open Go.RowKit Go.ChangeShapes Go.WideShapes Go.ChangeAt

section
variable {H : Type} {enc : TypeId × Value → H} {w : World} {v : Value} {d : DataW H} {ps : List MemPlace} {base : Nat} {r : Reach}
set_option maxRecDepth 20000 in
theorem open_pages (hv : Value.okWide Tryd.prog w r base 64 v) (h : DataW.Trod enc Tryd.prog w 0 (fun _ => true) true 64 v d ps) (hz : (d.weights Tryd.prog 64).all (· ≤ reachBytes) = true) :
    ∃ (A : Option Addr) (c : Nat) (L : List PgX), v = .slice A L.length c ∧ L.length ≤ c ∧ c ≤ 140737488351232 ∧ (∀ x ∈ L, PgOk w x) ∧ RdX pcells 2 w A L := by
  have hb : decide (1 ≤ Tryd.prog.bytesOf 69) = true := by kernel_rfl
  have hC : Tryd.prog.cellsOf 69 = 2 := by kernel_rfl
  refine open_seq (P := Tryd.prog) pcells 2 PgOk Tryd.underlying64 hC (by omega) (of_decide_eq_true hb) (fun n cs x hl ht hz => ?_) hv h hz
  obtain ⟨v0, v1, y0, y1, m, rfl, t0, t1, z0, z1⟩ := open_two Tryd.underlying69 ⟨rfl, by kernel_rfl⟩ ⟨rfl, by kernel_rfl⟩ hl ht hz
  obtain ⟨a, ha, -, wa⟩ := DataW.trod_int Tryd.underlying3 t0
  obtain ⟨A, c, l, hb, hc, hm, hr⟩ := open_bytes_in Tryd.underlying22 Tryd.underlying5 (by kernel_rfl) (by kernel_rfl) t1 z1
  simp only [List.cons.injEq, and_true] at ha
  have hw := wf_i64' wa
  exact ⟨⟨a, A, c, l⟩, by rw [ha, hb]; rfl, hw.1, hw.2, hc, hm, hr⟩
set_option maxRecDepth 20000 in
/-- booleans that came in -/
theorem open_bools (hv : Value.okWide Tryd.prog w r base 47 v) (h : DataW.Trod enc Tryd.prog w 0 (fun _ => true) true 47 v d ps) (hz : (d.weights Tryd.prog 47).all (· ≤ reachBytes) = true) :
    ∃ (A : Option Addr) (c : Nat) (L : List Bool), v = .slice A L.length c ∧ L.length ≤ c ∧ c ≤ 140737488351232 ∧ (∀ x ∈ L, True) ∧ RdX (fun b => [.bool b]) 1 w A L := by
  have hb : decide (1 ≤ Tryd.prog.bytesOf 4) = true := by kernel_rfl
  have hC : Tryd.prog.cellsOf 4 = 1 := by kernel_rfl
  refine open_seq (P := Tryd.prog) (fun b => [.bool b]) 1 (fun _ _ => True) Tryd.underlying47 hC (by omega) (of_decide_eq_true hb) (fun n cs x hl ht hz => ?_) hv h hz
  match cs, hl with
  | [c0], _ =>
    obtain ⟨b, hb, _⟩ := DataW.trod_bool Tryd.underlying4 ht
    exact ⟨b, by simpa using hb, trivial⟩
end
end Go.Proofs.YtmhlnbbnanehiaaDoor
/- What comes in: slices of slices of pages, of numbers, of bytes. -/
namespace Go.Proofs.YtmhlnbbnanehiaaDoor
open Go.RowKit Go.ChangeShapes Go.WideShapes Go.ChangeAt

section
variable {H : Type} {enc : TypeId × Value → H} {P : Program} {w : World}
/-- a slice within something else -/
theorem open_seq_in {X : Type} [Inhabited X] (cells : X → List Value) (C : Nat) (ok : World → X → Prop) {t e : TypeId} {cs : List Value} {d : DataW H × List MemPlace} {n0 : Nat} (ht : P.underlying t = some (.slice e)) (hC : P.cellsOf e = C) (hC0 : 0 < C) (hb : 1 ≤ P.bytesOf e)
    (hel : ∀ n cs x, cs.length = C → DataW.trod enc P w 0 (fun _ => true) true n e cs = some x → (x.1.weights P e).all (· ≤ reachBytes) = true → ∃ y : X, cs = cells y ∧ ok w y)
    (hf : DataW.trod enc P w 0 (fun _ => true) true n0 t cs = some d) (hz : (d.1.weights P t).all (· ≤ reachBytes) = true) :
    ∃ (A : Option Addr) (c : Nat) (L : List X), cs = [.slice A L.length c] ∧ L.length ≤ c ∧ c ≤ 140737488351232 ∧ (∀ x ∈ L, ok w x) ∧ RdX cells C w A L := by
  rcases Go.Deep.open_slice ht hf with ⟨hcs, _⟩ | ⟨a, len0, m, m2, n, D, Pl, hcs, _, hl, hm, hmm, hx, hi⟩
  · exact ⟨none, 0, [], by simpa using hcs, by simp, by omega, fun x hx => by simp at hx, fun i hi => by simp at hi⟩
  · simp only [if_true] at hmm
    subst hmm
    rw [hx] at hz
    rw [DataW.weights, ht] at hz
    simp only [List.all_cons, List.all_append, Bool.and_eq_true, decide_eq_true_eq, List.length_map, List.length_range] at hz
    have hreach : m2 ≤ 140737488351232 := by
      have h3 : reachBytes = 140737488351232 := by decide
      have h4 := hz.1
      rw [h3] at h4
      have h5 : (len0 + (m2 - len0)) * 1 ≤ (len0 + (m2 - len0)) * P.bytesOf e := Nat.mul_le_mul_left _ hb
      omega
    have hex : ∀ i, i < len0 → ∃ y : X, ok w y ∧ w.cells? 0 (a.add (i * C)) C = some (cells y) := fun i hil => by
      obtain ⟨cs', h1, h2⟩ := hi i (by omega)
      obtain ⟨y, hy, hok⟩ := hel n cs' _ (by rw [← hC]; exact (World.cells?_some h1).2.1) h2 (weights_all _ _ hz.2.1 _ (List.mem_map.2 ⟨i, List.mem_range.2 hil, rfl⟩))
      refine ⟨y, hok, ?_⟩
      rw [← hy, ← hC]; exact h1
    obtain ⟨Y, hY⟩ := Go.Deep.choose_lt (α := X) (p := fun i y => ok w y ∧ w.cells? 0 (a.add (i * C)) C = some (cells y)) hex
    have hlen : ((List.range len0).map Y).length = len0 := by simp
    refine ⟨some a, m2, (List.range len0).map Y, by rw [hlen]; simpa using hcs, by rw [hlen]; exact hl, hreach, fun x hx => ?_, fun i hil => ?_⟩
    · obtain ⟨i, hi', rfl⟩ := List.mem_map.1 hx
      exact (hY i (List.mem_range.1 hi')).1
    · rw [hlen] at hil
      obtain ⟨_, h2⟩ := hY i hil
      obtain ⟨_, hcl, hat⟩ := World.cells?_some h2
      have hYi : ((List.range len0).map Y)[i]'(by rw [hlen]; exact hil) = Y i := by simp
      rw [hYi]
      obtain ⟨b, off, spot⟩ := a
      have hcell : ∀ q u, (cells (Y i))[q]? = some u → w.cell? ((⟨b, off, spot⟩ : Addr).add (i * C + q)) = some u := fun q u hq => by
        have hql : q < C := by have := (List.getElem?_eq_some_iff.1 hq).1; omega
        rw [← Go.Deep.add_add, hat q hql, hq]
      have hs : spot = none := by
        obtain ⟨_, h20⟩ := hY 0 (by omega)
        obtain ⟨_, hcl0, hat0⟩ := World.cells?_some h20
        have h0 := hat0 0 hC0
        rw [List.getElem?_eq_getElem (by omega), Nat.zero_mul] at h0
        simpa [Addr.add] using World.cell?_spot h0
      subst hs
      refine ⟨b, off, rfl, fun q u hq => ?_⟩
      have := hcell q u hq
      rw [Addr.add_lit, ← Nat.add_assoc] at this
      exact this
end
/-- a list of lists -/
structure SubX (X : Type) where
  A : Option Addr
  cap : Nat
  L : List X
  deriving Inhabited
def scells {X : Type} (x : SubX X) : List Value := [.slice x.A x.L.length x.cap]
structure SubOk {X : Type} (cells : X → List Value) (C : Nat) (ok : World → X → Prop) (w : World) (x : SubX X) : Prop where
  cap : x.L.length ≤ x.cap
  le : x.cap ≤ 140737488351232
  ok : ∀ y ∈ x.L, ok w y
  rd : RdX cells C w x.A x.L
section
variable {H : Type} {enc : TypeId × Value → H} {w : World} {v : Value} {d : DataW H} {ps : List MemPlace} {base : Nat} {r : Reach}
end
end Go.Proofs.YtmhlnbbnanehiaaDoor
/- What comes in: slices of ints. -/
namespace Go.Proofs.YtmhlnbbnanehiaaDoor
open Go.RowKit Go.ChangeShapes Go.WideShapes Go.ChangeAt

def icell (x : Int) : List Value := [.int .i64 x]
section
variable {H : Type} {enc : TypeId × Value → H} {w : World} {v : Value} {d : DataW H} {ps : List MemPlace} {base : Nat} {r : Reach}
set_option maxRecDepth 20000 in
theorem open_ints (hv : Value.okWide Tryd.prog w r base 40 v) (h : DataW.Trod enc Tryd.prog w 0 (fun _ => true) true 40 v d ps) (hz : (d.weights Tryd.prog 40).all (· ≤ reachBytes) = true) :
    ∃ (A : Option Addr) (c : Nat) (L : List Int), v = .slice A L.length c ∧ L.length ≤ c ∧ c ≤ 140737488351232 ∧ (∀ x ∈ L, -9223372036854775808 ≤ x ∧ x ≤ 9223372036854775807) ∧ RdX icell 1 w A L := by
  have hb : decide (1 ≤ Tryd.prog.bytesOf 3) = true := by kernel_rfl
  have hC : Tryd.prog.cellsOf 3 = 1 := by kernel_rfl
  refine open_seq (P := Tryd.prog) icell 1 (fun _ x => -9223372036854775808 ≤ x ∧ x ≤ 9223372036854775807) Tryd.underlying40 hC (by omega) (of_decide_eq_true hb) (fun n cs x hl ht hz => ?_) hv h hz
  match cs, hl with
  | [c0], _ =>
    obtain ⟨a, ha, -, wa⟩ := DataW.trod_int Tryd.underlying3 ht
    obtain ⟨lo, hi⟩ := wf_i64' wa
    exact ⟨a, by simpa [icell] using ha, lo, hi⟩
end
end Go.Proofs.YtmhlnbbnanehiaaDoor
/- What comes in: slices of slices of bytes, of numbers. -/
namespace Go.Proofs.YtmhlnbbnanehiaaDoor
open Go.RowKit Go.ChangeShapes Go.WideShapes Go.ChangeAt

/-- a list of bytes as it came in -/
structure BX where
  A : Option Addr
  cap : Nat
  body : Bytes
  deriving Inhabited
def bcells (x : BX) : List Value := [.slice x.A x.body.length x.cap]
structure BOk (w : World) (x : BX) : Prop where
  cap : x.body.length ≤ x.cap
  le : x.cap ≤ 140737488351232
  rd : Rd w x.A x.body
section
variable {H : Type} {enc : TypeId × Value → H} {w : World} {v : Value} {d : DataW H} {ps : List MemPlace} {base : Nat} {r : Reach}
set_option maxRecDepth 20000 in
theorem open_rows (hv : Value.okWide Tryd.prog w r base 43 v) (h : DataW.Trod enc Tryd.prog w 0 (fun _ => true) true 43 v d ps) (hz : (d.weights Tryd.prog 43).all (· ≤ reachBytes) = true) :
    ∃ (A : Option Addr) (c : Nat) (L : List BX), v = .slice A L.length c ∧ L.length ≤ c ∧ c ≤ 140737488351232 ∧ (∀ x ∈ L, BOk w x) ∧ RdX bcells 1 w A L := by
  have hb2 : decide (1 ≤ Tryd.prog.bytesOf 22) = true := by kernel_rfl
  have hC2 : Tryd.prog.cellsOf 22 = 1 := by kernel_rfl
  refine open_seq (P := Tryd.prog) bcells 1 BOk Tryd.underlying43 hC2 (by omega) (of_decide_eq_true hb2) (fun n cs x hl ht hz => ?_) hv h hz
  match cs, hl with
  | [c0], _ =>
    obtain ⟨A, c, l, hb, hc, hm, hr⟩ := open_bytes_in Tryd.underlying22 Tryd.underlying5 (by kernel_rfl) (by kernel_rfl) ht hz
    exact ⟨⟨A, c, l⟩, by rw [hb]; rfl, hc, hm, hr⟩
set_option maxRecDepth 20000 in
theorem open_introws (hv : Value.okWide Tryd.prog w r base 46 v) (h : DataW.Trod enc Tryd.prog w 0 (fun _ => true) true 46 v d ps) (hz : (d.weights Tryd.prog 46).all (· ≤ reachBytes) = true) :
    ∃ (A : Option Addr) (c : Nat) (L : List (SubX Int)), v = .slice A L.length c ∧ L.length ≤ c ∧ c ≤ 140737488351232 ∧ (∀ x ∈ L, SubOk icell 1 (fun _ y => -9223372036854775808 ≤ y ∧ y ≤ 9223372036854775807) w x) ∧ RdX scells 1 w A L := by
  have hb : decide (1 ≤ Tryd.prog.bytesOf 3) = true := by kernel_rfl
  have hb2 : decide (1 ≤ Tryd.prog.bytesOf 40) = true := by kernel_rfl
  have hC : Tryd.prog.cellsOf 3 = 1 := by kernel_rfl
  have hC2 : Tryd.prog.cellsOf 40 = 1 := by kernel_rfl
  refine open_seq (P := Tryd.prog) scells 1 (SubOk icell 1 (fun _ y => -9223372036854775808 ≤ y ∧ y ≤ 9223372036854775807)) Tryd.underlying46 hC2 (by omega) (of_decide_eq_true hb2) (fun n cs x hl ht hz => ?_) hv h hz
  obtain ⟨A, c, L, e, h1, h2, h3, h4⟩ := open_seq_in (P := Tryd.prog) icell 1 (fun _ y => -9223372036854775808 ≤ y ∧ y ≤ 9223372036854775807) Tryd.underlying40 hC (by omega) (of_decide_eq_true hb) (fun n cs x hl ht hz => by
    match cs, hl with
    | [c0], _ =>
      obtain ⟨a, ha, -, wa⟩ := DataW.trod_int Tryd.underlying3 ht
      obtain ⟨lo, hi⟩ := wf_i64' wa
      exact ⟨a, by simpa [icell] using ha, lo, hi⟩) ht hz
  exact ⟨⟨A, c, L⟩, e, h1, h2, h3, h4⟩
end
end Go.Proofs.YtmhlnbbnanehiaaDoor
/- The contracts of errors.As at a target that points to an api.Errno, of plain.Told and of vaultsame.Error. After the guide's worked example on errors.As at a concrete target. -/
namespace Go.Proofs.YtmhlnbbnanehiaaDoor
open Go.RowKit Go.Extern.Stop Go.Stop Go.Extern

/-- errors.As(nil, target) -/
theorem as_nil (t : Value) (w : World) :
    Calls Tryd.prog 88 #[.nilIface, t] w fun e w' => e = .returned (.bool false) ∧ w' = w := by
  go_enter Tryd.func88, Tryd.ntmps88
  go_wp2
  go_ret
  exact ⟨rfl, rfl⟩

theorem rl_valueOfP (t : Addr) (w : World) : (ReflectliteValue.unpack (.iface 146 (.pointer (some t)))).run Tryd.prog w
    = .ok (.agg #[.pointer (some ⟨1, 146, none⟩), .pointer (some ⟨w.heap.size, 0, none⟩), .int .u64 150]) (w.alloc (.cells #[.pointer (some t)] 146)) := by kernel_rfl
theorem rl_typeP (a : Addr) (w : World) : (ReflectliteValue.methodAny (ReflectliteValue.valueError "reflectlite.Value.Type" 0) (fun t _ _ _ => ReflectliteType.toType t) #[.agg #[.pointer (some ⟨1, 146, none⟩), .pointer (some a), .int .u64 150]]).run Tryd.prog w
    = .ok (.iface 173 (.agg #[.pointer (some ⟨1, 146, none⟩)])) w := by kernel_rfl
theorem rl_kindP (w : World) : ((ReflectliteType.abiMethod fun t => (fun a : Nat => Value.int IntKind.u8 (a : Int)) <$> Rtype.kind t) #[.pointer (some ⟨1, 146, none⟩)]).run Tryd.prog w = .ok (.int .u8 22) w := by kernel_rfl
theorem rl_kindE (w : World) : ((ReflectliteType.abiMethod fun t => (fun a : Nat => Value.int IntKind.u8 (a : Int)) <$> Rtype.kind t) #[.pointer (some ⟨1, 103, none⟩)]).run Tryd.prog w = .ok (.int .u8 2) w := by kernel_rfl
theorem rl_m (z : Sem Value) (f : TypeId → Addr → Nat → Nat → Sem Value) (v : Value) :
    ReflectliteValue.method z f #[v] = (do match ← ReflectliteValue.parts v with | none => z | some (t, a, fl) => f t a fl (fl % 32)) := rfl
theorem rl_partsP (a : Addr) (w : World) : (ReflectliteValue.parts (.agg #[.pointer (some ⟨1, 146, none⟩), .pointer (some a), .int .u64 150])).run Tryd.prog w = .ok (some (146, a, 150)) w := by kernel_rfl
theorem rl_isNilP (a p : Addr) (W : World) (ha : W.cell? a = some (.pointer (some p))) :
    (ReflectliteValue.method (ReflectliteValue.valueError "reflectlite.Value.IsNil" 0) ReflectliteValue.isNil #[.agg #[.pointer (some ⟨1, 146, none⟩), .pointer (some a), .int .u64 150]]).run Tryd.prog W = .ok (.bool false) W := by
  rw [rl_m]
  simp only [Sem.run_bind, rl_partsP, Result.andThen]
  simp [ReflectliteValue.isNil, loadVar, isAgg, underlying, Tryd.underlying146, ha, Result.andThen]
theorem rl_elemP (w : World) : (ReflectliteType.method ReflectliteType.elem #[.agg #[.pointer (some ⟨1, 146, none⟩)]]).run Tryd.prog w = .ok (.iface 173 (.agg #[.pointer (some ⟨1, 103, none⟩)])) w := by kernel_rfl
theorem rl_implE (w : World) : (ReflectliteType.relation "Implements" ReflectliteType.implements_ #[.agg #[.pointer (some ⟨1, 103, none⟩)], .iface 173 (.agg #[.pointer (some ⟨1, 25, none⟩)])]).run Tryd.prog w = .ok (.bool true) w := by kernel_rfl
theorem rl_typeOfE (v : Value) (w : World) : (ReflectliteType.typeOf #[.iface 103 v]).run Tryd.prog w = .ok (.iface 173 (.agg #[.pointer (some ⟨1, 103, none⟩)])) w := by kernel_rfl
theorem rl_assignE (w : World) : (ReflectliteType.relation "AssignableTo" ReflectliteType.assignableTo #[.agg #[.pointer (some ⟨1, 103, none⟩)], .iface 173 (.agg #[.pointer (some ⟨1, 103, none⟩)])]).run Tryd.prog w = .ok (.bool true) w := by kernel_rfl
theorem rl_valueOfE (k : Int) (w : World) : (ReflectliteValue.unpack (.iface 103 (.int .i64 k))).run Tryd.prog w
    = .ok (.agg #[.pointer (some ⟨1, 103, none⟩), .pointer (some ⟨w.heap.size, 0, none⟩), .int .u64 130]) (w.alloc (.cells #[.int .i64 k] 103)) := by kernel_rfl
theorem rl_elemOfP (w : World) : (Rtype.elem? 146).run Tryd.prog w = .ok (some 103) w := by kernel_rfl
theorem rl_mkE (p : Addr) (w : World) : (ReflectliteValue.mk 103 p ReflectliteValue.flagAddr).run Tryd.prog w = .ok (.agg #[.pointer (some ⟨1, 103, none⟩), .pointer (some p), .int .u64 386]) w := by kernel_rfl
theorem rl_elemVP (a p : Addr) (W : World) (ha : W.cell? a = some (.pointer (some p))) :
    (ReflectliteValue.method (ReflectliteValue.valueError "reflectlite.Value.Elem" 0) ReflectliteValue.elem #[.agg #[.pointer (some ⟨1, 146, none⟩), .pointer (some a), .int .u64 150]]).run Tryd.prog W
      = .ok (.agg #[.pointer (some ⟨1, 103, none⟩), .pointer (some p), .int .u64 386]) W := by
  rw [rl_m]
  simp only [Sem.run_bind, rl_partsP, Result.andThen]
  simp [ReflectliteValue.elem, loadVar, isAgg, underlying, Tryd.underlying146, ha, Result.andThen, rl_elemOfP, rl_mkE]
theorem rl_s (v x : Value) : ReflectliteValue.set #[v, x] = (do
    let (some (dst, a, fl), some (src, b, _)) := (← ReflectliteValue.parts v, ← ReflectliteValue.parts x)
      | unsupported (.noEntry "extern/(internal/reflectlite.Value).Set.zeroValue")
    if fl / ReflectliteValue.flagAddr % 2 == 0 then unsupported (.noEntry "extern/(internal/reflectlite.Value).Set.unaddressable")
    let val ← loadVar src b
    if ← Rtype.directlyAssignable dst src then storeVar dst a val
    else if ← Rtype.implements dst src then
      if (← Rtype.kind src) == 20 then
        match val with
        | .nilIface => unsupported (.noEntry "extern/reflectlite: a nil value of one interface type handed on as a value of another")
        | _ => storeVar dst a val
      else storeVar dst a (.iface src val)
    else panicString ("reflectlite.Set: value of type " ++ (← Rtype.spelt src) ++ " is not assignable to type " ++ (← Rtype.spelt dst))
    pure (.tuple #[])) := rfl
theorem rl_partsEa (a : Addr) (w : World) : (ReflectliteValue.parts (.agg #[.pointer (some ⟨1, 103, none⟩), .pointer (some a), .int .u64 386])).run Tryd.prog w = .ok (some (103, a, 386)) w := by kernel_rfl
theorem rl_partsE (a : Addr) (w : World) : (ReflectliteValue.parts (.agg #[.pointer (some ⟨1, 103, none⟩), .pointer (some a), .int .u64 130])).run Tryd.prog w = .ok (some (103, a, 130)) w := by kernel_rfl
theorem rl_directE (w : World) : (Rtype.directlyAssignable 103 103).run Tryd.prog w = .ok true w := by kernel_rfl
theorem rl_setE (ta b : Addr) (k : Int) (old : Value) (W : World) (hb : W.cell? b = some (.int .i64 k)) (ht : W.cell? ta = some old) (hf : W.frozen? ta = false) :
    (ReflectliteValue.set #[.agg #[.pointer (some ⟨1, 103, none⟩), .pointer (some ta), .int .u64 386], .agg #[.pointer (some ⟨1, 103, none⟩), .pointer (some b), .int .u64 130]]).run Tryd.prog W
      = .ok (.tuple #[]) (W.setCell ta (.int .i64 k)) := by
  rw [rl_s]
  simp only [Sem.run_bind, rl_partsEa, rl_partsE, Result.andThen]
  simp [ReflectliteValue.flagAddr, loadVar, isAgg, underlying, Tryd.underlying103, hb, Result.andThen, rl_directE, storeVar, Value.cells, storeCells, Addr.add]
  rw [run_store Tryd.prog W ta _ _ (by rfl)]
  simp [ht, hf]

/-- what the row's condition gives: the variable errors.errorType -/
def HasType (w : World) : Prop := w.cell? ⟨0, 0, none⟩ = some (.iface 173 (.agg #[.pointer (some ⟨1, 25, none⟩)]))
theorem HasType.below {B : Nat} {w w' : World} (h : HasType w) (hB : 0 < B) (hb : Below B w w') : HasType w' := (hb.cell (p := ⟨0, 0, none⟩) hB).trans h
theorem HasType.lt {w : World} (h : HasType w) : 0 < w.heap.size := block_lt_of_cell h
end Go.Proofs.YtmhlnbbnanehiaaDoor
/- The contracts of errors.As at a target that points to an api.Errno, of plain.Told and of vaultsame.Error. -/
namespace Go.Proofs.YtmhlnbbnanehiaaDoor
open Go.RowKit Go.Extern.Stop Go.Stop Go.Extern

theorem rl_methKind (n : Nat) (h : Value) (w : World) : (Go.method (n + 1) 173 (.agg #[h]) "Kind").run Tryd.prog w = .ok (155, h) w := by kernel_rfl
theorem rl_methElem (n : Nat) (h : Value) (w : World) : (Go.method (n + 1) 173 (.agg #[h]) "Elem").run Tryd.prog w = .ok (165, .agg #[h]) w := by kernel_rfl
theorem rl_methImpl (n : Nat) (h : Value) (w : World) : (Go.method (n + 1) 173 (.agg #[h]) "Implements").run Tryd.prog w = .ok (166, .agg #[h]) w := by kernel_rfl
theorem rl_methAssign (n : Nat) (h : Value) (w : World) : (Go.method (n + 1) 173 (.agg #[h]) "AssignableTo").run Tryd.prog w = .ok (163, .agg #[h]) w := by kernel_rfl

set_option maxRecDepth 100000 in
set_option maxHeartbeats 4000000 in
theorem as_errno (k : Int) (t : Addr) (old : Value) (w : World) (hg : HasType w) (ht0 : w.cell? t = some old) (hf0 : w.frozen? t = false) :
    Calls Tryd.prog 88 #[.iface 103 (.int .i64 k), .iface 146 (.pointer (some t))] w fun ev w' => ev = .returned (.bool true) ∧ w' = ((((w.alloc (.cells #[.pointer (some t)] 146)).alloc (.cells #[.pointer (some ⟨1, 146, none⟩), .pointer (some ⟨w.heap.size, 0, none⟩), .int .u64 150] 158)).alloc (.cells #[.pointer (some ⟨1, 146, none⟩), .pointer (some ⟨w.heap.size, 0, none⟩), .int .u64 150] 158)).alloc (.cells #[.int .i64 k] 103)).setCell t (.int .i64 k) := by
  have h6 := @run_callFunc_extern Tryd.prog 99 _ (fun args => ReflectliteValue.unpack (args.getD 0 (.tuple #[]))) Tryd.func99 (by kernel_rfl) (by kernel_rfl) (by kernel_rfl) (by kernel_rfl)
  have h7 := @run_callFunc_extern Tryd.prog 100 _ (ReflectliteValue.methodAny (ReflectliteValue.valueError "reflectlite.Value.Type" 0) (fun t _ _ _ => ReflectliteType.toType t)) Tryd.func100 (by kernel_rfl) (by kernel_rfl) (by kernel_rfl) (by kernel_rfl)
  have h8 := @run_callFunc_extern Tryd.prog 101 _ (ReflectliteValue.method (ReflectliteValue.valueError "reflectlite.Value.IsNil" 0) ReflectliteValue.isNil) Tryd.func101 (by kernel_rfl) (by kernel_rfl) (by kernel_rfl) (by kernel_rfl)
  have h27 := @run_callFunc_extern Tryd.prog 155 _ (ReflectliteType.abiMethod fun t => do pure (.int .u8 (← Rtype.kind t))) Tryd.func155 (by kernel_rfl) (by kernel_rfl) (by kernel_rfl) (by kernel_rfl)
  have h37 := @run_callFunc_extern Tryd.prog 165 _ (ReflectliteType.method ReflectliteType.elem) Tryd.func165 (by kernel_rfl) (by kernel_rfl) (by kernel_rfl) (by kernel_rfl)
  have h38 := @run_callFunc_extern Tryd.prog 166 _ (ReflectliteType.relation "Implements" ReflectliteType.implements_) Tryd.func166 (by kernel_rfl) (by kernel_rfl) (by kernel_rfl) (by kernel_rfl)
  have h10 := @run_callFunc_extern Tryd.prog 109 _ ReflectliteType.typeOf Tryd.func109 (by kernel_rfl) (by kernel_rfl) (by kernel_rfl) (by kernel_rfl)
  have h35 := @run_callFunc_extern Tryd.prog 163 _ (ReflectliteType.relation "AssignableTo" ReflectliteType.assignableTo) Tryd.func163 (by kernel_rfl) (by kernel_rfl) (by kernel_rfl) (by kernel_rfl)
  have h11 := @run_callFunc_extern Tryd.prog 110 _ (ReflectliteValue.method (ReflectliteValue.valueError "reflectlite.Value.Elem" 0) ReflectliteValue.elem) Tryd.func110 (by kernel_rfl) (by kernel_rfl) (by kernel_rfl) (by kernel_rfl)
  have h12 := @run_callFunc_extern Tryd.prog 111 _ ReflectliteValue.set Tryd.func111 (by kernel_rfl) (by kernel_rfl) (by kernel_rfl) (by kernel_rfl)
  have tO := rl_typeOfE
  have aE := rl_assignE
  have vE := rl_valueOfE
  have f6 := rl_valueOfP
  have f7 := rl_typeP
  have mK := rl_methKind
  have mE := rl_methElem
  have mI := rl_methImpl
  have mA := rl_methAssign
  have kP := rl_kindP
  have kE := rl_kindE
  have eP := rl_elemP
  have iE := rl_implE
  have n8 := rl_isNilP ⟨w.heap.size, 0, none⟩ t ((w.alloc (.cells #[.pointer (some t)] 146)).alloc (.cells #[.pointer (some ⟨1, 146, none⟩), .pointer (some ⟨w.heap.size, 0, none⟩), .int .u64 150] 158)) (by simp)
  have hlt : 0 < w.heap.size := hg.lt
  unfold HasType at hg
  have hg2 : ((w.alloc (.cells #[.pointer (some t)] 146)).alloc (.cells #[.pointer (some ⟨1, 146, none⟩), .pointer (some ⟨w.heap.size, 0, none⟩), .int .u64 150] 158)).cell? ⟨0, 0, none⟩ = some (.iface 173 (.agg #[.pointer (some ⟨1, 25, none⟩)])) := by
    rw [World.cell?_alloc_lt _ _ ⟨0, 0, none⟩ (by simp), World.cell?_alloc_lt _ _ ⟨0, 0, none⟩ hlt]; exact hg
  have htl : t.block < w.heap.size := by
    rcases Nat.lt_or_ge t.block w.heap.size with h | h
    · exact h
    · simp [World.cell?, Array.getElem?_eq_none h] at ht0
  have el := rl_elemVP ⟨w.heap.size, 0, none⟩ t (((w.alloc (.cells #[.pointer (some t)] 146)).alloc (.cells #[.pointer (some ⟨1, 146, none⟩), .pointer (some ⟨w.heap.size, 0, none⟩), .int .u64 150] 158)).alloc (.cells #[.pointer (some ⟨1, 146, none⟩), .pointer (some ⟨w.heap.size, 0, none⟩), .int .u64 150] 158)) (by rw [World.cell?_alloc_lt _ _ ⟨w.heap.size, 0, none⟩ (by simp; omega)]; simp)
  have st := rl_setE t ⟨w.heap.size + 1 + 1 + 1, 0, none⟩ k old ((((w.alloc (.cells #[.pointer (some t)] 146)).alloc (.cells #[.pointer (some ⟨1, 146, none⟩), .pointer (some ⟨w.heap.size, 0, none⟩), .int .u64 150] 158)).alloc (.cells #[.pointer (some ⟨1, 146, none⟩), .pointer (some ⟨w.heap.size, 0, none⟩), .int .u64 150] 158)).alloc (.cells #[.int .i64 k] 103))
    (by rw [World.cell?_alloc_at _ _ _ _ (by simp)]; rfl)
    (by rw [World.cell?_alloc_lt _ _ t (by simp; omega), World.cell?_alloc_lt _ _ t (by simp; omega), World.cell?_alloc_lt _ _ t (by simp; omega), World.cell?_alloc_lt _ _ t htl]; exact ht0)
    (by rw [World.frozen?_alloc_old _ _ t (by simp; omega), World.frozen?_alloc_old _ _ t (by simp; omega), World.frozen?_alloc_old _ _ t (by simp; omega), World.frozen?_alloc_old _ _ t (Nat.ne_of_lt htl)]; exact hf0)
  go_enter Tryd.func88, Tryd.ntmps88
  go_wp2
  refine wp_loop_rounds 1 ?_
  rw [rounds_succ]
  go_wp2
  go_ret
  exact ⟨rfl, rfl⟩
end Go.Proofs.YtmhlnbbnanehiaaDoor
/- The contracts of plain.Told and of vaultsame.Error. -/
namespace Go.Proofs.YtmhlnbbnanehiaaDoor
open Go.RowKit

theorem told_nil (w : World) : Calls Tryd.prog 64 #[.nilIface] w fun e w' => e = .returned (.int .i64 0) ∧ w = w' := by
  go_enter Tryd.func64, Tryd.ntmps64
  go_wp2_with fail
  go_ret
  exact ⟨rfl, rfl⟩
theorem told_errno (k : Int) (w : World) (hg : HasType w) : Calls Tryd.prog 64 #[.iface 103 (.int .i64 k)] w fun e w' => e = .returned (.int .i64 k) ∧ Below w.heap.size w w' := by
  have hW : Below w.heap.size w (w.alloc (.cells #[.int .i64 0] 103)) := (Below.refl _ _).alloc (Nat.le_refl _) _
  have hg1 := hg.below hg.lt hW
  have HC := Hidden.mk (as_errno k ⟨w.heap.size, 0, none⟩ (.int .i64 0) _ hg1 (by simp) (by simp))
  clear hg1
  go_enter Tryd.func64, Tryd.ntmps64
  go_wp2_with fail
  refine HC.out.mono ?_
  rintro e w' ⟨rfl, hw'⟩
  have hB : Below w.heap.size w w' := by
    rw [hw']
    exact ((((hW.alloc hW.size _).alloc (by simp; omega) _).alloc (by simp; omega) _).alloc (by simp; omega) _).setCell (p := ⟨w.heap.size, 0, none⟩) (Nat.le_refl _) _
  have hc : w'.cell? ⟨w.heap.size, 0, none⟩ = some (.int .i64 k) := by
    rw [hw']
    refine World.cell?_setCell_same' _ _ _ ?_
    rw [(((((Below.refl _ (w.alloc (.cells #[.int .i64 0] 103))).alloc (Nat.le_refl _) _).alloc (by simp) _).alloc (by simp) _).alloc (by simp) _).cell (p := ⟨w.heap.size, 0, none⟩) (by simp)]
    simp
  clear hw' HC hW
  go_wp2_with fail
  go_ret
  exact ⟨rfl, hB⟩
theorem err_nil (x : Int) (w : World) : Calls Tryd.prog 14 #[.nilIface, .int .i64 x] w fun e w' => e = .returned (.bool ((0 : Int) == x)) ∧ Below w.heap.size w w' := by
  go_enter Tryd.func14, Tryd.ntmps14
  go_wp2_with fail
  refine (told_nil _).mono ?_
  rintro e w' ⟨rfl, rfl⟩
  go_wp2_with fail
  go_ret
  exact ⟨rfl, Below.refl _ _⟩
theorem err_some (k x : Int) (w : World) (hg : HasType w) : Calls Tryd.prog 14 #[.iface 103 (.int .i64 k), .int .i64 x] w fun e w' => e = .returned (.bool (k == x)) ∧ Below w.heap.size w w' := by
  go_enter Tryd.func14, Tryd.ntmps14
  go_wp2_with fail
  refine (told_errno k _ hg).mono ?_
  rintro e w' ⟨rfl, hb⟩
  go_wp2_with fail
  go_ret
  exact ⟨rfl, hb⟩
/-- .. of an error that is nil or a number -/
theorem err_any (n : Nat) (x : Int) (w : World) (hg : HasType w) : Calls Tryd.prog 14 #[errV n, .int .i64 x] w fun e w' => e = .returned (.bool ((n : Int) == x)) ∧ Below w.heap.size w w' := by
  unfold errV
  by_cases h : n = 0
  · rw [if_pos h, h]; exact err_nil x w
  · rw [if_neg h]; exact err_some n x w hg
end Go.Proofs.YtmhlnbbnanehiaaDoor
/- vaultsame.Ints of lists that are the same. -/
namespace Go.Proofs.YtmhlnbbnanehiaaDoor
open Go.RowKit

def ncell (i : Nat) : List Value := [.int .i64 (i : Int)]
set_option maxRecDepth 100000 in
theorem sameInts_eq (A B : Option Addr) (ca cb n : Nat) (L : List Nat) (w : World) (hn : L.length = n) (hl : n ≤ 100000) (hA : RdX ncell 1 w A L) (hB : RdX ncell 1 w B L) :
    Calls Tryd.prog 16 #[.slice A n ca, .slice B n cb] w fun e w' => e = .returned (.bool true) ∧ Below w.heap.size w w' := by
  have HA := Hidden.mk hA
  have HB := Hidden.mk hB
  have HN := Hidden.mk hn
  clear hA hB hn
  go_enter Tryd.func16, Tryd.ntmps16
  go_wp2_with fail
  go_loopg [5] n (fun m i wr => ∃ j : Nat, j ≤ n ∧ m = n - j ∧ i = .int .i64 (j : Int) ∧ Hidden (Below w.heap.size w wr))
  case atStart => exact ⟨0, by omega, rfl, rfl, ⟨Below.refl _ _⟩⟩
  case round =>
    obtain ⟨j, hj, rfl, rfl, hbel⟩ := hrel
    by_cases hlt : j < n
    · have hjl : j < L.length := by rw [HN.out]; exact hlt
      have hp' := (HA.out.below hbel.out) j hjl
      obtain ⟨p, off, rfl, hp'⟩ := hp'
      have hq' := (HB.out.below hbel.out) j hjl
      obtain ⟨q, oq, rfl, hq'⟩ := hq'
      have x0 := hp' 0 _ rfl
      have y0 := hq' 0 _ rfl
      rw [Nat.add_zero, Nat.mul_one] at x0 y0
      have k0 : (0 : Int) ≤ j := by omega
      have k1 : (j : Int) < n := by omega
      have s1 : IntKind.i64.wrap ((j : Int) + 1) = (j : Int) + 1 := IntWalk.i64_in _ (by omega)
      have hse : ((L[j] : Int) == (L[j] : Int)) = true := by simp
      generalize (L[j] : Int) = b0 at *
      clear hp' hq'
      go_wp2_with fail
      go_quiet (fail)
      clear x0 y0
      have hbn := Hidden.mk (below_drewN hbel.out nq)
      go_wp2_with fail
      go_roundg (n - (j + 1))
      case measure => omega
      case rel => exact ⟨j + 1, by omega, rfl, by go_num, hbn⟩
    · obtain rfl : j = n := by omega
      go_wp2_with fail
      go_ret
      exact ⟨rfl, hbel.out⟩
theorem own_ints {w : World} {base n : Nat} {v : Value} {L : List Nat} (h : w.ownsRow base 3 1 v n (L.map fun i : Nat => .int .i64 (i : Int))) (hn : L.length = n) : ∃ A c, v = .slice A n c ∧ n ≤ c ∧ RdX ncell 1 w A L := by
  have e : (L.map fun i : Nat => Value.int .i64 (i : Int)) = L.flatMap ncell := by
    rw [List.map_eq_flatMap]; rfl
  rw [e] at h
  obtain ⟨A, c, rfl, hc, -⟩ := own_split h
  exact ⟨A, c, rfl, hc, own_rdX3 (fun _ => rfl) hn h⟩
end Go.Proofs.YtmhlnbbnanehiaaDoor
