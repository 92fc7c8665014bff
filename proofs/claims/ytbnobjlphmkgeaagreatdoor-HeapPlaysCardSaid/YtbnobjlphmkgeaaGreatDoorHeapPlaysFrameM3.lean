/- Contracts and plain laws, put together: RefC2, Heap1, Chk7, Ext1, SortP, LayX, Ext2, Ext3, Heap2, Heap3, Heap4, Heap5, RefC3, RefI5, Root1, Ext4, ExtP. -/
import Derived.Test.YtbnobjlphmkgeaaGreatDoorHeapPlaysFrameM2
import Derived.Deep.LoopGhost
import Derived.Deep.DeepCutAuto
import Derived.Test.YtbnobjlphmkgeaaGreatDoorHeapPlaysFrameM1
import Derived.Deep.RegionHeld3
import Derived.Shelf.SlSortCmp.WholeK
import Derived.Shelf.SlGeneric
import Derived.Ground.SlsfProg
import Derived.Shelf.SlSortCmp.NoneTotal
import Derived.StillTailTactics
/- The reference's Check: its contract. -/
namespace Go.Proofs.YtbnobjlphmkgeaaGreatDoor
open Go.RowKit

theorem FourAt.block {w w' : World} {p : Nat} {a b c d : Int} (h : FourAt w p a b c d) (hb : w'.heap[p]? = w.heap[p]?) : FourAt w' p a b c d :=
  ⟨(World.cell?_of_block (w := w) (a := ⟨p, 0, none⟩) hb).trans h.1, (World.cell?_of_block (w := w) (a := ⟨p, 1, none⟩) hb).trans h.2.1, (World.cell?_of_block (w := w) (a := ⟨p, 2, none⟩) hb).trans h.2.2.1, (World.cell?_of_block (w := w) (a := ⟨p, 3, none⟩) hb).trans h.2.2.2⟩
theorem size_setC (w : World) (a : Addr) (v : Value) : (w.setCell a v).heap.size = w.heap.size := by simp [World.setCell]
/-- the state of the walk: the faults so far, what is noted -/
structure CSt (w wr : World) (g : Nat) (v : Value) (F : List Flt) (f : Nat → Int) : Prop where
  bel : Below w.heap.size w wr
  own : wr.ownsRow w.heap.size 200 2 v F.length (F.flatMap fcells)
  row : IRow wr g 41 f
  gw : w.heap.size ≤ g
section
variable {w wr w' : World} {g : Nat} {v v' : Value} {F : List Flt} {f : Nat → Int}
theorem CSt.below (h : CSt w wr g v F f) (hb : Below wr.heap.size wr w') : CSt w w' g v F f := ⟨h.bel.trans (hb.mono h.bel.size), own_below h.own hb, h.row.below hb, h.gw⟩
theorem CSt.set (h : CSt w wr g v F f) (i : Nat) (x : Int) : CSt w (wr.setCell ⟨g, i, none⟩ (.int .i64 x)) g v F (updI f i x) :=
  ⟨h.bel.setCell (p := ⟨g, i, none⟩) h.gw _, ownsRow_block h.own fun q hq => Below.heap_setCell _ _ _ _ (fun e => h.row.ne h.own (by decide) (by rw [hq]; exact congrArg some (by simpa using e))), h.row.set i x, h.gw⟩
theorem CSt.add (h : CSt w wr g v F f) {x : Flt} (hg : wr.grownBy w' v.ownBlock) (h' : w'.ownsRow w.heap.size 200 2 v' (F.length + 1) (F.flatMap fcells ++ fcells x)) : CSt w w' g v' (F ++ [x]) f :=
  ⟨h.bel.grown hg h.bel.size (fun q hq => (h.own.lt q hq).1), by simpa using h', h.row.grown hg (h.row.ne h.own (by decide)), h.gw⟩
theorem CSt.congr {f' : Nat → Int} (h : CSt w wr g v F f) (he : ∀ i, f i = f' i) : CSt w wr g v F f' := ⟨h.bel, h.own, h.row.congr fun i _ => he i, h.gw⟩
theorem CSt.eqF {F' : List Flt} (h : CSt w wr g v F f) (he : F = F') : CSt w wr g v F' f := he ▸ h
end
set_option maxRecDepth 100000 in
set_option maxHeartbeats 2000000 in
theorem refCheck_ok (A : Option Addr) (n c : Nat) (l : Bytes) (w : World) (hn : l.length = n) (hr : rightB n = true) (hnc : n ≤ c) (hrd : Rd w A l) :
    Calls Tryz.prog 55 #[.slice A n c] w fun e w' => ∃ v, e = .returned v ∧ w'.ownsRow w.heap.size 200 2 v (checkL l).length ((checkL l).flatMap fcells) ∧ Below w.heap.size w w' := by
  have hnb := rightB_true.1 hr
  obtain ⟨i1, hi1, hy0, hy1, hy2⟩ := info_parts fault_info
  obtain ⟨i2, hi2, hx0, hx1, hx2⟩ := info_parts string_info
  obtain ⟨pb, ob, rfl, hpl⟩ := hrd.lt (by omega)
  have HCK : Hidden (checkL l = faultsH n (rawE l) 40 ++ faultsR (leadsE n (rawE l)) (rawR l) 8) := ⟨by unfold checkL; rw [hn]⟩
  have HENT : Hidden (∀ k : Nat, k < 40 → ∀ W, Below w.heap.size w W → Calls Tryz.prog 29 #[.slice (some ⟨pb, ob, none⟩) n c, .int .i64 ((k : Int) + 1)] W fun e w' => e = .returned (.tuple #[.agg #[.int .i64 ((k : Int) + 1), .int .i64 (rAt (rawE l k) : Int), .int .i64 (rLen (rawE l k) : Int), .int .i64 (rTag (rawE l k))], .bool (hasE (rawE l k))]) ∧ Below W.heap.size W w') :=
    ⟨fun k hk W hW => refEntry_ok _ n c l k W hn (by omega) hnc (hrd.below hW) hk⟩
  have HPUT : Hidden (∀ k : Nat, k < 40 → ∀ W, Below w.heap.size w W → Calls Tryz.prog 62 #[.slice (some ⟨pb, ob, none⟩) n c, .agg #[.int .i64 ((k : Int) + 1), .int .i64 (rAt (rawE l k) : Int), .int .i64 (rLen (rawE l k) : Int), .int .i64 (rTag (rawE l k))]] W fun e w' => ∃ A' n' c', e = .returned (.tuple #[.slice A' n' c', .int .i64 (entE n ((k : Int) + 1) (rAt (rawE l k)) (rLen (rawE l k)) (rTag (rawE l k)) : Int)]) ∧ Below W.heap.size W w') :=
    ⟨fun k hk W hW => (refPutEntry_any (some ⟨pb, ob, none⟩) n c l ((k : Int) + 1) (rAt (rawE l k)) (rLen (rawE l k)) (rTag (rawE l k)) W hn hr (hrd.below hW)).mono fun e w' ⟨A', c', he, _, hb⟩ => ⟨A', _, c', he, hb⟩⟩
  have HLEN : Hidden (∀ k : Nat, k < 40 → (rawE l k).length = 5) := ⟨fun k hk => rawE_len l k hk (by omega)⟩
  have HSTR : Hidden (∀ k : Nat, k < 40 → (entE n ((k : Int) + 1) (rAt (rawE l k)) (rLen (rawE l k)) (rTag (rawE l k)) = 0 ↔ strayE n (rawE l k) = false)) := ⟨fun k hk => stray_entE n k hk _⟩
  have HRAW : Hidden (∀ k : Nat, k < 8 → ∀ W, Below w.heap.size w W → Rd W (some ⟨pb, ob + (200 + 11 * k), none⟩) (rawR l k)) := ⟨fun k hk W hW => by
    have := rawR_rd (hrd.below hW) k hk (by omega)
    rwa [Option.map_some, Addr.add_lit] at this⟩
  have HLEN2 : Hidden (∀ k : Nat, k < 8 → (rawR l k).length = 11) := ⟨fun k hk => rawR_len l k hk (by omega)⟩
  have hmk := fun W => mk_ints 41 (by omega) W
  rw [show ((41 : Nat) : Int) = 41 from rfl] at hmk
  have HW0 := Hidden.mk (CSt.mk ((Below.refl w.heap.size w).alloc (Nat.le_refl _) (.cells (Array.replicate 41 (.int .i64 0)) 3)) (World.ownsRow_nil _ _ _ _) ((IRow.new w 41).congr (f' := whatF n (rawE l) 0) (fun i _ => by unfold whatF; rw [if_neg (by omega)])) (Nat.le_refl _) : CSt w _ w.heap.size (.slice none 0 0) (faultsH n (rawE l) 0) (whatF n (rawE l) 0))
  generalize rawE l = R at *
  generalize rawR l = S at *
  clear hrd hn
  go_enter Tryz.func55, Tryz.ntmps55
  go_wp2_with (simp only [hmk])
  clear hmk
  go_loopg [3, 5] 40 (fun q v i wr => ∃ k : Nat, k ≤ 40 ∧ q = 40 - k ∧ i = .int .i64 ((k : Int) + 1) ∧ Hidden (CSt w wr w.heap.size v (faultsH n R k) (whatF n R k)))
  case atStart => exact ⟨0, by omega, rfl, rfl, HW0⟩
  case round =>
    obtain ⟨k, hk, rfl, rfl, hst⟩ := hrel
    clear HW0
    by_cases hlt : k < 40
    · have t0 : decide ((k : Int) + 1 ≤ 40) = true := by simp; omega
      have s1 : IntKind.i64.wrap ((k : Int) + 1 + 1) = (k : Int) + 1 + 1 := IntWalk.i64_in _ (by omega)
      have hlF := faultsH_len n R k
      have HG := Hidden.mk (HENT.out k hlt wr hst.out.bel)
      have HSF := Hidden.mk (faultsH_succ n R k)
      have HL5 := Hidden.mk (HLEN.out k hlt)
      go_wp2_with fail
      refine HG.out.mono ?_
      rintro e w1 ⟨rfl, hb1⟩
      have hal := (Below.refl w1.heap.size w1).alloc (Nat.le_refl _) (.cells #[.int .i64 ((k : Int) + 1), .int .i64 (rAt (R k) : Int), .int .i64 (rLen (R k) : Int), .int .i64 (rTag (R k))] 66)
      have H2 := Hidden.mk ((hst.out.below hb1).below hal)
      have HF4 := Hidden.mk (fourAt_one w1 ((k : Int) + 1) (rAt (R k) : Int) (rLen (R k) : Int) (rTag (R k)) 66)
      have HBX : Hidden (w.heap.size < w1.heap.size) := ⟨Nat.lt_of_lt_of_le hst.out.row.lt hb1.size⟩
      clear hb1 hal hst HG
      cases hE : hasE (R k) with
      | false =>
        have HKK : Hidden (kindH n R k = if (decide (rAt (R k) = 0) && decide (rLen (R k) = 0)) = true then 0 else 3) := ⟨by unfold kindH; rw [hE, zero5 (R k) HL5.out hE]; simp⟩
        obtain ⟨f0, f1, f2, f3⟩ := HF4.out
        generalize rAt (R k) = a1 at *
        generalize rLen (R k) = a2 at *
        generalize rTag (R k) = a3 at *
        go_upto_region 7 with (fail)
        generalize w1.alloc (.cells #[.int .i64 ((k : Int) + 1), .int .i64 (a1 : Int), .int .i64 (a2 : Int), .int .i64 a3] 66) = w2 at *
        generalize w1.heap.size = bx at *
        by_cases z : a1 = 0 ∧ a2 = 0
        · obtain ⟨rfl, rfl⟩ := z
          have e1 : kindH n R k = 0 := by rw [HKK.out]; rfl
          have HN := Hidden.mk ((H2.out.eqF (show faultsH n R k = faultsH n R (k + 1) by rw [HSF.out, e1]; simp [fltOf])).congr (fun i => (whatF_zero n R k (by rw [e1]; rfl) i).symm))
          clear e1 H2 HF4 hE
          go_wp2_with fail
          go_roundg (40 - (k + 1))
          case measure => omega
          case rel => exact ⟨k + 1, by omega, rfl, by go_num, HN⟩
        · have e1 : kindH n R k = 3 := by rw [HKK.out, if_neg (by simpa using z)]
          have HFE : Hidden (faultsH n R (k + 1) = faultsH n R k ++ [⟨3, k + 1⟩]) := ⟨by rw [HSF.out, e1]; rfl⟩
          have HWE : Hidden (∀ i, whatF n R k i = whatF n R (k + 1) i) := ⟨fun i => (whatF_zero n R k (by rw [e1]; rfl) i).symm⟩
          clear e1 HKK hE HF4
          by_cases z1 : a1 = 0
          · have z2 : ¬ a2 = 0 := fun h => z ⟨z1, h⟩
            subst z1
            have t1 : ((a2 : Int) == 0) = false := by simp; omega
            clear z z2
            go_wp2_with (at_builtin; refine wpList_append_lies _ rfl (.tmp 49) (.tmp 52) _ rfl w.heap.size 200 i1 _ 2 16 Tryz.underlying90 hi1 hy0 hy1 hy2 rfl (by decide) u3 (faultsH n R k).length ((faultsH n R k).flatMap fcells) rfl (own_below H2.out.own ((Below.refl _ _).alloc (Nat.le_refl _) _)) ⟨(w2).heap.size, 0, none⟩ 1 1 [.int .i64 3, .int .i64 ((k : Int) + 1)] rfl rfl (World.news_of_block (cs := #[.int .i64 3, .int .i64 ((k : Int) + 1)]) (t := 200) (fr := (0, 0)) (heap_alloc_new (w2) _)) (by simp [Value.oneCell']) (by omega) (by simp only [maxLen]; omega) (by omega) (by have hz_ := H2.out.bel.size; rw [World.size_alloc]; omega) ((w2).heap.size + 1) (by simp) ?_; intro g8 cap8 w8 hown8 hg8 hat8 hlt8)
            have HN := Hidden.mk (((H2.out.add (x := ⟨3, k + 1⟩) (grown_trans' ((Below.refl _ _).alloc (Nat.le_refl _) _) hg8) hown8).eqF HFE.out.symm).congr HWE.out)
            clear hown8 hg8 hat8 hlt8 H2
            go_roundg (40 - (k + 1))
            case measure => omega
            case rel => exact ⟨k + 1, by omega, rfl, by go_num, HN⟩
          · have t1 : ((a1 : Int) == 0) = false := by simp; omega
            clear z z1
            go_wp2_with (at_builtin; refine wpList_append_lies _ rfl (.tmp 49) (.tmp 52) _ rfl w.heap.size 200 i1 _ 2 16 Tryz.underlying90 hi1 hy0 hy1 hy2 rfl (by decide) u3 (faultsH n R k).length ((faultsH n R k).flatMap fcells) rfl (own_below H2.out.own ((Below.refl _ _).alloc (Nat.le_refl _) _)) ⟨(w2).heap.size, 0, none⟩ 1 1 [.int .i64 3, .int .i64 ((k : Int) + 1)] rfl rfl (World.news_of_block (cs := #[.int .i64 3, .int .i64 ((k : Int) + 1)]) (t := 200) (fr := (0, 0)) (heap_alloc_new (w2) _)) (by simp [Value.oneCell']) (by omega) (by simp only [maxLen]; omega) (by omega) (by have hz_ := H2.out.bel.size; rw [World.size_alloc]; omega) ((w2).heap.size + 1) (by simp) ?_; intro g8 cap8 w8 hown8 hg8 hat8 hlt8)
            have HN := Hidden.mk (((H2.out.add (x := ⟨3, k + 1⟩) (grown_trans' ((Below.refl _ _).alloc (Nat.le_refl _) _) hg8) hown8).eqF HFE.out.symm).congr HWE.out)
            clear hown8 hg8 hat8 hlt8 H2
            go_roundg (40 - (k + 1))
            case measure => omega
            case rel => exact ⟨k + 1, by omega, rfl, by go_num, HN⟩
      | true =>
        have HKK : Hidden (kindH n R k = if strayE n (R k) = true then 1 else if anyO n R k k = true then 2 else 6) := ⟨by unfold kindH anyO; rw [hE]; simp⟩
        have HPK := Hidden.mk (HPUT.out k hlt)
        have HST := Hidden.mk (HSTR.out k hlt)
        have b1 := rAt_le (R k)
        have b2 := rLen_le (R k)
        have HOV : Hidden (∀ j, overE (R k) (R j) = (decide (rAt (R k) < rAt (R j) + rLen (R j)) && decide (rAt (R j) < rAt (R k) + rLen (R k)))) := ⟨fun _ => rfl⟩
        obtain ⟨f0, f1, f2, f3⟩ := HF4.out
        generalize hee : entE n ((k : Int) + 1) (rAt (R k)) (rLen (R k)) (rTag (R k)) = ee at *
        generalize rAt (R k) = a1 at *
        generalize rLen (R k) = a2 at *
        generalize rTag (R k) = a3 at *
        clear hE hee
        go_wp2_with fail
        generalize w1.alloc (.cells #[.int .i64 ((k : Int) + 1), .int .i64 (a1 : Int), .int .i64 (a2 : Int), .int .i64 a3] 66) = w2 at *
        generalize w1.heap.size = bx at *
        refine (HPK.out w2 H2.out.bel).mono ?_
        rintro e w3 ⟨A', n', c', rfl, hb3⟩
        have H3 := Hidden.mk (H2.out.below hb3)
        have HF3 := Hidden.mk (HF4.out.below hb3)
        clear hb3 H2 HF4 f0 f1 f2 f3 HPK
        by_cases hz : ee = 0
        · have hs := HST.out.1 hz
          have e1 : kindH n R k = if anyO n R k k = true then 2 else 6 := by rw [HKK.out, hs]; rfl
          have HKE := Hidden.mk e1
          subst hz
          clear e1 hs HST HKK
          have hcell := H3.out.row.cell (k + 1) (by omega)
          have hfr := H3.out.row.frozen (k + 1)
          have HF4 := Hidden.mk (HF3.out.block (w' := w3.setCell ⟨w.heap.size, k + 1, none⟩ (.int .i64 1)) (Below.heap_setCell _ _ _ _ (fun e => by have := HBX.out; simp at e; omega)))
          have H4 := Hidden.mk ((H3.out.set (k + 1) 1).congr (f' := updI (whatF n R k) (k + 1) (if anyO n R k 0 = true then 2 else 1)) (fun i => rfl))
          generalize whatF n R k (k + 1) = ov at hcell
          clear H3 HF3
          go_wp2_with fail
          generalize w3.setCell ⟨w.heap.size, k + 1, none⟩ (.int .i64 1) = w4 at *
          clear hcell hfr
          go_loopg [11] k (fun q i wr => ∃ j : Nat, j ≤ k ∧ q = k - j ∧ i = .int .i64 ((j : Int) + 1) ∧ Hidden (CSt w wr w.heap.size u3 (faultsH n R k) (updI (whatF n R k) (k + 1) (if anyO n R k j = true then 2 else 1)) ∧ FourAt wr bx ((k : Int) + 1) a1 a2 a3))
          case atStart => exact ⟨0, by omega, rfl, rfl, ⟨H4.out, HF4.out⟩⟩
          case round =>
            obtain ⟨j, hj, rfl, rfl, hst⟩ := hrel
            clear H4 HF4
            by_cases hjk : j < k
            · have HGJ := Hidden.mk (HENT.out j (by omega) wr hst.out.1.bel)
              have t0j : decide ((j : Int) + 1 < (k : Int) + 1) = true := by simp; omega
              have s1j : IntKind.i64.wrap ((j : Int) + 1 + 1) = (j : Int) + 1 + 1 := IntWalk.i64_in _ (by omega)
              have HN := Hidden.mk (any_next n R k j (whatF n R k))
              have HOJ := Hidden.mk (HOV.out j)
              have HWH := Hidden.mk (wv_whole n R j)
              have c1 := rAt_le (R j)
              have c2 := rLen_le (R j)
              have hwv : updI (whatF n R k) (k + 1) (if anyO n R k j = true then 2 else 1) (j + 1) = wvK (kindH n R j) := by unfold updI; rw [if_neg (by omega), whatF_at n R k j hjk]
              generalize rAt (R j) = o1 at *
              generalize rLen (R j) = o2 at *
              generalize rTag (R j) = o3 at *
              generalize hasE (R j) = oh at *
              generalize wvK (kindH n R j) = wv at *
              go_wp2_with fail
              refine HGJ.out.mono ?_
              rintro e w5 ⟨rfl, hb5⟩
              have hal := (Below.refl w5.heap.size w5).alloc (Nat.le_refl _) (.cells #[.int .i64 ((j : Int) + 1), .int .i64 (o1 : Int), .int .i64 (o2 : Int), .int .i64 o3] 66)
              have H6 := Hidden.mk (((hst.out.1.below hb5).below hal))
              have HF6 := Hidden.mk ((hst.out.2.below hb5).below hal)
              have HO6 := Hidden.mk (fourAt_one w5 ((j : Int) + 1) (o1 : Int) (o2 : Int) o3 66)
              have s4 : IntKind.i64.wrap ((o1 : Int) + o2) = (o1 : Int) + o2 := IntWalk.i64_in _ (by omega)
              have s5 : IntKind.i64.wrap ((a1 : Int) + a2) = (a1 : Int) + a2 := IntWalk.i64_in _ (by omega)
              clear hb5 hal hst HGJ
              go_upto_region 20 with (fail)
              generalize w5.alloc (.cells #[.int .i64 ((j : Int) + 1), .int .i64 (o1 : Int), .int .i64 (o2 : Int), .int .i64 o3] 66) = w6 at *
              generalize w5.heap.size = by_ at *
              obtain ⟨g0, g1, g2, g3⟩ := HF6.out
              obtain ⟨p0, p1, p2, p3⟩ := HO6.out
              have hcj := H6.out.row.cell (j + 1) (by omega)
              rw [hwv] at hcj
              have hcell := H6.out.row.cell (k + 1) (by omega)
              have hfr := H6.out.row.frozen (k + 1)
              generalize updI (whatF n R k) (k + 1) (if anyO n R k j = true then 2 else 1) (k + 1) = ov at hcell
              clear hwv HO6 g0 g3 p0 p3
              by_cases hv : wv = 1
              · skip
                subst hv
                by_cases d1 : a1 < o1 + o2
                · have e1 : decide ((a1 : Int) < (o1 : Int) + o2) = true := by simp; omega
                  have e1' : decide (a1 < o1 + o2) = true := by simpa using d1
                  by_cases d2 : o1 < a1 + a2
                  · have e2 : decide ((o1 : Int) < (a1 : Int) + a2) = true := by simp; omega
                    have e2' : decide (o1 < a1 + a2) = true := by simpa using d2
                    have HC : Hidden ((wholeE n (R j) && overE (R k) (R j)) = true) := ⟨by rw [HWH.out, HOJ.out]; simp [d1, d2]⟩
                    have HNX := Hidden.mk (And.intro ((H6.out.set (k + 1) 2).congr (fun i => (show _ = updI (whatF n R k) (k + 1) (if anyO n R k (j + 1) = true then 2 else 1) i by rw [HN.out, HC.out]; rfl))) (HF6.out.block (w' := w6.setCell ⟨w.heap.size, k + 1, none⟩ (.int .i64 2)) (Below.heap_setCell _ _ _ _ (fun e => by have := HBX.out; simp at e; omega))))
                    clear HN HC HOJ HWH H6 HF6 c1 c2 d1 d2
                    go_wp2_with fail
                    go_roundg (k - (j + 1))
                    case measure => omega
                    case rel => exact ⟨j + 1, by omega, rfl, by go_num, HNX⟩
                  · have e2 : decide ((o1 : Int) < (a1 : Int) + a2) = false := by simp; omega
                    have e2' : decide (o1 < a1 + a2) = false := by simpa using d2
                    have HC : Hidden ((wholeE n (R j) && overE (R k) (R j)) = false) := ⟨by rw [HWH.out, HOJ.out]; simp [d1, d2]⟩
                    have HNX := Hidden.mk (And.intro (H6.out.congr (fun i => (show _ = updI (whatF n R k) (k + 1) (if anyO n R k (j + 1) = true then 2 else 1) i by rw [HN.out, HC.out]; rfl))) HF6.out)
                    clear HN HC HOJ HWH H6 HF6 c1 c2 d1 d2
                    go_wp2_with fail
                    go_roundg (k - (j + 1))
                    case measure => omega
                    case rel => exact ⟨j + 1, by omega, rfl, by go_num, HNX⟩
                · have e1 : decide ((a1 : Int) < (o1 : Int) + o2) = false := by simp; omega
                  have e1' : decide (a1 < o1 + o2) = false := by simpa using d1
                  have HC : Hidden ((wholeE n (R j) && overE (R k) (R j)) = false) := ⟨by rw [HWH.out, HOJ.out]; simp [d1]⟩
                  have HNX := Hidden.mk (And.intro (H6.out.congr (fun i => (show _ = updI (whatF n R k) (k + 1) (if anyO n R k (j + 1) = true then 2 else 1) i by rw [HN.out, HC.out]; rfl))) HF6.out)
                  clear HN HC HOJ HWH H6 HF6 c1 c2 d1
                  go_wp2_with fail
                  go_roundg (k - (j + 1))
                  case measure => omega
                  case rel => exact ⟨j + 1, by omega, rfl, by go_num, HNX⟩
              · by_cases hv2 : wv = 2
                · skip
                  subst hv2
                  by_cases d1 : a1 < o1 + o2
                  · have e1 : decide ((a1 : Int) < (o1 : Int) + o2) = true := by simp; omega
                    have e1' : decide (a1 < o1 + o2) = true := by simpa using d1
                    by_cases d2 : o1 < a1 + a2
                    · have e2 : decide ((o1 : Int) < (a1 : Int) + a2) = true := by simp; omega
                      have e2' : decide (o1 < a1 + a2) = true := by simpa using d2
                      have HC : Hidden ((wholeE n (R j) && overE (R k) (R j)) = true) := ⟨by rw [HWH.out, HOJ.out]; simp [d1, d2]⟩
                      have HNX := Hidden.mk (And.intro ((H6.out.set (k + 1) 2).congr (fun i => (show _ = updI (whatF n R k) (k + 1) (if anyO n R k (j + 1) = true then 2 else 1) i by rw [HN.out, HC.out]; rfl))) (HF6.out.block (w' := w6.setCell ⟨w.heap.size, k + 1, none⟩ (.int .i64 2)) (Below.heap_setCell _ _ _ _ (fun e => by have := HBX.out; simp at e; omega))))
                      clear HN HC HOJ HWH H6 HF6 c1 c2 d1 d2
                      go_wp2_with fail
                      go_roundg (k - (j + 1))
                      case measure => omega
                      case rel => exact ⟨j + 1, by omega, rfl, by go_num, HNX⟩
                    · have e2 : decide ((o1 : Int) < (a1 : Int) + a2) = false := by simp; omega
                      have e2' : decide (o1 < a1 + a2) = false := by simpa using d2
                      have HC : Hidden ((wholeE n (R j) && overE (R k) (R j)) = false) := ⟨by rw [HWH.out, HOJ.out]; simp [d1, d2]⟩
                      have HNX := Hidden.mk (And.intro (H6.out.congr (fun i => (show _ = updI (whatF n R k) (k + 1) (if anyO n R k (j + 1) = true then 2 else 1) i by rw [HN.out, HC.out]; rfl))) HF6.out)
                      clear HN HC HOJ HWH H6 HF6 c1 c2 d1 d2
                      go_wp2_with fail
                      go_roundg (k - (j + 1))
                      case measure => omega
                      case rel => exact ⟨j + 1, by omega, rfl, by go_num, HNX⟩
                  · have e1 : decide ((a1 : Int) < (o1 : Int) + o2) = false := by simp; omega
                    have e1' : decide (a1 < o1 + o2) = false := by simpa using d1
                    have HC : Hidden ((wholeE n (R j) && overE (R k) (R j)) = false) := ⟨by rw [HWH.out, HOJ.out]; simp [d1]⟩
                    have HNX := Hidden.mk (And.intro (H6.out.congr (fun i => (show _ = updI (whatF n R k) (k + 1) (if anyO n R k (j + 1) = true then 2 else 1) i by rw [HN.out, HC.out]; rfl))) HF6.out)
                    clear HN HC HOJ HWH H6 HF6 c1 c2 d1
                    go_wp2_with fail
                    go_roundg (k - (j + 1))
                    case measure => omega
                    case rel => exact ⟨j + 1, by omega, rfl, by go_num, HNX⟩
                · have e1 : (wv == 1) = false := by simpa using hv
                  have e2 : (wv == 2) = false := by simpa using hv2
                  have HC : Hidden ((wholeE n (R j) && overE (R k) (R j)) = false) := ⟨by rw [HWH.out, HOJ.out]; simp [hv, hv2]⟩
                  have HNX := Hidden.mk (And.intro (H6.out.congr (fun i => (show _ = updI (whatF n R k) (k + 1) (if anyO n R k (j + 1) = true then 2 else 1) i by rw [HN.out, HC.out]; rfl))) HF6.out)
                  clear HN HC HOJ HWH H6 HF6 c1 c2 hv hv2
                  go_wp2_with fail
                  go_roundg (k - (j + 1))
                  case measure => omega
                  case rel => exact ⟨j + 1, by omega, rfl, by go_num, HNX⟩
            · obtain rfl : j = k := by omega
              have t0j : decide ((j : Int) + 1 < (j : Int) + 1) = false := by simp
              have hcell := hst.out.1.row.cell (j + 1) (by omega)
              have hup : updI (whatF n R j) (j + 1) (if anyO n R j j = true then 2 else 1) (j + 1) = if anyO n R j j = true then 2 else 1 := by unfold updI; rw [if_pos rfl]
              rw [hup] at hcell
              cases ha : anyO n R j j with
              | true =>
                rw [ha] at hcell
                have e1 : kindH n R j = 2 := by rw [HKE.out, ha]; rfl
                have HFE : Hidden (faultsH n R (j + 1) = faultsH n R j ++ [⟨2, j + 1⟩]) := ⟨by rw [HSF.out, e1]; rfl⟩
                have HWE : Hidden (∀ i, updI (whatF n R j) (j + 1) (if anyO n R j j = true then 2 else 1) i = whatF n R (j + 1) i) := ⟨fun i => by rw [whatF_succ, e1, ha]; rfl⟩
                have H4 := Hidden.mk (hst.out.1.congr HWE.out)
                simp only [if_true] at hcell
                clear e1 hup hst ha HKE
                go_wp2_with (at_builtin; refine wpList_append_lies _ rfl (.tmp 130) (.tmp 133) _ rfl w.heap.size 200 i1 _ 2 16 Tryz.underlying90 hi1 hy0 hy1 hy2 rfl (by decide) u3 (faultsH n R j).length ((faultsH n R j).flatMap fcells) rfl (own_below H4.out.own ((Below.refl _ _).alloc (Nat.le_refl _) _)) ⟨(wr).heap.size, 0, none⟩ 1 1 [.int .i64 2, .int .i64 ((j : Int) + 1)] rfl rfl (World.news_of_block (cs := #[.int .i64 2, .int .i64 ((j : Int) + 1)]) (t := 200) (fr := (0, 0)) (heap_alloc_new (wr) _)) (by simp [Value.oneCell']) (by omega) (by simp only [maxLen]; omega) (by omega) (by have hz_ := H4.out.bel.size; rw [World.size_alloc]; omega) ((wr).heap.size + 1) (by simp) ?_; intro g8 cap8 w8 hown8 hg8 hat8 hlt8)
                have HN := Hidden.mk ((H4.out.add (x := ⟨2, j + 1⟩) (grown_trans' ((Below.refl _ _).alloc (Nat.le_refl _) _) hg8) hown8).eqF HFE.out.symm)
                clear hown8 hg8 hat8 hlt8 H4
                go_roundg (40 - (j + 1))
                case measure => omega
                case rel => exact ⟨j + 1, by omega, rfl, by go_num, HN⟩
              | false =>
                rw [ha] at hcell
                have e1 : kindH n R j = 6 := by rw [HKE.out, ha]; rfl
                have HFE : Hidden (faultsH n R (j + 1) = faultsH n R j) := ⟨by rw [HSF.out, e1]; simp [fltOf]⟩
                have HWE : Hidden (∀ i, updI (whatF n R j) (j + 1) (if anyO n R j j = true then 2 else 1) i = whatF n R (j + 1) i) := ⟨fun i => by rw [whatF_succ, e1, ha]; rfl⟩
                have HN := Hidden.mk ((hst.out.1.congr HWE.out).eqF HFE.out.symm)
                simp only [Bool.false_eq_true, if_false] at hcell
                clear e1 hup hst ha HKE
                go_wp2_with fail
                go_roundg (40 - (j + 1))
                case measure => omega
                case rel => exact ⟨j + 1, by omega, rfl, by go_num, HN⟩
        · have hs : strayE n (R k) = true := by
            cases hq : strayE n (R k) with
            | true => rfl
            | false => exact absurd (HST.out.2 hq) hz
          have e1 : kindH n R k = 1 := by rw [HKK.out, hs]; rfl
          have HFE : Hidden (faultsH n R (k + 1) = faultsH n R k ++ [⟨1, k + 1⟩]) := ⟨by rw [HSF.out, e1]; rfl⟩
          have HWE : Hidden (∀ i, updI (whatF n R k) (k + 1) 3 i = whatF n R (k + 1) i) := ⟨fun i => by rw [whatF_succ, e1]; rfl⟩
          have t1 : ((ee : Int) == 0) = false := by simp; omega
          have t1' : (ee == 0) = false := by simp; omega
          have hcell := H3.out.row.cell (k + 1) (by omega)
          have hfr := H3.out.row.frozen (k + 1)
          have H4 := Hidden.mk (H3.out.set (k + 1) 3)
          generalize whatF n R k (k + 1) = ov at hcell
          clear hs e1 hz HST HKK H3
          go_wp2_with (at_builtin; refine wpList_append_lies _ rfl (.tmp 65) (.tmp 68) _ rfl w.heap.size 200 i1 _ 2 16 Tryz.underlying90 hi1 hy0 hy1 hy2 rfl (by decide) u3 (faultsH n R k).length ((faultsH n R k).flatMap fcells) rfl (own_below H4.out.own ((Below.refl _ _).alloc (Nat.le_refl _) _)) ⟨w3.heap.size, 0, none⟩ 1 1 [.int .i64 1, .int .i64 ((k : Int) + 1)] rfl rfl (World.news_of_block (cs := #[.int .i64 1, .int .i64 ((k : Int) + 1)]) (t := 200) (fr := (0, 0)) (by have hq_ := heap_alloc_new ((w3.setCell ⟨w.heap.size, k + 1, none⟩ (.int .i64 3))) (.cells #[.int .i64 1, .int .i64 ((k : Int) + 1)] 200); rwa [size_setC] at hq_)) (by simp [Value.oneCell']) (by omega) (by simp only [maxLen]; omega) (by omega) (by have hz_ := H4.out.bel.size; rw [World.size_alloc]; omega) (w3.heap.size + 1) (by simp) ?_; intro g8 cap8 w8 hown8 hg8 hat8 hlt8)
          trace_state
          have HN := Hidden.mk (((H4.out.add (x := ⟨1, k + 1⟩) (grown_trans' ((Below.refl _ _).alloc (Nat.le_refl _) _) hg8) hown8).eqF HFE.out.symm).congr HWE.out)
          clear hown8 hg8 hat8 hlt8 H4
          go_roundg (40 - (k + 1))
          case measure => omega
          case rel => exact ⟨k + 1, by omega, rfl, by go_num, HN⟩
    · obtain rfl : k = 40 := by omega
      have t0 : decide (((40 : Nat) : Int) + 1 ≤ 40) = false := by decide
      have HLW := Hidden.mk (leads_what n R)
      generalize leadsE n R = leads at *
      have HF0 := Hidden.mk (hst.out.eqF (show faultsH n R 40 = faultsH n R 40 ++ faultsR leads S 0 by simp [faultsR]))
      have hlH := faultsH_len n R 40
      generalize faultsH n R 40 = FH at *
      generalize whatF n R 40 = wf at *
      clear hst
      go_wp2_with fail
      clear t0
      go_loopg [3, 14, 15] 8 (fun q v vn i wr => ∃ k : Nat, k ≤ 8 ∧ q = 8 - k ∧ i = .int .i64 (k : Int) ∧ Hidden (CSt w wr w.heap.size v (FH ++ faultsR leads S k) wf ∧ wr.ownsRow w.heap.size 9 1 vn (namesL leads S k).length ((namesL leads S k).map fun x => sv x)))
      case atStart => exact ⟨0, by omega, rfl, rfl, ⟨HF0.out, World.ownsRow_nil _ _ _ _⟩⟩
      case round =>
        obtain ⟨k, hk, rfl, rfl, hst⟩ := hrel
        clear HF0
        by_cases hlt : k < 8
        · have t0 : decide ((k : Int) < 8) = true := by simp; omega
          have k0 : (k : Int) < 8 := by omega
          have s1 : IntKind.i64.wrap ((k : Int) + 1) = (k : Int) + 1 := IntWalk.i64_in _ (by omega)
          have hlF := faultsR_len leads S k
          have hlN := namesL_len leads S k
          have HSF := Hidden.mk (faultsR_succ leads S k)
          have HSN := Hidden.mk (namesL_succ leads S k)
          have hrw := HRAW.out k hlt wr hst.out.1.bel
          have hlen := HLEN2.out k hlt
          generalize hoff : ob + (200 + 11 * k) = off at *
          have HOFF := Hidden.mk hoff
          have q8 := hrw.at_ 8 (by omega)
          have q9 := hrw.at_ 9 (by omega)
          have q10 := hrw.at_ 10 (by omega)
          have g8 : (S k).getD 8 0 = (S k)[8]'(by omega) := by simp [hlen]
          have g9 : (S k).getD 9 0 = (S k)[9]'(by omega) := by simp [hlen]
          have g10 : (S k).getD 10 0 = (S k)[10]'(by omega) := by simp [hlen]
          have HB : Hidden (badR leads (S k) = (!gotName ((S k).take 8) || (S k)[8]'(by omega) != 0 || (S k)[9]'(by omega) != 0 || !(handleB (((S k)[10]'(by omega)).toNat : Int) && decide (wf ((S k)[10]'(by omega)).toNat = 1)))) := ⟨by unfold badR; rw [g8, g9, g10, HLW.out]⟩
          have HLK := Hidden.mk hlen
          generalize (S k)[8]'(by omega) = x8 at *
          generalize (S k)[9]'(by omega) = x9 at *
          generalize (S k)[10]'(by omega) = x10 at *
          have w10 : IntKind.i64.wrap (x10.toNat : Int) = (x10.toNat : Int) := IntWalk.i64_in _ (by have := u8_lt x10; omega)
          generalize hcc : c - (200 + 11 * k) = cc at *
          have hc8 : 8 ≤ cc := by omega
          have HCC := Hidden.mk hcc
          clear hoff g8 g9 g10 hcc hlen
          go_wp2_with fail
          refine (refRootAt_ok pb ob n c k _ hlt (by omega) hnc).mono ?_
          rintro e w1 ⟨rfl, rfl⟩
          rw [HOFF.out, HCC.out]
          go_wp2_with fail
          refine (refZero_any _ 11 _ (S k) _ HLK.out (by omega) hrw).mono ?_
          rintro e w1 ⟨rfl, rfl⟩
          cases hz : zeroE (S k) with
          | true =>
            have hk0 : kindR leads S k = 0 := by unfold kindR; rw [if_pos hz]
            have e1 : faultsR leads S (k + 1) = faultsR leads S k := by rw [HSF.out, hk0]; simp [fltOf]
            have e2 : namesL leads S (k + 1) = namesL leads S k := by rw [HSN.out, hk0]; simp
            have HNX : Hidden (CSt w wr w.heap.size u3 (FH ++ faultsR leads S (k + 1)) wf ∧ wr.ownsRow w.heap.size 9 1 u14 (namesL leads S (k + 1)).length ((namesL leads S (k + 1)).map fun x => sv x)) := ⟨by rw [e1, e2]; exact hst.out⟩
            clear e1 e2 hz hk0 q8 q9 q10
            go_wp2_with fail
            go_roundg (8 - (k + 1))
            case measure => omega
            case rel => exact ⟨k + 1, by omega, rfl, by go_num, HNX⟩
          | false =>
            have HKIND : Hidden (kindR leads S k = if badR leads (S k) = true then 4 else if (namesL leads S k).any (fun x => nmR (S k) == x) = true then 5 else 6) := ⟨by
              rw [namesL_any]; unfold kindR; rw [hz]; simp⟩
            have FIN4 : Hidden (badR leads (S k) = true → FH ++ faultsR leads S (k + 1) = (FH ++ faultsR leads S k) ++ [⟨4, k⟩] ∧ namesL leads S (k + 1) = namesL leads S k) := ⟨fun hb => ⟨by rw [HSF.out, HKIND.out, if_pos hb]; simp [fltOf], by rw [HSN.out, HKIND.out, if_pos hb]; simp⟩⟩
            have FIN5 : Hidden (badR leads (S k) = false → (namesL leads S k).any (fun x => nmR (S k) == x) = true → FH ++ faultsR leads S (k + 1) = (FH ++ faultsR leads S k) ++ [⟨5, k⟩] ∧ namesL leads S (k + 1) = namesL leads S k) := ⟨fun hb ha => ⟨by rw [HSF.out, HKIND.out, hb, ha]; simp [fltOf], by rw [HSN.out, HKIND.out, hb, ha]; simp⟩⟩
            have FIN6 : Hidden (badR leads (S k) = false → (namesL leads S k).any (fun x => nmR (S k) == x) = false → FH ++ faultsR leads S (k + 1) = FH ++ faultsR leads S k ∧ namesL leads S (k + 1) = namesL leads S k ++ [nmR (S k)]) := ⟨fun hb ha => ⟨by rw [HSF.out, HKIND.out, hb, ha]; simp [fltOf], by rw [HSN.out, HKIND.out, hb, ha]; simp⟩⟩
            have hlen1 : (FH ++ faultsR leads S k).length ≤ 48 := by rw [List.length_append]; omega
            generalize hFF : FH ++ faultsR leads S k = F at *
            have HFF := Hidden.mk hFF
            clear hz HKIND hFF
            go_wp2_with fail
            refine (refReadName_any (some ⟨pb, off, none⟩) cc ((S k).take 8) _ (by simp [HLK.out]) hc8 (hrw.take 8 (by rw [HLK.out]; omega))).mono ?_
            rintro e w3 ⟨he, rfl⟩
            cases hg : gotName ((S k).take 8)
            all_goals
              rw [hg] at he HB
              first | simp only [Bool.false_eq_true, if_false] at he | simp only [if_true] at he
              subst he
              have HG := Hidden.mk hg
              clear hg
            case false =>
              go_wp2_with fail
              refine (ref_handle_any _ _).mono ?_
              rintro e w4 ⟨rfl, rfl⟩
              generalize handleB (x10.toNat : Int) = hb10 at *
              have HBAD := Hidden.mk (FIN4.out (by rw [HB.out];  simp))
              clear FIN4 FIN5 FIN6 HB HSF HSN
              go_wp2_with (at_builtin; refine wpList_append_lies _ rfl (.tmp 182) (.tmp 185) _ rfl w.heap.size 200 i1 _ 2 16 Tryz.underlying90 hi1 hy0 hy1 hy2 rfl (by decide) u3 F.length (F.flatMap fcells) rfl (own_below hst.out.1.own ((Below.refl _ _).alloc (Nat.le_refl _) _)) ⟨(wr).heap.size, 0, none⟩ 1 1 [.int .i64 4, .int .i64 (k : Int)] rfl rfl (World.news_of_block (cs := #[.int .i64 4, .int .i64 (k : Int)]) (t := 200) (fr := (0, 0)) (heap_alloc_new (wr) _)) (by simp [Value.oneCell']) (by omega) (by simp only [maxLen]; omega) (by omega) (by have hz_ := hst.out.1.bel.size; rw [World.size_alloc]; omega) ((wr).heap.size + 1) (by simp) ?_; intro g8 cap8 w8 hown8 hg8 hat8 hlt8)
              have HNX := Hidden.mk (And.intro ((hst.out.1.add (x := ⟨4, k⟩) (grown_trans' ((Below.refl _ _).alloc (Nat.le_refl _) _) hg8) hown8).eqF HBAD.out.1.symm) (HBAD.out.2.symm ▸ hst.out.2.kept (grown_trans' ((Below.refl _ _).alloc (Nat.le_refl _) _) hg8) (own_apart hst.out.2 hst.out.1.own (by decide)) : w8.ownsRow w.heap.size 9 1 u14 (namesL leads S (k + 1)).length ((namesL leads S (k + 1)).map fun x => sv x)))
              clear hown8 hg8 hat8 hlt8 HBAD
              go_roundg (8 - (k + 1))
              case measure => omega
              case rel => exact ⟨k + 1, by omega, rfl, by go_num, HNX⟩
            case true =>
              have HNM : Hidden (nmR (S k) = nameAt ((S k).take 8)) := ⟨rfl⟩
              generalize nameAt ((S k).take 8) = nm at *
              go_wp2_with fail
              refine (ref_handle_any _ _).mono ?_
              rintro e w4 ⟨rfl, rfl⟩
              by_cases z8 : x8 = 0
              · by_cases z9 : x9 = 0
                · subst z8 z9
                  cases hh : handleB (x10.toNat : Int) with
                  | false =>
                    rw [hh] at HB
                    have HBAD := Hidden.mk (FIN4.out (by rw [HB.out]; simp))
                    clear FIN4 FIN5 FIN6 HB HSF HSN hh
                    go_wp2_with (at_builtin; refine wpList_append_lies _ rfl (.tmp 182) (.tmp 185) _ rfl w.heap.size 200 i1 _ 2 16 Tryz.underlying90 hi1 hy0 hy1 hy2 rfl (by decide) u3 F.length (F.flatMap fcells) rfl (own_below hst.out.1.own ((Below.refl _ _).alloc (Nat.le_refl _) _)) ⟨(wr).heap.size, 0, none⟩ 1 1 [.int .i64 4, .int .i64 (k : Int)] rfl rfl (World.news_of_block (cs := #[.int .i64 4, .int .i64 (k : Int)]) (t := 200) (fr := (0, 0)) (heap_alloc_new (wr) _)) (by simp [Value.oneCell']) (by omega) (by simp only [maxLen]; omega) (by omega) (by have hz_ := hst.out.1.bel.size; rw [World.size_alloc]; omega) ((wr).heap.size + 1) (by simp) ?_; intro g8 cap8 w8 hown8 hg8 hat8 hlt8)
                    have HNX := Hidden.mk (And.intro ((hst.out.1.add (x := ⟨4, k⟩) (grown_trans' ((Below.refl _ _).alloc (Nat.le_refl _) _) hg8) hown8).eqF HBAD.out.1.symm) (HBAD.out.2.symm ▸ hst.out.2.kept (grown_trans' ((Below.refl _ _).alloc (Nat.le_refl _) _) hg8) (own_apart hst.out.2 hst.out.1.own (by decide)) : w8.ownsRow w.heap.size 9 1 u14 (namesL leads S (k + 1)).length ((namesL leads S (k + 1)).map fun x => sv x)))
                    clear hown8 hg8 hat8 hlt8 HBAD
                    go_roundg (8 - (k + 1))
                    case measure => omega
                    case rel => exact ⟨k + 1, by omega, rfl, by go_num, HNX⟩
                  | true =>
                    rw [hh] at HB
                    have hhb := handleB_true.1 hh
                    obtain ⟨hh1, hh2⟩ := hhb
                    have kx1 : (x10.toNat : Int) < 41 := by omega
                    have kx2 : x10.toNat < 41 := by omega
                    have kx0 : (0 : Int) ≤ (x10.toNat : Int) := by omega
                    have hcw := hst.out.1.row.cell x10.toNat (by omega)
                    generalize wf x10.toNat = wv at *
                    by_cases zw : wv = 1
                    · subst zw
                      have HNB : Hidden (badR leads (S k) = false) := ⟨by rw [HB.out]; simp⟩
                      obtain ⟨A14, c14, rfl, hc14, hrs⟩ := own_rdS hst.out.2
                      have HRS := Hidden.mk hrs
                      generalize hNL : namesL leads S k = NL at *
                      have HNLE := Hidden.mk hNL
                      clear hh FIN4 HB hNL hrs
                      go_wp2_with fail
                      clear hcw q8 q9 q10
                      go_loopg [22, 23] NL.length (fun q tw i wr' => ∃ j : Nat, j ≤ NL.length ∧ q = NL.length - j ∧ i = .int .i64 (j : Int) ∧ tw = .bool ((NL.take j).any fun x => nm == x) ∧ wr = wr')
                      case atStart => exact ⟨0, by omega, rfl, rfl, rfl, rfl⟩
                      case round =>
                        obtain ⟨j, hj, rfl, rfl, rfl, rfl⟩ := hrel
                        by_cases hjn : j < NL.length
                        · obtain ⟨pn, on, rfl, cn⟩ := HRS.out j hjn
                          have HTK : Hidden ((NL.take (j + 1)).any (fun x => nm == x) = ((NL.take j).any (fun x => nm == x) || (NL[j] == nm))) := ⟨by rw [List.take_succ_eq_append_getElem hjn, List.any_append]; simp [Bool.beq_comm]⟩
                          have j0 : (0 : Int) ≤ j := by omega
                          have j1 : (j : Int) < NL.length := by omega
                          have s1j : IntKind.i64.wrap ((j : Int) + 1) = (j : Int) + 1 := IntWalk.i64_in _ (by omega)
                          generalize (NL.take j).any (fun x => nm == x) = bq at *
                          generalize NL[j] = nj at *
                          cases bq with
                          | true =>
                            go_wp2_with fail
                            go_roundg (NL.length - (j + 1))
                            case measure => omega
                            case rel => exact ⟨j + 1, by omega, rfl, by go_num, by rw [HTK.out]; rfl, rfl⟩
                          | false =>
                            go_wp2_with fail
                            go_roundg (NL.length - (j + 1))
                            case measure => omega
                            case rel => exact ⟨j + 1, by omega, rfl, by go_num, by rw [HTK.out]; rfl, rfl⟩
                        · obtain rfl : j = NL.length := by omega
                          rw [List.take_of_length_le (Nat.le_refl _)]
                          have j1 : decide (((NL.length : Nat) : Int) < NL.length) = false := by simp
                          cases ha : NL.any (fun x => nm == x) with
                          | true =>
                            have HBAD := Hidden.mk (FIN5.out HNB.out (by rw [HNM.out]; exact ha))
                            clear FIN5 FIN6 HNB HSF HSN ha
                            go_wp2_with (at_builtin; refine wpList_append_lies _ rfl (.tmp 203) (.tmp 206) _ rfl w.heap.size 200 i1 _ 2 16 Tryz.underlying90 hi1 hy0 hy1 hy2 rfl (by decide) u3 F.length (F.flatMap fcells) rfl (own_below hst.out.1.own ((Below.refl _ _).alloc (Nat.le_refl _) _)) ⟨(wr).heap.size, 0, none⟩ 1 1 [.int .i64 5, .int .i64 (k : Int)] rfl rfl (World.news_of_block (cs := #[.int .i64 5, .int .i64 (k : Int)]) (t := 200) (fr := (0, 0)) (heap_alloc_new (wr) _)) (by simp [Value.oneCell']) (by omega) (by simp only [maxLen]; omega) (by omega) (by have hz_ := hst.out.1.bel.size; rw [World.size_alloc]; omega) ((wr).heap.size + 1) (by simp) ?_; intro g8 cap8 w8 hown8 hg8 hat8 hlt8)
                            have HNX := Hidden.mk (And.intro ((hst.out.1.add (x := ⟨5, k⟩) (grown_trans' ((Below.refl _ _).alloc (Nat.le_refl _) _) hg8) hown8).eqF HBAD.out.1.symm) (HBAD.out.2.symm ▸ hst.out.2.kept (grown_trans' ((Below.refl _ _).alloc (Nat.le_refl _) _) hg8) (own_apart hst.out.2 hst.out.1.own (by decide)) : w8.ownsRow w.heap.size 9 1 (.slice A14 NL.length c14) (namesL leads S (k + 1)).length ((namesL leads S (k + 1)).map fun x => sv x)))
                            clear hown8 hg8 hat8 hlt8 HBAD
                            go_roundg (8 - (k + 1))
                            case measure => omega
                            case rel => exact ⟨k + 1, by omega, rfl, by go_num, HNX⟩
                          | false =>
                            have HOKK := Hidden.mk (FIN6.out HNB.out (by rw [HNM.out]; exact ha))
                            rw [HNM.out] at HOKK
                            clear FIN5 FIN6 HNB HSF HSN ha
                            go_wp2_with (at_builtin; refine wpList_append_lies _ rfl (.tmp 208) (.tmp 210) _ rfl w.heap.size 9 i2 _ 1 16 Tryz.underlying177 hi2 hx0 hx1 hx2 rfl (by decide) (.slice A14 NL.length c14) NL.length (NL.map sv) rfl (own_below hst.out.2 ((Below.refl _ _).alloc (Nat.le_refl _) _)) ⟨(wr).heap.size, 0, none⟩ 1 1 [sv nm] rfl rfl (World.news_of_block (cs := #[sv nm]) (t := 9) (fr := (0, 0)) (heap_alloc_new (wr) _)) (by simp [Value.oneCell']) (by omega) (by simp only [maxLen]; omega) (by omega) (by have hz_ := hst.out.1.bel.size; rw [World.size_alloc]; omega) ((wr).heap.size + 1) (by simp) ?_; intro g8 cap8 w8 hown8 hg8 hat8 hlt8)
                            have hgW := grown_trans' ((Below.refl wr.heap.size wr).alloc (Nat.le_refl _) _) hg8
                            have HNX : Hidden (CSt w w8 w.heap.size u3 (FH ++ faultsR leads S (k + 1)) wf ∧ w8.ownsRow w.heap.size 9 1 (.slice (some ⟨g8, 0, none⟩) (NL.length + 1) cap8) (namesL leads S (k + 1)).length ((namesL leads S (k + 1)).map fun x => sv x)) :=
                              ⟨⟨hst.out.1.bel.grown hgW hst.out.1.bel.size (fun q hq => (hst.out.2.lt q hq).1), by rw [HOKK.out.1]; exact hst.out.1.own.kept hgW (own_apart hst.out.1.own hst.out.2 (by decide)), hst.out.1.row.grown hgW (hst.out.1.row.ne hst.out.2 (by decide)), Nat.le_refl _⟩, by rw [HOKK.out.2]; simpa using hown8⟩
                            clear hown8 hg8 hat8 hlt8 HOKK hgW
                            go_roundg (8 - (k + 1))
                            case measure => omega
                            case rel => exact ⟨k + 1, by omega, rfl, by go_num, HNX⟩
                    · have t1 : (wv == 1) = false := by simpa using zw
                      have HBAD := Hidden.mk (FIN4.out (by rw [HB.out]; simp [zw]))
                      clear FIN4 FIN5 FIN6 HB HSF HSN hh zw
                      go_wp2_with (at_builtin; refine wpList_append_lies _ rfl (.tmp 182) (.tmp 185) _ rfl w.heap.size 200 i1 _ 2 16 Tryz.underlying90 hi1 hy0 hy1 hy2 rfl (by decide) u3 F.length (F.flatMap fcells) rfl (own_below hst.out.1.own ((Below.refl _ _).alloc (Nat.le_refl _) _)) ⟨(wr).heap.size, 0, none⟩ 1 1 [.int .i64 4, .int .i64 (k : Int)] rfl rfl (World.news_of_block (cs := #[.int .i64 4, .int .i64 (k : Int)]) (t := 200) (fr := (0, 0)) (heap_alloc_new (wr) _)) (by simp [Value.oneCell']) (by omega) (by simp only [maxLen]; omega) (by omega) (by have hz_ := hst.out.1.bel.size; rw [World.size_alloc]; omega) ((wr).heap.size + 1) (by simp) ?_; intro g8 cap8 w8 hown8 hg8 hat8 hlt8)
                      have HNX := Hidden.mk (And.intro ((hst.out.1.add (x := ⟨4, k⟩) (grown_trans' ((Below.refl _ _).alloc (Nat.le_refl _) _) hg8) hown8).eqF HBAD.out.1.symm) (HBAD.out.2.symm ▸ hst.out.2.kept (grown_trans' ((Below.refl _ _).alloc (Nat.le_refl _) _) hg8) (own_apart hst.out.2 hst.out.1.own (by decide)) : w8.ownsRow w.heap.size 9 1 u14 (namesL leads S (k + 1)).length ((namesL leads S (k + 1)).map fun x => sv x)))
                      clear hown8 hg8 hat8 hlt8 HBAD
                      go_roundg (8 - (k + 1))
                      case measure => omega
                      case rel => exact ⟨k + 1, by omega, rfl, by go_num, HNX⟩
                · subst z8
                  have t9 : ((x9.toNat : Int) == 0) = false := by
                    rw [show ((x9.toNat : Int) == 0) = (x9 == 0) from bv_beq x9 0]; simpa using z9
                  have t9' : ((x9.toNat : Int) != 0) = true := by unfold bne; rw [t9]; rfl
                  generalize handleB (x10.toNat : Int) = hb10 at *
                  have HBAD := Hidden.mk (FIN4.out (by rw [HB.out]; simp [z9]))
                  clear FIN4 FIN5 FIN6 HB HSF HSN z9
                  go_wp2_with (at_builtin; refine wpList_append_lies _ rfl (.tmp 182) (.tmp 185) _ rfl w.heap.size 200 i1 _ 2 16 Tryz.underlying90 hi1 hy0 hy1 hy2 rfl (by decide) u3 F.length (F.flatMap fcells) rfl (own_below hst.out.1.own ((Below.refl _ _).alloc (Nat.le_refl _) _)) ⟨(wr).heap.size, 0, none⟩ 1 1 [.int .i64 4, .int .i64 (k : Int)] rfl rfl (World.news_of_block (cs := #[.int .i64 4, .int .i64 (k : Int)]) (t := 200) (fr := (0, 0)) (heap_alloc_new (wr) _)) (by simp [Value.oneCell']) (by omega) (by simp only [maxLen]; omega) (by omega) (by have hz_ := hst.out.1.bel.size; rw [World.size_alloc]; omega) ((wr).heap.size + 1) (by simp) ?_; intro g8 cap8 w8 hown8 hg8 hat8 hlt8)
                  have HNX := Hidden.mk (And.intro ((hst.out.1.add (x := ⟨4, k⟩) (grown_trans' ((Below.refl _ _).alloc (Nat.le_refl _) _) hg8) hown8).eqF HBAD.out.1.symm) (HBAD.out.2.symm ▸ hst.out.2.kept (grown_trans' ((Below.refl _ _).alloc (Nat.le_refl _) _) hg8) (own_apart hst.out.2 hst.out.1.own (by decide)) : w8.ownsRow w.heap.size 9 1 u14 (namesL leads S (k + 1)).length ((namesL leads S (k + 1)).map fun x => sv x)))
                  clear hown8 hg8 hat8 hlt8 HBAD
                  go_roundg (8 - (k + 1))
                  case measure => omega
                  case rel => exact ⟨k + 1, by omega, rfl, by go_num, HNX⟩
              · have t8 : ((x8.toNat : Int) == 0) = false := by
                  rw [show ((x8.toNat : Int) == 0) = (x8 == 0) from bv_beq x8 0]; simpa using z8
                have t8' : ((x8.toNat : Int) != 0) = true := by unfold bne; rw [t8]; rfl
                generalize handleB (x10.toNat : Int) = hb10 at *
                have HBAD := Hidden.mk (FIN4.out (by rw [HB.out]; simp [z8]))
                clear FIN4 FIN5 FIN6 HB HSF HSN z8
                go_wp2_with (at_builtin; refine wpList_append_lies _ rfl (.tmp 182) (.tmp 185) _ rfl w.heap.size 200 i1 _ 2 16 Tryz.underlying90 hi1 hy0 hy1 hy2 rfl (by decide) u3 F.length (F.flatMap fcells) rfl (own_below hst.out.1.own ((Below.refl _ _).alloc (Nat.le_refl _) _)) ⟨(wr).heap.size, 0, none⟩ 1 1 [.int .i64 4, .int .i64 (k : Int)] rfl rfl (World.news_of_block (cs := #[.int .i64 4, .int .i64 (k : Int)]) (t := 200) (fr := (0, 0)) (heap_alloc_new (wr) _)) (by simp [Value.oneCell']) (by omega) (by simp only [maxLen]; omega) (by omega) (by have hz_ := hst.out.1.bel.size; rw [World.size_alloc]; omega) ((wr).heap.size + 1) (by simp) ?_; intro g8 cap8 w8 hown8 hg8 hat8 hlt8)
                have HNX := Hidden.mk (And.intro ((hst.out.1.add (x := ⟨4, k⟩) (grown_trans' ((Below.refl _ _).alloc (Nat.le_refl _) _) hg8) hown8).eqF HBAD.out.1.symm) (HBAD.out.2.symm ▸ hst.out.2.kept (grown_trans' ((Below.refl _ _).alloc (Nat.le_refl _) _) hg8) (own_apart hst.out.2 hst.out.1.own (by decide)) : w8.ownsRow w.heap.size 9 1 u14 (namesL leads S (k + 1)).length ((namesL leads S (k + 1)).map fun x => sv x)))
                clear hown8 hg8 hat8 hlt8 HBAD
                go_roundg (8 - (k + 1))
                case measure => omega
                case rel => exact ⟨k + 1, by omega, rfl, by go_num, HNX⟩
        · obtain rfl : k = 8 := by omega
          have HFIN := Hidden.mk (And.intro hst.out.1.own hst.out.1.bel)
          have t0 : decide (((8 : Nat) : Int) < 8) = false := by decide
          clear hst
          go_wp2_with fail
          go_ret
          exact ⟨_, rfl, by rw [HCK.out]; exact HFIN.out.1, HFIN.out.2⟩
end Go.Proofs.YtbnobjlphmkgeaaGreatDoor
/- A heap in memory; the contracts of heap.New and Bytes. -/
namespace Go.Proofs.YtbnobjlphmkgeaaGreatDoor
open Go.RowKit

/-- block h is a heap that was made behind w0: its image is l -/
structure Hp (w0 w : World) (F : Nat → Prop) (h : Nat) (l : Bytes) : Prop where
  hd : ∃ g cap, w.heap[h]? = some (.cells #[.slice (some ⟨g, 0, none⟩) l.length cap] 110 (0, 0)) ∧ Row w 5 g cap l ∧ F g
  fh : F h
  len : rightB l.length = true
  new : ∀ k, F k → w0.heap.size ≤ k
  flt : ∀ k, F k → k < w.heap.size
  bel : Below w0.heap.size w0 w
section
variable {w0 w w' : World} {F : Nat → Prop} {h : Nat} {l : Bytes}
theorem Hp.below (hp : Hp w0 w F h l) (hb : Below w.heap.size w w') : Hp w0 w' F h l := by
  obtain ⟨g, cap, h1, h2, h3⟩ := hp.hd
  exact ⟨⟨g, cap, (hb.block _ (hp.flt _ hp.fh)).trans h1, h2.block (hb.block _ (hp.flt _ h3)), h3⟩, hp.fh, hp.len, hp.new, fun k hk => Nat.lt_of_lt_of_le (hp.flt k hk) hb.size, hp.bel.trans (hb.mono hp.bel.size)⟩
theorem Hp.keep {G : Nat → Prop} (hp : Hp w0 w F h l) (hk : Keep G w w') (hG : ∀ k, F k → ¬ G k) (hn : ∀ k, G k → w0.heap.size ≤ k) : Hp w0 w' F h l := by
  obtain ⟨g, cap, h1, h2, h3⟩ := hp.hd
  exact ⟨⟨g, cap, (hk.block _ (hp.flt _ hp.fh) (hG _ hp.fh)).trans h1, h2.block (hk.block _ (hp.flt _ h3) (hG _ h3)), h3⟩, hp.fh, hp.len, hp.new, fun k hk' => Nat.lt_of_lt_of_le (hp.flt k hk') hk.size, hp.bel.trans (hk.below hp.bel.size hn)⟩
/-- what a walk wants of it -/
theorem Hp.open_ (hp : Hp w0 w F h l) : ∃ g cap, w.cell? ⟨h, 0, none⟩ = some (.slice (some ⟨g, 0, none⟩) l.length cap) ∧ l.length ≤ cap ∧ Row w 5 g cap l ∧ F g := by
  obtain ⟨g, cap, h1, h2, h3⟩ := hp.hd
  exact ⟨g, cap, by simp [World.cell?, h1], h2.le.1, h2, h3⟩
end
theorem hbytes_ok (w0 w : World) (F : Nat → Prop) (h : Nat) (l : Bytes) (hp : Hp w0 w F h l) :
    Calls Tryz.prog 32 #[.pointer (some ⟨h, 0, none⟩)] w fun e w' => ∃ g cap, e = .returned (.slice (some ⟨g, 0, none⟩) l.length cap) ∧ w.heap.size ≤ g ∧ Row w' 5 g cap l ∧ Below w.heap.size w w' := by
  obtain ⟨g, cap, c0, hcap, hrow, hF⟩ := hp.open_
  have hb := rightB_true.1 hp.len
  have HC := Hidden.mk (clone_some ⟨g, 0, none⟩ l.length cap l w rfl (by omega) hrow.rd)
  clear hp hrow
  go_enter Tryz.func32, Tryz.ntmps32
  go_wp2_with fail
  refine HC.out.mono ?_
  rintro e w1 ⟨g1, cap1, rfl, hg, hrow, hb1⟩
  clear HC
  go_wp2_with fail
  go_ret
  exact ⟨g1, cap1, rfl, hg, hrow, hb1⟩
end Go.Proofs.YtbnobjlphmkgeaaGreatDoor
/- The contracts of check.Fine and check.Object. -/
namespace Go.Proofs.YtbnobjlphmkgeaaGreatDoor
open Go.RowKit

theorem fine_no (A : Option Addr) (n c : Nat) (w : World) (hr : rightB n = false) :
    Calls Tryz.prog 56 #[.slice A n c] w fun e w' => e = .returned (.iface 111 (.int .i64 3)) ∧ w = w' := by
  go_enter Tryz.func56, Tryz.ntmps56
  go_wp2_with fail
  refine (check_no A n c _ hr).mono ?_
  rintro e w1 ⟨rfl, rfl⟩
  go_wp2_with fail
  go_ret
  exact ⟨rfl, rfl⟩
theorem fine_t (A : Option Addr) (n c : Nat) (l : Bytes) (w : World) (hn : l.length = n) (hr : rightB n = true) (hnc : n ≤ c) (hrd : Rd w A l) (h0 : checkL l = []) :
    Calls Tryz.prog 56 #[.slice A n c] w fun e w' => e = .returned .nilIface ∧ Below w.heap.size w w' := by
  have HC := Hidden.mk (check_yes A n c l w hn hr hnc hrd)
  rw [h0] at HC
  clear h0 hn hr hrd
  go_enter Tryz.func56, Tryz.ntmps56
  go_wp2_with fail
  refine HC.out.mono ?_
  rintro e w1 ⟨v, rfl, hown, hb⟩
  obtain ⟨A1, c1, rfl, -, -⟩ := Src.of_own hown
  simp only [List.length_nil]
  clear hown
  go_wp2_with fail
  go_ret
  exact ⟨rfl, hb⟩
theorem fine_f (A : Option Addr) (n c : Nat) (l : Bytes) (w : World) (hn : l.length = n) (hr : rightB n = true) (hnc : n ≤ c) (hrd : Rd w A l) (h0 : checkL l ≠ []) :
    Calls Tryz.prog 56 #[.slice A n c] w fun e w' => e = .returned (.iface 111 (.int .i64 6)) ∧ Below w.heap.size w w' := by
  have HC := Hidden.mk (check_yes A n c l w hn hr hnc hrd)
  have hl := List.length_pos_iff.2 h0
  generalize checkL l = F at *
  clear h0 hn hr hrd
  go_enter Tryz.func56, Tryz.ntmps56
  go_wp2_with fail
  refine HC.out.mono ?_
  rintro e w1 ⟨v, rfl, hown, hb⟩
  obtain ⟨A1, c1, rfl, -, -⟩ := Src.of_own hown
  clear hown
  have t1 : decide (0 < F.length) = true := by simpa using hl
  clear hl
  go_wp2_with fail
  go_ret
  exact ⟨rfl, hb⟩
theorem strayE_false {n : Nat} {r : Bytes} (h : strayE n r = false) : (0 ≤ rTag r ∧ rTag r ≤ 15) ∧ (1 ≤ rLen r ∧ rLen r ≤ 1000) ∧ 288 ≤ rAt r ∧ rLen r ≤ n ∧ rAt r + rLen r ≤ n := by
  unfold strayE at h
  simp only [Bool.not_eq_false', Bool.and_eq_true] at h
  obtain ⟨⟨h1, h2⟩, h3⟩ := h
  have h1 := tagB_true.1 h1
  have h2 := lenB_true.1 h2
  have h3 := withinB_true.1 h3
  omega
end Go.Proofs.YtbnobjlphmkgeaaGreatDoor
/- Extents: plain words; the contract of extent.Check. -/
namespace Go.Proofs.YtbnobjlphmkgeaaGreatDoor
open Go.RowKit

abbrev Ext := Int × Int
def tcells (x : Ext) : List Value := [.int .i64 x.1, .int .i64 x.2]
theorem tcells_len (x : Ext) : (tcells x).length = 2 := rfl
def badX (n : Int) (e : Ext) : Bool := decide (e.2 < 1) || decide (e.1 < 0) || decide (n < e.2) || decide (n - e.2 < e.1)
def hitX (e o : Ext) : Bool := decide (e.1 < o.1 + o.2) && decide (o.1 < e.1 + e.2)
/-- the fault of the element k -/
def faultX (n : Int) (l : List Ext) (k : Nat) (e : Ext) : Nat := if badX n e = true then 1 else if (l.take k).any (hitX e) = true then 7 else 0
def loopX (n : Int) (l : List Ext) : Nat → Nat
  | 0 => 0
  | k + 1 => if loopX n l k = 0 then faultX n l k (l.getD k (0, 0)) else loopX n l k
/-- what is wrong with extents -/
def chkX (n : Int) (l : List Ext) : Nat := if n < 0 ∨ 6400 < n then 1 else if 200 < l.length then 4 else loopX n l l.length
theorem loopX_stop (n : Int) (l : List Ext) (k : Nat) (h : loopX n l k ≠ 0) : ∀ m, k ≤ m → loopX n l m = loopX n l k
  | 0, hm => by obtain rfl : k = 0 := by omega
                rfl
  | m + 1, hm => by
    by_cases hk : k = m + 1
    · rw [hk]
    · have := loopX_stop n l k h m (by omega)
      rw [loopX, if_neg (by rw [this]; exact h), this]
theorem loopX_zero (n : Int) (l : List Ext) : ∀ k, loopX n l k = 0 → ∀ j, j < k → faultX n l j (l.getD j (0, 0)) = 0
  | 0, _, j, hj => by omega
  | k + 1, h, j, hj => by
    rw [loopX] at h
    split at h
    · rename_i h0
      rcases Nat.lt_succ_iff_lt_or_eq.1 hj with h' | rfl
      · exact loopX_zero n l k h0 j h'
      · exact h
    · rename_i h0; exact absurd h h0
theorem badX_false {n : Int} {e : Ext} (h : badX n e = false) : 1 ≤ e.2 ∧ 0 ≤ e.1 ∧ e.2 ≤ n ∧ e.1 + e.2 ≤ n := by
  unfold badX at h
  simp only [Bool.or_eq_false_iff, decide_eq_false_iff_not] at h
  omega
theorem faultX_zero {n : Int} {l : List Ext} {k : Nat} {e : Ext} (h : faultX n l k e = 0) : badX n e = false ∧ (l.take k).any (hitX e) = false := by
  unfold faultX at h
  split at h
  · cases h
  · rename_i h1
    split at h
    · cases h
    · rename_i h2
      exact ⟨by simpa using h1, by simpa using h2⟩
theorem RdX.take {X : Type} {cells : X → List Value} {C : Nat} {w : World} {A : Option Addr} {L : List X} (h : RdX cells C w A L) (k : Nat) : RdX cells C w A (L.take k) := fun i hi => by
  have hi' : i < L.length := by rw [List.length_take] at hi; omega
  obtain ⟨b, off, hA, hc⟩ := h i hi'
  exact ⟨b, off, hA, fun q u hq => hc q u (by rwa [List.getElem_take] at hq)⟩
/-- the closure of Check -/
theorem hit1_any (e x : Ext) (Bx : Nat) (W : World) (h1 : W.cell? ⟨Bx, 0, none⟩ = some (.int .i64 e.1)) (h2 : W.cell? ⟨Bx, 1, none⟩ = some (.int .i64 e.2)) (he : 0 ≤ e.1 ∧ e.1 ≤ 6400 ∧ 0 ≤ e.2 ∧ e.2 ≤ 6400) (hx : 0 ≤ x.1 ∧ x.1 ≤ 6400 ∧ 0 ≤ x.2 ∧ x.2 ≤ 6400) :
    Calls Tryz.prog 187 #[.agg #[.int .i64 x.1, .int .i64 x.2], .pointer (some ⟨Bx, 0, none⟩)] W fun e' w' => e' = .returned (.bool (hitX e x)) ∧ Below W.heap.size W w' := by
  obtain ⟨e1, e2⟩ := e
  obtain ⟨x1, x2⟩ := x
  dsimp only at *
  have hlt := block_lt_of_cell h1
  have hW : Below W.heap.size W (W.alloc (.cells #[.int .i64 x1, .int .i64 x2] 64)) := (Below.refl _ _).alloc (Nat.le_refl _) _
  have s1 : IntKind.i64.wrap (x1 + x2) = x1 + x2 := IntWalk.i64_in _ (by omega)
  have s2 : IntKind.i64.wrap (e1 + e2) = e1 + e2 := IntWalk.i64_in _ (by omega)
  unfold hitX
  dsimp only
  by_cases hc : e1 < x1 + x2
  · have d1 : decide (e1 < x1 + x2) = true := by simpa using hc
    go_enter Tryz.func187, Tryz.ntmps187
    go_wp2_with fail
    go_ret
    exact ⟨by simp, hW⟩
  · have d1 : decide (e1 < x1 + x2) = false := by simpa using hc
    go_enter Tryz.func187, Tryz.ntmps187
    go_wp2_with fail
    go_ret
    exact ⟨by simp, hW⟩
theorem idxX_check (p : Ext → Bool) (A : Option Addr) (n c : Nat) (L : List Ext) (cap : Value) (w : World) (hn : L.length = n) (hl : n ≤ 1000) (hr : RdX tcells 2 w A L)
    (hP : ∀ x ∈ L, ∀ W, Below w.heap.size w W → Calls Tryz.prog 187 #[.agg #[.int .i64 x.1, .int .i64 x.2], cap] W fun e w' => e = .returned (.bool (p x)) ∧ Below W.heap.size W w') :
    Calls Tryz.prog 218 #[.slice A n c, .func (.func 187) #[] #[cap]] w fun e w' => ∃ z : Int, e = .returned (.int .i64 z) ∧ decide (0 ≤ z) = L.any p ∧ Below w.heap.size w w' := by
  subst hn
  have HP := Hidden.mk hP
  clear hP
  go_enter Tryz.func218, Tryz.ntmps218
  go_wp2_with fail
  go_loopw [8] (fun i wr => Below w.heap.size w wr ∧ ∃ k : Nat, k ≤ L.length ∧ i = .int .i64 k ∧ Hidden (∀ x ∈ L.take k, p x = false)) (fun i _ => L.length - (intOf i).toNat)
  case atStart => exact ⟨Below.refl _ _, 0, Nat.zero_le _, rfl, ⟨by simp⟩⟩
  case round =>
    obtain ⟨hbel, k, hk, rfl, hnot⟩ := hrel
    by_cases hlt : k < L.length
    · obtain ⟨b, off, rfl, hcx⟩ := (hr.below hbel) k hlt
      have c0 := hcx 0 _ rfl
      have c1 := hcx 1 _ rfl
      rw [Nat.add_zero] at c0
      have hp := HP.out L[k] (List.getElem_mem hlt) wr hbel
      have HPK := Hidden.mk hp
      have i0 : (0 : Int) ≤ k := by omega
      have i1 : (k : Int) < L.length := by omega
      clear hp hcx
      go_wp2_with fail
      refine (HPK.out).mono ?_
      rintro e w1 ⟨rfl, hb1⟩
      have hB1 := hbel.trans (hb1.mono hbel.size)
      cases he : p L[k] with
      | true =>
        have hi : Hidden (true = L.any p) := ⟨(List.any_eq_true.2 ⟨L[k], List.getElem_mem hlt, he⟩).symm⟩
        clear he hb1 hbel
        go_wp2_with fail
        go_ret
        exact ⟨_, rfl, by rw [← hi.out]; simp, hB1⟩
      | false =>
        have hnk : Hidden (∀ x ∈ L.take (k + 1), p x = false) := ⟨forall_take_succ' hlt hnot.out he⟩
        clear he hnot hb1 hbel
        go_wp2_with fail
        go_roundw
        case rel => exact ⟨hB1, k + 1, by omega, by go_num, hnk⟩
        case measure => simp [intOf]; omega
    · have hi : Hidden (false = L.any p) := ⟨by
        have := hnot.out
        rw [List.take_of_length_le (by omega)] at this
        symm; simpa using this⟩
      go_wp2_with fail
      go_ret
      exact ⟨-1, rfl, by rw [← hi.out]; rfl, hbel⟩
theorem cfX_check (p : Ext → Bool) (A : Option Addr) (n c : Nat) (L : List Ext) (cap : Value) (w : World) (hn : L.length = n) (hl : n ≤ 1000) (hr : RdX tcells 2 w A L)
    (hP : ∀ x ∈ L, ∀ W, Below w.heap.size w W → Calls Tryz.prog 187 #[.agg #[.int .i64 x.1, .int .i64 x.2], cap] W fun e w' => e = .returned (.bool (p x)) ∧ Below W.heap.size W w') :
    Calls Tryz.prog 186 #[.slice A n c, .func (.func 187) #[] #[cap]] w fun e w' => e = .returned (.bool (L.any p)) ∧ Below w.heap.size w w' := by
  have HC := Hidden.mk (idxX_check p A n c L cap w hn hl hr hP)
  clear hP
  go_enter Tryz.func186, Tryz.ntmps186
  go_wp2_with fail
  refine HC.out.mono ?_
  rintro e w1 ⟨z, rfl, hz, hb⟩
  have HZ := Hidden.mk hz
  clear hz
  go_wp2_with fail
  go_ret
  exact ⟨congrArg (fun b => Ending.returned (.bool b)) HZ.out, hb⟩
theorem run_headX (A : Option Addr) (n c k : Nat) (hkc : k ≤ c) (W : World) :
    (Instr.sliceAt 114 (.slice A n c) none (some (.int .i64 k)) none).run Tryz.prog W = .ok (.slice A k c) W := by
  obtain ⟨i0, hi0, hz0, hz1, hz2⟩ := info_parts (show (Tryz.prog.info? 64).map (fun i => (i.zero, i.size, i.bytes)) = some (some (.agg #[.int .i64 0, .int .i64 0]), 2, 16) by kernel_rfl)
  cases A <;> simp [Instr.sliceAt, Instr.slice, Instr.sliceBounds, Instr.sliceBound, run_underlying Tryz.underlying114, asIntOf, sizeOf, typeInfo, hi0, hkc, Addr.add]
set_option maxRecDepth 100000 in
theorem xcheck_any (n : Int) (A : Option Addr) (m c : Nat) (l : List Ext) (w : World) (hl : l.length = m) (hmc : m ≤ c) (hr : RdX tcells 2 w A l) :
    Calls Tryz.prog 146 #[.int .i64 n, .slice A m c] w fun e w' => e = .returned (errV (chkX n l)) ∧ Below w.heap.size w w' := by
  by_cases h1 : n < 0
  · have HC : Hidden (chkX n l = 1) := ⟨by unfold chkX; rw [if_pos (.inl h1)]⟩
    clear hr hl
    go_enter Tryz.func146, Tryz.ntmps146
    go_wp2_with fail
    go_ret
    exact ⟨by rw [HC.out]; rfl, Below.refl _ _⟩
  by_cases h2 : 6400 < n
  · have HC : Hidden (chkX n l = 1) := ⟨by unfold chkX; rw [if_pos (.inr h2)]⟩
    clear hr hl
    go_enter Tryz.func146, Tryz.ntmps146
    go_wp2_with fail
    go_ret
    exact ⟨by rw [HC.out]; rfl, Below.refl _ _⟩
  have d1 : decide (n < 0) = false := by simpa using h1
  have d2 : decide (6400 < n) = false := by simpa using h2
  by_cases h3 : 200 < m
  · have HC : Hidden (chkX n l = 4) := ⟨by unfold chkX; rw [if_neg (by omega), if_pos (by omega)]⟩
    have d3 : decide (200 < m) = true := by simpa using h3
    clear hr hl
    go_enter Tryz.func146, Tryz.ntmps146
    go_wp2_with fail
    go_ret
    exact ⟨by rw [HC.out]; rfl, Below.refl _ _⟩
  have d3 : decide (200 < m) = false := by simpa using h3
  have HC : Hidden (chkX n l = loopX n l m) := ⟨by unfold chkX; rw [if_neg (by omega), if_neg (by omega), hl]⟩
  have HL := Hidden.mk hl
  have HR := Hidden.mk hr
  clear hr hl
  go_enter Tryz.func146, Tryz.ntmps146
  go_wp2_with fail
  go_loopg [22] m (fun q i wr => ∃ k : Nat, k ≤ m ∧ q = m - k ∧ i = .int .i64 (k : Int) ∧ Hidden (Below w.heap.size w wr ∧ loopX n l k = 0))
  case atStart => exact ⟨0, by omega, rfl, rfl, ⟨Below.refl _ _, rfl⟩⟩
  case round =>
    obtain ⟨k, hk, rfl, rfl, hst⟩ := hrel
    by_cases hlt : k < m
    · have hkl : k < l.length := by have := HL.out; omega
      obtain ⟨p, off, rfl, hcx⟩ := (HR.out.below hst.out.1) k hkl
      have c0 := hcx 0 _ rfl
      have c1 := hcx 1 _ rfl
      rw [Nat.add_zero] at c0
      have HF : Hidden (loopX n l (k + 1) = faultX n l k l[k]) := ⟨by rw [loopX, if_pos hst.out.2]; simp [hkl]⟩
      have HG : Hidden (faultX n l k l[k] = if badX n l[k] = true then 1 else if (l.take k).any (hitX l[k]) = true then 7 else 0) := ⟨rfl⟩
      have HBX : Hidden (badX n l[k] = (decide (l[k].2 < 1) || decide (l[k].1 < 0) || decide (n < l[k].2) || decide (n - l[k].2 < l[k].1))) := ⟨rfl⟩
      have HEND : Hidden (∀ x, x ≠ 0 → loopX n l (k + 1) = x → chkX n l = x) := ⟨fun x hx he => by rw [HC.out, loopX_stop n l (k + 1) (by rw [he]; exact hx) m (by omega), he]⟩
      have k0 : (0 : Int) ≤ k := by omega
      have k1 : (k : Int) < m := by omega
      have HEL : Hidden (l[k].1 = l[k].1 ∧ l[k].2 = l[k].2) := ⟨rfl, rfl⟩
      have hall : ∀ j, j < k → badX n (l.getD j (0, 0)) = false := fun j hj => (faultX_zero (loopX_zero n l k hst.out.2 j hj)).1
      have hprev : ∀ x ∈ l.take k, 0 ≤ x.1 ∧ x.1 ≤ 6400 ∧ 0 ≤ x.2 ∧ x.2 ≤ 6400 := fun x hx => by
        obtain ⟨j, hj, rfl⟩ := List.getElem_of_mem hx
        rw [List.length_take] at hj
        have := hall j (by omega)
        rw [List.getElem_take]
        have he : l.getD j (0, 0) = l[j] := by simp [show j < l.length by omega]
        rw [he] at this
        have := badX_false this
        omega
      have HPREV := Hidden.mk hprev
      have hrt := (HR.out.below hst.out.1).take k
      have HRT := Hidden.mk hrt
      clear hcx hall hprev hrt
      have HHIT : Hidden (∀ x : Ext, hitX l[k] x = hitX (l[k].1, l[k].2) x) := ⟨fun _ => rfl⟩
      generalize hlk : l[k] = e at *
      obtain ⟨e1, e2⟩ := e
      dsimp only at HF HG HBX c0 c1 HHIT
      have hal : Below wr.heap.size wr (wr.alloc (.cells #[.int .i64 e1, .int .i64 e2] 64)) := (Below.refl _ _).alloc (Nat.le_refl _) _
      have HB2 : Hidden (Below w.heap.size w (wr.alloc (.cells #[.int .i64 e1, .int .i64 e2] 64))) := ⟨hst.out.1.trans (hal.mono hst.out.1.size)⟩
      have hbk : (wr.alloc (.cells #[.int .i64 e1, .int .i64 e2] 64)).heap[wr.heap.size]? = some (.cells #[.int .i64 e1, .int .i64 e2] 64 (0, 0)) := heap_alloc_new wr _
      have HBK := Hidden.mk hbk
      have HLK := Hidden.mk hlk
      have HRT2 := Hidden.mk (HRT.out.below hal)
      clear hal hbk hlk HEL HRT
      by_cases b1 : e2 < 1
      · have t1 : decide (e2 < 1) = true := by simpa using b1
        have HE := Hidden.mk (HEND.out 1 (by decide) (by rw [HF.out, HG.out, if_pos (by rw [HBX.out, t1]; rfl)]))
        go_wp2_with fail
        go_ret
        exact ⟨by rw [HE.out]; rfl, HB2.out⟩
      have t1 : decide (e2 < 1) = false := by simpa using b1
      by_cases b2 : e1 < 0
      · have t2 : decide (e1 < 0) = true := by simpa using b2
        have HE := Hidden.mk (HEND.out 1 (by decide) (by rw [HF.out, HG.out, if_pos (by rw [HBX.out, t1, t2]; rfl)]))
        go_wp2_with fail
        go_ret
        exact ⟨by rw [HE.out]; rfl, HB2.out⟩
      have t2 : decide (e1 < 0) = false := by simpa using b2
      by_cases b3 : n < e2
      · have t3 : decide (n < e2) = true := by simpa using b3
        have HE := Hidden.mk (HEND.out 1 (by decide) (by rw [HF.out, HG.out, if_pos (by rw [HBX.out, t1, t2, t3]; rfl)]))
        go_wp2_with fail
        go_ret
        exact ⟨by rw [HE.out]; rfl, HB2.out⟩
      have t3 : decide (n < e2) = false := by simpa using b3
      have s1 : IntKind.i64.wrap (n - e2) = n - e2 := IntWalk.i64_in _ (by omega)
      by_cases b4 : n - e2 < e1
      · have t4 : decide (n - e2 < e1) = true := by simpa using b4
        have HE := Hidden.mk (HEND.out 1 (by decide) (by rw [HF.out, HG.out, if_pos (by rw [HBX.out, t1, t2, t3, t4]; rfl)]))
        go_wp2_with fail
        go_ret
        exact ⟨by rw [HE.out]; rfl, HB2.out⟩
      have t4 : decide (n - e2 < e1) = false := by simpa using b4
      have HBAD : Hidden (badX n (e1, e2) = false) := ⟨by rw [HBX.out, t1, t2, t3, t4]; rfl⟩
      have hsl := run_headX (some ⟨p, off, none⟩) m c k (by omega)
      go_wp2_with fail
      generalize wr.alloc (.cells #[.int .i64 e1, .int .i64 e2] 64) = w2 at *
      generalize wr.heap.size = Bx at *
      clear c0 c1 b1 b2 b3 b4
      have y0 : ∀ W, Below w2.heap.size w2 W → W.cell? ⟨Bx, 0, none⟩ = some (.int .i64 e1) ∧ W.cell? ⟨Bx, 1, none⟩ = some (.int .i64 e2) := fun W hW => by
        have hb := (hW.block _ (Array.getElem?_eq_some_iff.1 HBK.out).1).trans HBK.out
        exact ⟨by simp [World.cell?, hb], by simp [World.cell?, hb]⟩
      have hb2 := badX_false HBAD.out
      have hcf := cfX_check (hitX (e1, e2)) (some ⟨p, off, none⟩) k c (l.take k) (.pointer (some ⟨Bx, 0, none⟩)) w2 (by rw [List.length_take]; omega) (by omega) HRT2.out
        (fun x hx W hW => hit1_any (e1, e2) x Bx W (y0 W hW).1 (y0 W hW).2 (by dsimp only at hb2 ⊢; omega) (HPREV.out x hx))
      have HCF := Hidden.mk hcf
      clear hcf y0 hb2
      refine HCF.out.mono ?_
      rintro e w3 ⟨rfl, hb⟩
      have HB3 := Hidden.mk (HB2.out.trans (hb.mono HB2.out.size))
      clear hb
      cases hq : (l.take k).any (hitX (e1, e2)) with
      | true =>
        have HE := Hidden.mk (HEND.out 7 (by decide) (by rw [HF.out, HG.out, if_neg (by rw [HBAD.out]; decide), if_pos hq]))
        clear hq
        go_wp2_with fail
        go_ret
        exact ⟨by rw [HE.out]; rfl, HB3.out⟩
      | false =>
        have HE : Hidden (loopX n l (k + 1) = 0) := ⟨by rw [HF.out, HG.out, if_neg (by rw [HBAD.out]; decide), if_neg (by rw [hq]; decide)]⟩
        have q1 : IntKind.i64.wrap ((k : Int) + 1) = (k : Int) + 1 := IntWalk.i64_in _ (by omega)
        clear hq
        go_wp2_with fail
        go_roundg (m - (k + 1))
        case measure => omega
        case rel => exact ⟨k + 1, by omega, rfl, by go_num, ⟨HB3.out, HE.out⟩⟩
    · obtain rfl : k = m := by omega
      have HF : Hidden (chkX n l = 0) := ⟨by rw [HC.out]; exact hst.out.2⟩
      go_wp2_with fail
      go_ret
      exact ⟨by rw [HF.out]; rfl, hst.out.1⟩
end Go.Proofs.YtbnobjlphmkgeaaGreatDoor
/- A row of structs that the library has sorted: what it holds then. No program in sight. -/
namespace Go.Proofs.YtbnobjlphmkgeaaGreatDoor
open Go.RowKit Go.Sort Go.Shelf Go.Lib

theorem flatK_list {α : Type} [Inhabited α] (enc : α → List Value) (k : Nat) (hk : ∀ x, (enc x).length = k) (h0 : 0 < k) (d : Array α) : (flatK enc k d).toList = d.toList.flatMap enc := by
  apply List.ext_getElem?
  intro t
  by_cases ht : t < d.size * k
  · have h1 : t / k < d.size := by rw [Nat.div_lt_iff_lt_mul h0]; exact ht
    have h2 := flat_at enc k hk d.toList (t / k) (by simpa using h1) (t % k) (Nat.mod_lt _ h0)
    rw [Nat.div_add_mod' t k] at h2
    rw [h2]
    have h3 : t < (flatK enc k d).size := by simpa using ht
    have h4 := get_flatK enc k d t ht
    rw [getElem!_pos _ t h3] at h4
    rw [Array.getElem?_toList, Array.getElem?_eq_getElem h3, h4]
    have h5 : t % k < (enc d[t / k]!).length := by rw [hk]; exact Nat.mod_lt _ h0
    have h6 : d[t / k]! = d.toList[t / k]'(by simpa using h1) := by rw [getElem!_pos d (t / k) h1, Array.getElem_toList]
    rw [getElem!_pos (enc d[t / k]!) (t % k) h5, ← h6, List.getElem?_eq_getElem h5]
  · have hl : (d.toList.flatMap enc).length = d.size * k := by
      rw [List.length_flatMap]
      have : d.toList.map (fun x => (enc x).length) = List.replicate d.size k := by
        rw [List.eq_replicate_iff]
        exact ⟨by simp, fun b hb => by obtain ⟨x, _, rfl⟩ := List.mem_map.1 hb; exact hk x⟩
      rw [this]; simp
    rw [List.getElem?_eq_none (by rw [Array.length_toList, size_flatK]; omega), List.getElem?_eq_none (by omega)]
theorem take_putCellsK (cur F : Array Value) (h : F.size ≤ cur.size) : (putCells id 0 F cur).toList.take F.size = F.toList := by
  apply List.ext_getElem?
  intro j
  by_cases hj : j < F.size
  · rw [List.getElem?_take_of_lt hj, Array.getElem?_toList]
    simp [putCells, hj, show j < cur.size by omega]
  · rw [List.getElem?_take_eq_none (by omega), List.getElem?_eq_none (by simp; omega)]
theorem holdsK_own {α : Type} [Inhabited α] {enc : α → List Value} {k : Nat} (hk : ∀ x, (enc x).length = k) (h0 : 0 < k) {w : World} {base : Nat} {e : TypeId} {g n cap : Nat} {L : List α} (h : w.ownsRow base e k (.slice (some ⟨g, 0, none⟩) n cap) n (L.flatMap enc)) :
    HoldsK enc k w g 0 L.toArray := by
  rcases h.2 with ⟨h1, _⟩ | ⟨g', cap', cur, he, _, hh, _⟩
  · cases h1
  · injection he with he _ hcap
    injection he with he
    injection he with he
    subst he hcap
    intro j hj
    have hf := flatK_list enc k hk h0 L.toArray
    have hj' : j < L.length * k := by simpa using hj
    have hc : (L.flatMap enc)[j]? = some ((flatK enc k L.toArray)[j]!) := by
      have : (flatK enc k L.toArray).toList[j]? = some ((flatK enc k L.toArray)[j]!) := by
        rw [getElem!_pos _ j hj, Array.getElem?_toList, Array.getElem?_eq_getElem hj]
      rw [hf] at this
      simpa using this
    have := h.cells (g := g) rfl j _ hc
    rw [Addr.add_lit] at this
    exact ⟨this, by simp [World.frozen?, hh]⟩
theorem own_sortedK {α : Type} [Inhabited α] {enc : α → List Value} {k : Nat} (hk : ∀ x, (enc x).length = k) (h0 : 0 < k) {w : World} {base : Nat} {e : TypeId} {g n cap m : Nat} {L : List α} {d : Array α} {os : Array Obj} (hd : d.size = n) (h : w.ownsRow base e k (.slice (some ⟨g, 0, none⟩) n cap) n (L.flatMap enc)) :
    (sortWorldK enc k w g 0 m d os).ownsRow base e k (.slice (some ⟨g, 0, none⟩) n cap) n (d.toList.flatMap enc) ∧ w.grownBy (sortWorldK enc k w g 0 m d os) (some g) := by
  rcases h.2 with ⟨h1, _⟩ | ⟨g', cap', cur, he, hb, hh, hc, hm, hz, ht⟩
  · cases h1
  · injection he with he _ hcap
    injection he with he
    injection he with he
    subst he hcap
    have hg : g < w.heap.size := (Array.getElem?_eq_some_iff.1 hh).1
    have hfs : (flatK enc k d).size = n * k := by simp [hd]
    have hheap : (sortWorldK enc k w g 0 m d os).heap[g]? = some (.cells (putCells id 0 (flatK enc k d) cur) e (0, 0)) := by
      unfold sortWorldK
      rw [heap_grow_old _ _ (by simpa [putRowK] using hg)]
      simp [putRowK, putRow, mapBlock, Sort.ahead, Array.getElem?_modify, hh, onCells]
    have hle : n * k ≤ cap * k := Nat.mul_le_mul_right _ hc
    refine ⟨⟨?_, .inr ⟨g, cap, _, rfl, hb, hheap, hc, hm, by simp [putCells, hz], ?_⟩⟩, ?_⟩
    · rw [← flatK_list enc k hk h0 d, Array.length_toList, hfs]
    · rw [← hfs, take_putCellsK _ _ (by rw [hfs, hz]; exact hle), flatK_list enc k hk h0 d]
    · unfold sortWorldK
      refine ⟨rfl, rfl, rfl, by simp [putRowK], fun q hq hne => ?_⟩
      rw [heap_grow_old _ _ (by simpa [putRowK] using hq)]
      have : g ≠ q := fun e => hne (by rw [e])
      simp [putRowK, putRow, mapBlock, Sort.ahead, Array.getElem?_modify, this]
/-- sorted as the library sorts -/
def pdqL {α : Type} [Inhabited α] (cf : α → α → Int) (l : List α) : List α := (pdq (ltOf cf) l.toArray 0 l.length (Lib.bitLen l.length) true true).toList
theorem pdqL_perm {α : Type} [Inhabited α] (cf : α → α → Int) (hO : SWO (ltOf cf)) (l : List α) : (pdqL cf l).Perm l ∧ (pdqL cf l).Pairwise (fun a b => ltOf cf b a = false) := by
  have h := pdq_sorts (ltOf cf) hO l.toArray 0 l.length (Lib.bitLen l.length) true true (Nat.zero_le _) (by simp) (Or.inl rfl)
  obtain ⟨⟨hs, _, hp⟩, hsort⟩ := h
  have hs' : (pdq (ltOf cf) l.toArray 0 l.length (Lib.bitLen l.length) true true).size = l.length := by simpa using hs
  refine ⟨?_, ?_⟩
  · unfold pdqL
    have e1 : ∀ d : Array α, d.size = l.length → (d.extract 0 l.length).toList = d.toList := fun d hd => by
      rw [← hd]; simp
    rw [e1 _ hs', e1 _ (by simp)] at hp
    simpa using hp
  · unfold pdqL
    rw [List.pairwise_iff_getElem]
    intro i j hi hj hij
    have h1 := hsort i j (Nat.zero_le _) hij (by rw [Array.length_toList] at hj; omega)
    rw [getElem!_pos _ j (by simpa using hj), getElem!_pos _ i (by simpa using hi)] at h1
    simpa using h1
end Go.Proofs.YtbnobjlphmkgeaaGreatDoor
/- Laid: library functions whose contracts are proved over whatever program: the table of numbers, and a field a function or a type. -/
namespace Go.Proofs.YtbnobjlphmkgeaaGreatDoor
open Go.Shelf
def layX_ren : Go.Shelf.Ren := ⟨fun | 6 => 189 | 15 => 156 | 14 => 219 | 28 => 204 | 29 => 205 | 20 => 230 | 21 => 231 | 22 => 232 | 23 => 233 | 24 => 234 | 25 => 235 | 26 => 236 | 27 => 237 | 46 => 258 | 47 => 222 | 48 => 223 | 49 => 259 | 50 => 260 | 57 => 268 | n => n, fun | 22 => 114 | 24 => 64 | 25 => 260 | 3 => 3 | 39 => 213 | 0 => 0 | 53 => 272 | 55 => 274 | 4 => 4 | 46 => 266 | 45 => 265 | 50 => 217 | 5 => 5 | 9 => 9 | 66 => 296 | 70 => 300 | 76 => 310 | 77 => 58 | n => n, fun | n => n⟩
theorem layX : Go.Proofs.SlLaysF0.n6 Tryz.prog layX_ren := {
  mixed := by kernel_rfl
  f6 := ⟨Tryz.f189.name, by decide, Tryz.func189.trans (congrArg some (by kernel_rfl))⟩
  f14 := ⟨Tryz.f219.name, by decide, Tryz.func219.trans (congrArg some (by kernel_rfl))⟩
  f15 := Tryz.func156.trans (congrArg some (by kernel_rfl))
  f20 := ⟨Tryz.f230.name, by decide, Tryz.func230.trans (congrArg some (by kernel_rfl))⟩
  f21 := ⟨Tryz.f231.name, by decide, Tryz.func231.trans (congrArg some (by kernel_rfl))⟩
  f22 := ⟨Tryz.f232.name, by decide, Tryz.func232.trans (congrArg some (by kernel_rfl))⟩
  f23 := ⟨Tryz.f233.name, by decide, Tryz.func233.trans (congrArg some (by kernel_rfl))⟩
  f24 := ⟨Tryz.f234.name, by decide, Tryz.func234.trans (congrArg some (by kernel_rfl))⟩
  f25 := ⟨Tryz.f235.name, by decide, Tryz.func235.trans (congrArg some (by kernel_rfl))⟩
  f26 := ⟨Tryz.f236.name, by decide, Tryz.func236.trans (congrArg some (by kernel_rfl))⟩
  f27 := ⟨Tryz.f237.name, by decide, Tryz.func237.trans (congrArg some (by kernel_rfl))⟩
  f28 := Tryz.func204.trans (congrArg some (by kernel_rfl))
  f29 := Tryz.func205.trans (congrArg some (by kernel_rfl))
  f46 := ⟨Tryz.f258.name, by decide, Tryz.func258.trans (congrArg some (by kernel_rfl))⟩
  f47 := Tryz.func222.trans (congrArg some (by kernel_rfl))
  f48 := Tryz.func223.trans (congrArg some (by kernel_rfl))
  f49 := ⟨Tryz.f259.name, by decide, Tryz.func259.trans (congrArg some (by kernel_rfl))⟩
  f50 := ⟨Tryz.f260.name, by decide, Tryz.func260.trans (congrArg some (by kernel_rfl))⟩
  f57 := ⟨Tryz.f268.name, by decide, Tryz.func268.trans (congrArg some (by kernel_rfl))⟩
  t0 := Tryz.underlying0
  a0 := Tryz.isAgg0
  z0 := Tryz.sizeOf0
  v0 := Tryz.zeroValue0
  t3 := Tryz.underlying3
  a3 := Tryz.isAgg3
  z3 := Tryz.sizeOf3
  v3 := Tryz.zeroValue3
  t4 := Tryz.underlying4
  a4 := Tryz.isAgg4
  z4 := Tryz.sizeOf4
  v4 := Tryz.zeroValue4
  t5 := Tryz.underlying5
  a5 := Tryz.isAgg5
  z5 := Tryz.sizeOf5
  v5 := Tryz.zeroValue5
  t9 := Tryz.underlying9
  a9 := Tryz.isAgg9
  z9 := Tryz.sizeOf9
  v9 := Tryz.zeroValue9
  t22 := Tryz.underlying114
  a22 := Tryz.isAgg114
  z22 := Tryz.sizeOf114
  v22 := Tryz.zeroValue114
  t25 := Tryz.underlying260
  a25 := Tryz.isAgg260
  z25 := Tryz.sizeOf260
  v25 := Tryz.zeroValue260
  t39 := Tryz.underlying213
  a39 := Tryz.isAgg213
  z39 := Tryz.sizeOf213
  v39 := Tryz.zeroValue213
  t45 := Tryz.underlying265
  a45 := Tryz.isAgg265
  z45 := Tryz.sizeOf265
  v45 := Tryz.zeroValue265
  t46 := Tryz.underlying266
  a46 := Tryz.isAgg266
  z46 := Tryz.sizeOf266
  v46 := Tryz.zeroValue266
  t50 := Tryz.underlying217
  a50 := Tryz.isAgg217
  z50 := Tryz.sizeOf217
  v50 := Tryz.zeroValue217
  t53 := Tryz.underlying272
  a53 := Tryz.isAgg272
  z53 := Tryz.sizeOf272
  v53 := Tryz.zeroValue272
  t55 := Tryz.underlying274
  a55 := Tryz.isAgg274
  z55 := Tryz.sizeOf274
  v55 := Tryz.zeroValue274
  t66 := Tryz.underlying296
  a66 := Tryz.isAgg296
  z66 := Tryz.sizeOf296
  v66 := Tryz.zeroValue296
  t70 := Tryz.underlying300
  a70 := Tryz.isAgg300
  z70 := Tryz.sizeOf300
  v70 := Tryz.zeroValue300
  t76 := Tryz.underlying310
  a76 := Tryz.isAgg310
  z76 := Tryz.sizeOf310
  v76 := Tryz.zeroValue310
  t77 := Tryz.underlying58
  a77 := Tryz.isAgg58
  z77 := Tryz.sizeOf58
  v77 := Tryz.zeroValue58 }
end Go.Proofs.YtbnobjlphmkgeaaGreatDoor
/- The contract of extent.Holes. -/
namespace Go.Proofs.YtbnobjlphmkgeaaGreatDoor
open Go.RowKit Go.Sort Go.Shelf Go.Lib

def cmpX (x y : Ext) : Int := Lib.compareInt x.1 y.1
theorem ltX (x y : Ext) : ltOf cmpX x y = decide (x.1 < y.1) := by
  unfold ltOf cmpX Lib.compareInt
  by_cases h1 : x.1 < y.1
  · simp [h1]
  · by_cases h2 : y.1 < x.1 <;> simp [h1, h2]
theorem swoX : SWO (ltOf cmpX) where
  irrefl x := by rw [ltX]; simp
  trans x y z h1 h2 := by rw [ltX] at *; simp at *; omega
  ntrans x y z h1 h2 := by rw [ltX] at *; simp at *; omega
/-- extents by where they begin -/
def sortE (l : List Ext) : List Ext := pdqL cmpX l
theorem sortE_perm (l : List Ext) : (sortE l).Perm l := (pdqL_perm cmpX swoX l).1
theorem sortE_sorted (l : List Ext) : (sortE l).Pairwise (fun a b => a.1 ≤ b.1) := (pdqL_perm cmpX swoX l).2.imp fun {a b} h => by
  rw [ltX] at h; simp at h; omega
/-- runs between -/
def holesGo : Int → List Ext → List Ext
  | _, [] => []
  | at_, e :: r => (if at_ < e.1 then [(at_, e.1 - at_)] else []) ++ holesGo (e.1 + e.2) r
def holesX (n : Int) (l : List Ext) : List Ext := holesGo 0 (sortE l ++ [(n, 0)])

theorem compare_any (x y : Int) (w : World) : Calls Tryz.prog 90 #[.int .i64 x, .int .i64 y] w fun e w' => e = .returned (.int .i64 (Lib.compareInt x y)) ∧ w = w' := by
  have hn : ∀ z : Int, ∀ W, Calls Tryz.prog 157 #[.int .i64 z] W fun e w' => e = .returned (.bool false) ∧ W = w' := fun z W => by
    go_enter Tryz.func157, Tryz.ntmps157
    go_wp2
    go_ret
    exact ⟨by simp, rfl⟩
  have HN := Hidden.mk hn
  have HC : Hidden (Lib.compareInt x y = if x < y then -1 else if y < x then 1 else 0) := ⟨by unfold Lib.compareInt; rfl⟩
  clear hn
  by_cases h1 : x < y
  · have d1 : decide (x < y) = true := by simpa using h1
    have HV : Hidden (Lib.compareInt x y = -1) := ⟨by rw [HC.out, if_pos h1]⟩
    go_enter Tryz.func90, Tryz.ntmps90
    go_wp2_with (first | (go_at_call 157; refine (HN.out _ _).mono ?_; rintro e w' ⟨rfl, rfl⟩))
    go_ret
    exact ⟨ret_i64 HV.out.symm, rfl⟩
  have d1 : decide (x < y) = false := by simpa using h1
  by_cases h2 : y < x
  · have d2 : decide (y < x) = true := by simpa using h2
    have HV : Hidden (Lib.compareInt x y = 1) := ⟨by rw [HC.out, if_neg h1, if_pos h2]⟩
    go_enter Tryz.func90, Tryz.ntmps90
    go_wp2_with (first | (go_at_call 157; refine (HN.out _ _).mono ?_; rintro e w' ⟨rfl, rfl⟩))
    go_ret
    exact ⟨ret_i64 HV.out.symm, rfl⟩
  have d2 : decide (y < x) = false := by simpa using h2
  have HV : Hidden (Lib.compareInt x y = 0) := ⟨by rw [HC.out, if_neg h1, if_neg h2]⟩
  go_enter Tryz.func90, Tryz.ntmps90
  go_wp2_with (first | (go_at_call 157; refine (HN.out _ _).mono ?_; rintro e w' ⟨rfl, rfl⟩))
  go_ret
  exact ⟨ret_i64 HV.out.symm, rfl⟩
/-- the closure of Holes -/
theorem closeX (x y : Ext) (W : World) : Calls Tryz.prog 190 #[.agg #[.int .i64 x.1, .int .i64 x.2], .agg #[.int .i64 y.1, .int .i64 y.2]] W fun e w' => e = .returned (.int .i64 (cmpX x y)) ∧ ∃ q os', w' = grow (W.drewN q) os' := by
  have hcon := fun W' => compare_any x.1 y.1 W'
  have HC := Hidden.mk hcon
  have HX : Hidden (cmpX x y = Lib.compareInt x.1 y.1) := ⟨rfl⟩
  clear hcon
  rw [HX.out]
  generalize Lib.compareInt x.1 y.1 = r at *
  go_enter Tryz.func190, Tryz.ntmps190
  go_wp2_with (go_at_call 90; refine (HC.out _).mono ?_; rintro e w' ⟨rfl, rfl⟩)
  go_ret
  exact ⟨rfl, 0, _, by rw [alloc_eq_grow, alloc_eq_grow, grow_grow]; rfl⟩
theorem sortX_any (w : World) (base n : Nat) (v : Value) (L : List Ext) (hn : L.length = n) (hl : n ≤ 1000) (hown : w.ownsRow base 64 2 v n (L.flatMap tcells)) :
    Calls Tryz.prog 189 #[v, .func (.func 190) #[] #[]] w fun e w' => e = .returned (.tuple #[]) ∧ w'.ownsRow base 64 2 v n ((sortE L).flatMap tcells) ∧ w.grownBy w' v.ownBlock := by
  rcases hown.2 with ⟨rfl, h0⟩ | ⟨g, cap, cur, rfl, hb, hh, _⟩
  · have hL : L = [] := List.eq_nil_of_length_eq_zero (by omega)
    subst hL h0
    have hs : sortE [] = [] := List.Perm.eq_nil (sortE_perm [])
    have hc := AnyF.slices_SortFunc_none layX none 0 (.func (.func 190) #[] #[]) w
    change Calls Tryz.prog 189 _ _ _ at hc
    refine hc.mono ?_
    rintro e w' ⟨rfl, rfl⟩
    exact ⟨rfl, by rw [hs]; exact hown, World.grownBy.refl _ _⟩
  · have eg : ∀ args w, (callFunc 190 args).run Tryz.prog w = .ok (.enter 190 args) w := enters_of Tryz.func190 (by kernel_rfl) rfl
    have hcon := AnyQ.slices_SortFunc_eq layX 2 Tryz.isAgg64 Tryz.sizeOf64 tcells tcells_len (fun x v hv => by simp [tcells] at hv; rcases hv with rfl | rfl <;> rfl) cmpX swoX 190 #[] g 0 cap L.toArray w eg
      (fun _ _ _ _ x y => closeX x y _) (holdsK_own tcells_len (by omega) hown) (Array.getElem?_eq_some_iff.1 hh).1 (by simp; omega)
    change Calls Tryz.prog 189 _ _ _ at hcon
    have hsz : L.toArray.size = n := by simpa using hn
    rw [hsz] at hcon
    refine hcon.mono ?_
    rintro e w' ⟨rfl, m, os, rfl⟩
    have hds : (pdq (ltOf cmpX) L.toArray 0 n (Lib.bitLen n) true true).size = n := by
      have := (sortE_perm L).length_eq
      unfold sortE pdqL at this
      rw [Array.length_toList, hn] at this
      exact this
    have h2 := own_sortedK (m := m) (os := os) tcells_len (by omega) hds hown
    refine ⟨rfl, ?_, h2.2⟩
    have he : sortE L = (pdq (ltOf cmpX) L.toArray 0 n (Lib.bitLen n) true true).toList := by unfold sortE pdqL; rw [hn]
    rw [he]
    exact h2.1
theorem Src.of_rdX {X : Type} {cells : X → List Value} {C : Nat} (hC : ∀ x, (cells x).length = C) (h0 : 0 < C) {w : World} {A : Option Addr} {n : Nat} {L : List X} (hn : L.length = n) (h : RdX cells C w A L) : Src w C A n (L.flatMap cells) := by
  have hlen : (L.flatMap cells).length = n * C := by
    rw [List.length_flatMap]
    have : L.map (fun x => (cells x).length) = List.replicate n C := by
      rw [List.eq_replicate_iff]
      exact ⟨by simpa using hn, fun b hb => by obtain ⟨x, _, rfl⟩ := List.mem_map.1 hb; exact hC x⟩
    rw [this]; simp
  refine ⟨hlen, fun j u hu => ?_⟩
  have hj : j < n * C := by rw [← hlen]; exact (List.getElem?_eq_some_iff.1 hu).1
  have h1 : j / C < L.length := by rw [hn, Nat.div_lt_iff_lt_mul h0]; exact hj
  obtain ⟨b, off, rfl, hc⟩ := h (j / C) h1
  have h2 := flat_at cells C hC L (j / C) h1 (j % C) (Nat.mod_lt _ h0)
  rw [Nat.div_add_mod' j C] at h2
  refine ⟨_, rfl, ?_⟩
  rw [Addr.add_lit]
  have := hc (j % C) u (h2.symm.trans hu)
  rwa [Nat.add_assoc, Nat.div_add_mod' j C] at this
theorem extent_info : (Tryz.prog.info? 64).map (fun i => (i.zero, i.size, i.bytes)) = some (some (.agg #[.int .i64 0, .int .i64 0]), 2, 16) := by kernel_rfl
theorem tcells_one (L : List Ext) : ∀ u ∈ L.flatMap tcells, u.oneCell' = true := by
  intro u hu
  obtain ⟨x, _, h⟩ := List.mem_flatMap.1 hu
  simp only [tcells, List.mem_cons, List.not_mem_nil, or_false] at h
  rcases h with rfl | rfl <;> rfl
theorem cloneX_any (A : Option Addr) (n c : Nat) (L : List Ext) (w : World) (hn : L.length = n) (hl : n ≤ 1000) (hr : RdX tcells 2 w A L) :
    Calls Tryz.prog 188 #[.slice A n c] w fun e w' => ∃ v, e = .returned v ∧ w'.ownsRow w.heap.size 64 2 v n (L.flatMap tcells) ∧ Below w.heap.size w w' := by
  have he := fun W => Lib.run_eql_slice_nil (P := Tryz.prog) W 114 64 A n c 0 0 Tryz.underlying114
  have hsrc := Src.of_rdX tcells_len (by omega) hn hr
  rcases A with _ | ad
  · have hL : L = [] := by
      cases L with
      | nil => rfl
      | cons x r => obtain ⟨b, off, h, _⟩ := hr 0 (by simp); cases h
    subst hL
    have h0 : n = 0 := by simpa using hn.symm
    subst h0
    clear hr hsrc hn
    go_enter Tryz.func188, Tryz.ntmps188
    go_wp2_with fail
    go_ret
    exact ⟨_, rfl, World.ownsRow_nil _ _ _ _, Below.refl _ _⟩
  · obtain ⟨i0, hi0, hz0, hz1, hz2⟩ := info_parts extent_info
    have hown := World.ownsRow_lit (base := w.heap.size) (e := 64) (size := 2) w #[] 0 (Nat.le_refl _) (by simp) rfl
    have HSRC := Hidden.mk (hsrc.below ((Below.refl _ _).alloc (Nat.le_refl _) (.cells #[] 64)))
    have HOW := Hidden.mk hown
    clear hsrc hown hn hr
    go_enter Tryz.func188, Tryz.ntmps188
    go_wp2_with (at_builtin; refine wpList_append_src _ rfl (.tmp 5) (.tmp 6) _ rfl w.heap.size 64 i0 _ 2 16 Tryz.underlying114 hi0 hz0 hz1 hz2 rfl (by decide) (.slice (some ⟨w.heap.size, 0, none⟩) 0 0) 0 [] rfl HOW.out (some ad) n c (L.flatMap tcells) rfl HSRC.out (tcells_one L) (by simp only [maxLen]; omega) (by omega) (by simp) ?_; intro v1 w1 hown1 hg1 hnn)
    have hB : Below w.heap.size w w1 := ((Below.refl _ _).alloc (Nat.le_refl _) _).grown hg1 (by simp) (fun k hk => by simp [Value.ownBlock] at hk; omega)
    have HO := Hidden.mk (And.intro hown1 hB)
    clear hown1 hB hg1 hnn
    go_ret
    exact ⟨v1, rfl, by simpa using HO.out.1, HO.out.2⟩
/-- what is right for Holes -/
def OkX (l : List Ext) : Prop := ∀ x ∈ l, 0 ≤ x.1 ∧ 0 ≤ x.2 ∧ x.1 + x.2 ≤ 6400
theorem own_mem {w : World} {base n : Nat} {e : TypeId} {v : Value} {xs : List Value} {C : Nat} (h : w.ownsRow base e C v n xs) (hn : 0 < n) : ∃ g cap, v = .slice (some ⟨g, 0, none⟩) n cap ∧ base ≤ g := by
  rcases h.2 with ⟨_, h0⟩ | ⟨g, cap, cur, rfl, hb, _⟩
  · omega
  · exact ⟨g, cap, rfl, hb⟩
set_option maxRecDepth 100000 in
theorem xholes_any (n : Int) (A : Option Addr) (m c : Nat) (l : List Ext) (w : World) (hn0 : 0 ≤ n) (hn1 : n ≤ 6400) (hl : l.length = m) (hm : m ≤ 200) (hr : RdX tcells 2 w A l) (hok : OkX l) :
    Calls Tryz.prog 147 #[.int .i64 n, .slice A m c] w fun e w' => ∃ v, e = .returned v ∧ w'.ownsRow w.heap.size 64 2 v (holesX n l).length ((holesX n l).flatMap tcells) ∧ Below w.heap.size w w' := by
  obtain ⟨i0, hi0, hz0, hz1, hz2⟩ := info_parts extent_info
  have HI := Hidden.mk (And.intro hi0 (And.intro hz0 (And.intro hz1 hz2)))
  have HC := Hidden.mk (cloneX_any A m c l w hl (by omega) hr)
  have HS : Hidden ((sortE l).length = m) := ⟨by rw [(sortE_perm l).length_eq]; exact hl⟩
  have HOK : Hidden (OkX (sortE l ++ [(n, 0)])) := ⟨fun x hx => by
    rcases List.mem_append.1 hx with h | h
    · exact hok x ((sortE_perm l).mem_iff.1 h)
    · rw [List.mem_singleton.1 h]; dsimp only; omega⟩
  have HH : Hidden (holesX n l = holesGo 0 (sortE l ++ [(n, 0)])) := ⟨rfl⟩
  have HSORT : Hidden (∀ W v, W.ownsRow w.heap.size 64 2 v m (l.flatMap tcells) → Calls Tryz.prog 189 #[v, .func (.func 190) #[] #[]] W fun e w' => e = .returned (.tuple #[]) ∧ w'.ownsRow w.heap.size 64 2 v m ((sortE l).flatMap tcells) ∧ W.grownBy w' v.ownBlock) := ⟨fun W v h => sortX_any W _ m v l hl (by omega) h⟩
  rw [HH.out]
  generalize sortE l = S at *
  obtain ⟨X, hX⟩ : ∃ X, X = holesGo 0 (S ++ [(n, 0)]) := ⟨_, rfl⟩
  rw [← hX]
  have HX := Hidden.mk hX
  clear hX HH
  clear hi0 hz0 hz1 hz2 hr hok hl
  go_enter Tryz.func147, Tryz.ntmps147
  go_wp2_with fail
  refine HC.out.mono ?_
  rintro e w1 ⟨v1, rfl, hown1, hb1⟩
  have HO1 := Hidden.mk (And.intro hown1 hb1)
  clear hown1 hb1 HC
  go_wp2_with fail
  refine (HSORT.out _ _ HO1.out.1).mono ?_
  rintro e w2 ⟨rfl, hown2, hg2⟩
  have hb2 : Below w.heap.size w w2 := HO1.out.2.grown hg2 HO1.out.2.size (fun q hq => (HO1.out.1.lt q hq).1)
  have HO2 := Hidden.mk (And.intro hown2 hb2)
  clear hown2 hb2 hg2 HO1 HSORT
  obtain ⟨hi0, hz0, hz1, hz2⟩ := HI.out
  go_wp2_with (at_builtin; refine wpList_append_lies _ rfl (.tmp 12) (.tmp 15) _ rfl w.heap.size 64 i0 _ 2 16 Tryz.underlying114 hi0 hz0 hz1 hz2 rfl (by decide) v1 m (S.flatMap tcells) rfl (own_below HO2.out.1 ((Below.refl _ _).alloc (Nat.le_refl _) _)) ⟨(w2).heap.size, 0, none⟩ 1 1 [.int .i64 n, .int .i64 0] rfl rfl (World.news_of_block (cs := #[.int .i64 n, .int .i64 0]) (t := 64) (fr := (0, 0)) (heap_alloc_new (w2) _)) (by simp [Value.oneCell']) (by omega) (by simp only [maxLen]; omega) (by omega) (by have hz_ := HO2.out.2.size; rw [World.size_alloc]; omega) ((w2).heap.size + 1) (by simp) ?_; intro g3 cap3 w3 hown3 hg3 hat3 hlt3)
  clear hi0 hz0 hz1 hz2
  have hgW := grown_trans' ((Below.refl w2.heap.size w2).alloc (Nat.le_refl _) _) hg3
  have hB3 : Below w.heap.size w w3 := HO2.out.2.grown hgW HO2.out.2.size (fun q hq => (HO2.out.1.lt q hq).1)
  have hown3' : w3.ownsRow w.heap.size 64 2 (.slice (some ⟨g3, 0, none⟩) (m + 1) cap3) (m + 1) ((S ++ [(n, 0)]).flatMap tcells) := by simpa [tcells] using hown3
  have HSL : Hidden ((S ++ [(n, 0)]).length = m + 1) := ⟨by simp [HS.out]⟩
  generalize S ++ [(n, 0)] = T at *
  have H3 : Hidden (Below w.heap.size w w3 ∧ w3.ownsRow w.heap.size 64 2 (.slice (some ⟨g3, 0, none⟩) (m + 1) cap3) (m + 1) (T.flatMap tcells)) := ⟨hB3, hown3'⟩
  clear hgW hB3 hown3 hown3' hg3 hat3 hlt3 HO2 HS
  go_wp2_with fail
  go_loopg [4, 5, 18] (m + 1) (fun q v at_ i wr => ∃ (k : Nat) (H : List Ext) (a : Int), k ≤ m + 1 ∧ q = m + 1 - k ∧ i = .int .i64 (k : Int) ∧ at_ = .int .i64 a ∧ 0 ≤ a ∧ a ≤ 6400 ∧ H.length ≤ k ∧ Hidden (X = H ++ holesGo a (T.drop k) ∧ Below w.heap.size w wr ∧ wr.ownsRow w.heap.size 64 2 (.slice (some ⟨g3, 0, none⟩) (m + 1) cap3) (m + 1) (T.flatMap tcells) ∧ wr.ownsRow w.heap.size 64 2 v H.length (H.flatMap tcells) ∧ v.ownBlock ≠ some g3))
  case atStart => exact ⟨0, [], 0, by omega, rfl, rfl, rfl, by omega, by omega, by simp, ⟨by rw [HX.out]; simp, H3.out.1, H3.out.2, World.ownsRow_nil _ _ _ _, by simp [Value.ownBlock]⟩⟩
  case round =>
    obtain ⟨k, H, a, hk, rfl, rfl, rfl, ha0, ha1, hHk, hst⟩ := hrel
    by_cases hlt : k < m + 1
    · have hkT : k < T.length := by have := HSL.out; omega
      obtain ⟨g, off, hA, hgb, hgl, hcx⟩ := own_at tcells_len hst.out.2.2.1 k hkT (by omega)
      injection hA with hA
      injection hA with hA1 hA2
      subst hA1 hA2
      have c0 := hcx 0 _ rfl
      have c1 := hcx 1 _ rfl
      simp only [Nat.zero_add, Nat.add_zero] at c0 c1
      have hb := HOK.out T[k] (List.getElem_mem hkT)
      have HD : Hidden (T.drop k = T[k] :: T.drop (k + 1)) := ⟨(List.drop_eq_getElem_cons hkT)⟩
      have HG : Hidden (holesGo a (T.drop k) = (if a < T[k].1 then [(a, T[k].1 - a)] else []) ++ holesGo (T[k].1 + T[k].2) (T.drop (k + 1))) := ⟨by rw [HD.out]; rfl⟩
      have k0 : (0 : Int) ≤ k := by omega
      have k1 : (k : Int) < ((m + 1 : Nat) : Int) := by omega
      have k2 : k < m + 1 := hlt
      have k3 : (k : Int) < (m : Int) + 1 := by omega
      generalize T[k] = e at *
      obtain ⟨e1, e2⟩ := e
      dsimp only at c0 c1 hb HG
      obtain ⟨hb0, hb1, hb2⟩ := hb
      have hal : Below wr.heap.size wr (wr.alloc (.cells #[.int .i64 e1, .int .i64 e2] 64)) := (Below.refl _ _).alloc (Nat.le_refl _) _
      have s1 : IntKind.i64.wrap (e1 + e2) = e1 + e2 := IntWalk.i64_in _ (by omega)
      have s2 : IntKind.i64.wrap (e1 - a) = e1 - a := IntWalk.i64_in _ (by omega)
      have s3 : IntKind.i64.wrap ((k : Int) + 1) = (k : Int) + 1 := IntWalk.i64_in _ (by omega)
      have HAL := Hidden.mk hal
      clear hcx HD hal
      by_cases hlt2 : a < e1
      · have d1 : decide (a < e1) = true := by simpa using hlt2
        have HG2 : Hidden (holesGo a (T.drop k) = (a, e1 - a) :: holesGo (e1 + e2) (T.drop (k + 1))) := ⟨by rw [HG.out, if_pos hlt2]; rfl⟩
        have HBW : Hidden (Below w.heap.size w (wr.alloc (.cells #[.int .i64 e1, .int .i64 e2] 64))) := ⟨hst.out.2.1.trans (HAL.out.mono hst.out.2.1.size)⟩
        have hbk : (wr.alloc (.cells #[.int .i64 e1, .int .i64 e2] 64)).heap[wr.heap.size]? = some (.cells #[.int .i64 e1, .int .i64 e2] 64 (0, 0)) := heap_alloc_new wr _
        have HBK := Hidden.mk hbk
        have HAL2 : Hidden (Below wr.heap.size wr ((wr.alloc (.cells #[.int .i64 e1, .int .i64 e2] 64)).alloc (.cells #[.int .i64 a, .int .i64 (e1 - a)] 64))) := ⟨HAL.out.alloc HAL.out.size _⟩
        have HCELL : Hidden (∀ W, ((wr.alloc (.cells #[.int .i64 e1, .int .i64 e2] 64)).alloc (.cells #[.int .i64 a, .int .i64 (e1 - a)] 64)).grownBy W u4.ownBlock → W.cell? ⟨wr.heap.size, 0, none⟩ = some (.int .i64 e1) ∧ W.cell? ⟨wr.heap.size, 1, none⟩ = some (.int .i64 e2)) := ⟨fun W hW => by
          have hq := (hW.block wr.heap.size (by simp; omega) (fun e => by have := (hst.out.2.2.2.1.lt _ e.symm).2; omega)).trans ((Below.heap_alloc _ _ _ (by simp)).trans hbk)
          exact ⟨by simp [World.cell?, hq], by simp [World.cell?, hq]⟩⟩
        obtain ⟨hi0, hz0, hz1, hz2⟩ := HI.out
        clear hbk HG
        go_wp2_with (at_builtin; refine wpList_append_lies _ rfl (.tmp 26) (.tmp 33) _ rfl w.heap.size 64 i0 _ 2 16 Tryz.underlying114 hi0 hz0 hz1 hz2 rfl (by decide) u4 H.length (H.flatMap tcells) rfl (own_below (own_below hst.out.2.2.2.1 HAL.out) ((Below.refl _ _).alloc (Nat.le_refl _) _)) ⟨wr.heap.size + 1, 0, none⟩ 1 1 [.int .i64 a, .int .i64 (e1 - a)] rfl rfl (World.news_of_block (cs := #[.int .i64 a, .int .i64 (e1 - a)]) (t := 64) (fr := (0, 0)) (by have hq_ := heap_alloc_new (wr.alloc (.cells #[.int .i64 e1, .int .i64 e2] 64)) (.cells #[.int .i64 a, .int .i64 (e1 - a)] 64); rwa [World.size_alloc] at hq_)) (by simp [Value.oneCell']) (by omega) (by simp only [maxLen]; omega) (by omega) (by have hz_ := HBW.out.size; rw [World.size_alloc]; omega) (wr.heap.size + 1 + 1) (by simp) ?_; intro g7 cap7 w7 hown7 hg7 hat7 hlt7; have hgW := grown_trans' (HAL2.out) hg7; obtain ⟨z0, z1⟩ := HCELL.out w7 hg7)
        clear hi0 hz0 hz1 hz2
        have hB7 : Below w.heap.size w w7 := hst.out.2.1.grown hgW hst.out.2.1.size (fun q hq => (hst.out.2.2.2.1.lt q hq).1)
        have hg3n : some g3 ≠ u4.ownBlock := fun e => hst.out.2.2.2.2 e.symm
        have hT7 := hst.out.2.2.1.kept hgW (.inr (by simpa [Value.ownBlock] using hg3n))
        have hg37 : g7 ≠ g3 := fun e => by
          rcases hat7 with h | h
          · exact hst.out.2.2.2.2 (by rw [h, e])
          · omega
        have HN : Hidden (X = (H ++ [(a, e1 - a)]) ++ holesGo (e1 + e2) (T.drop (k + 1)) ∧ Below w.heap.size w w7 ∧ w7.ownsRow w.heap.size 64 2 (.slice (some ⟨g3, 0, none⟩) (m + 1) cap3) (m + 1) (T.flatMap tcells) ∧ w7.ownsRow w.heap.size 64 2 (.slice (some ⟨g7, 0, none⟩) (H.length + 1) cap7) (H ++ [(a, e1 - a)]).length ((H ++ [(a, e1 - a)]).flatMap tcells) ∧ (Value.slice (some ⟨g7, 0, none⟩) (H.length + 1) cap7).ownBlock ≠ some g3) :=
          ⟨by rw [hst.out.1, HG2.out]; simp, hB7, hT7, by simpa [tcells] using hown7, by simpa [Value.ownBlock] using hg37⟩
        clear hB7 hg3n hT7 hg37 hown7 hg7 hat7 hlt7 hgW hst HBW HBK HAL2 HCELL HG2
        go_wp2_with fail
        go_roundg (m + 1 - (k + 1))
        case measure => omega
        case rel => exact ⟨k + 1, H ++ [(a, e1 - a)], e1 + e2, by omega, rfl, by go_num, rfl, by omega, by omega, by simp; omega, HN⟩
      · have d1 : decide (a < e1) = false := by simpa using hlt2
        have HG2 : Hidden (holesGo a (T.drop k) = holesGo (e1 + e2) (T.drop (k + 1))) := ⟨by rw [HG.out, if_neg hlt2]; rfl⟩
        have HN : Hidden (X = H ++ holesGo (e1 + e2) (T.drop (k + 1)) ∧ Below w.heap.size w (wr.alloc (.cells #[.int .i64 e1, .int .i64 e2] 64)) ∧ (wr.alloc (.cells #[.int .i64 e1, .int .i64 e2] 64)).ownsRow w.heap.size 64 2 (.slice (some ⟨g3, 0, none⟩) (m + 1) cap3) (m + 1) (T.flatMap tcells) ∧ (wr.alloc (.cells #[.int .i64 e1, .int .i64 e2] 64)).ownsRow w.heap.size 64 2 u4 H.length (H.flatMap tcells) ∧ u4.ownBlock ≠ some g3) :=
          ⟨hst.out.1.trans (by rw [HG2.out]), hst.out.2.1.trans (HAL.out.mono hst.out.2.1.size), own_below hst.out.2.2.1 HAL.out, own_below hst.out.2.2.2.1 HAL.out, hst.out.2.2.2.2⟩
        clear HG HG2 hst
        go_wp2_with fail
        go_roundg (m + 1 - (k + 1))
        case measure => omega
        case rel => exact ⟨k + 1, H, e1 + e2, by omega, rfl, by go_num, rfl, by omega, by omega, by omega, HN⟩
    · obtain rfl : k = m + 1 := by omega
      have HF : Hidden (X = H) := ⟨by rw [hst.out.1, List.drop_of_length_le (by have := HSL.out; omega)]; simp [holesGo]⟩
      go_wp2_with fail
      go_ret
      exact ⟨_, rfl, by rw [HF.out]; exact hst.out.2.2.2.1, hst.out.2.1⟩
end Go.Proofs.YtbnobjlphmkgeaaGreatDoor
/- The contracts of extent.Frees and Fit. -/
namespace Go.Proofs.YtbnobjlphmkgeaaGreatDoor
open Go.RowKit

theorem chkX_ok {n : Int} {l : List Ext} (h : chkX n l = 0) : 0 ≤ n ∧ n ≤ 6400 ∧ l.length ≤ 200 ∧ OkX l ∧ (∀ j (hj : j < l.length), badX n l[j] = false ∧ (l.take j).any (hitX l[j]) = false) := by
  unfold chkX at h
  split at h
  · cases h
  · rename_i h1
    split at h
    · cases h
    · rename_i h2
      have h3 : ∀ j (hj : j < l.length), badX n l[j] = false ∧ (l.take j).any (hitX l[j]) = false := fun j hj => by
        have := faultX_zero (loopX_zero n l l.length h j hj)
        simpa [hj] using this
      refine ⟨by omega, by omega, by omega, fun x hx => ?_, h3⟩
      obtain ⟨j, hj, rfl⟩ := List.getElem_of_mem hx
      have := badX_false (h3 j hj).1
      omega
theorem holesGo_len : ∀ (a : Int) (S : List Ext), (holesGo a S).length ≤ S.length
  | _, [] => Nat.le_refl _
  | a, e :: r => by
    have := holesGo_len (e.1 + e.2) r
    rw [holesGo, List.length_append, List.length_cons]
    split <;> simp <;> omega
theorem holesX_len (n : Int) (l : List Ext) : (holesX n l).length ≤ l.length + 1 := by
  unfold holesX
  have := holesGo_len 0 (sortE l ++ [(n, 0)])
  rw [List.length_append, (sortE_perm l).length_eq] at this
  exact this
/-- the run that fits best -/
def bestX (size : Int) (H : List Ext) : Ext := H.foldl (fun b h => if size ≤ h.2 ∧ (b.2 = 0 ∨ h.2 < b.2) then h else b) (0, 0)
def fitE (n : Int) (l : List Ext) (size : Int) : Nat := if chkX n l = 0 then (if size < 1 ∨ 6400 < size then 1 else if (bestX size (holesX n l)).2 = 0 then 4 else 0) else chkX n l
def fitA (n : Int) (l : List Ext) (size : Int) : Int := if fitE n l size = 0 then (bestX size (holesX n l)).1 else 0
theorem bestX_succ (size : Int) (H : List Ext) (k : Nat) (hk : k < H.length) : bestX size (H.take (k + 1)) = if size ≤ H[k].2 ∧ ((bestX size (H.take k)).2 = 0 ∨ H[k].2 < (bestX size (H.take k)).2) then H[k] else bestX size (H.take k) := by
  unfold bestX
  rw [List.take_succ_eq_append_getElem hk, List.foldl_append]; rfl
theorem own_base {w : World} {b b' : Nat} {e : TypeId} {size n : Nat} {v : Value} {xs : List Value} (h : w.ownsRow b e size v n xs) (hb : b' ≤ b) : w.ownsRow b' e size v n xs := by
  refine ⟨h.1, ?_⟩
  rcases h.2 with h2 | ⟨g, cap, cur, he, hb2, rest⟩
  · exact .inl h2
  · exact .inr ⟨g, cap, cur, he, Nat.le_trans hb hb2, rest⟩
set_option maxRecDepth 100000 in
theorem xfit_any (n : Int) (A : Option Addr) (m c : Nat) (l : List Ext) (size : Int) (w : World) (hl : l.length = m) (hmc : m ≤ c) (hr : RdX tcells 2 w A l) :
    Calls Tryz.prog 68 #[.int .i64 n, .slice A m c, .int .i64 size] w fun e w' => e = .returned (.tuple #[.int .i64 (fitA n l size), errV (fitE n l size)]) ∧ Below w.heap.size w w' := by
  have HC := Hidden.mk (xcheck_any n A m c l w hl hmc hr)
  have HE : Hidden (fitE n l size = if chkX n l = 0 then (if size < 1 ∨ 6400 < size then 1 else if (bestX size (holesX n l)).2 = 0 then 4 else 0) else chkX n l) := ⟨rfl⟩
  have HA : Hidden (fitA n l size = if fitE n l size = 0 then (bestX size (holesX n l)).1 else 0) := ⟨rfl⟩
  generalize fitE n l size = fe at *
  generalize fitA n l size = fa at *
  by_cases h0 : chkX n l = 0
  · obtain ⟨o0, o1, o2, o3, -⟩ := chkX_ok h0
    have HH : Hidden (∀ W, Below w.heap.size w W → Calls Tryz.prog 147 #[.int .i64 n, .slice A m c] W fun e w' => ∃ v, e = .returned v ∧ w'.ownsRow W.heap.size 64 2 v (holesX n l).length ((holesX n l).flatMap tcells) ∧ Below W.heap.size W w') := ⟨fun W hW => xholes_any n A m c l W o0 o1 hl (by omega) (hr.below hW) o3⟩
    rw [h0] at HC
    rw [show errV 0 = Value.nilIface from rfl] at HC
    have hE := HE.out
    rw [if_pos h0] at hE
    have HE := Hidden.mk hE
    clear hE h0 hr hl o3
    by_cases h1 : size < 1
    · have hfe : fe = 1 := by rw [HE.out, if_pos (.inl h1)]
      have hfa : fa = 0 := by rw [HA.out, hfe]; rfl
      subst hfe hfa
      have d1 : decide (size < 1) = true := by simpa using h1
      clear HE HA HH
      go_enter Tryz.func68, Tryz.ntmps68
      go_wp2_with fail
      refine HC.out.mono ?_
      rintro e w1 ⟨rfl, hb1⟩
      have HB1 := Hidden.mk hb1
      clear hb1
      go_wp2_with fail
      go_ret2
      exact ⟨rfl, HB1.out⟩
    have d1 : decide (size < 1) = false := by simpa using h1
    by_cases h2 : 6400 < size
    · have hfe : fe = 1 := by rw [HE.out, if_pos (.inr h2)]
      have hfa : fa = 0 := by rw [HA.out, hfe]; rfl
      subst hfe hfa
      have d2 : decide (6400 < size) = true := by simpa using h2
      clear HE HA HH
      go_enter Tryz.func68, Tryz.ntmps68
      go_wp2_with fail
      refine HC.out.mono ?_
      rintro e w1 ⟨rfl, hb1⟩
      have HB1 := Hidden.mk hb1
      clear hb1
      go_wp2_with fail
      go_ret2
      exact ⟨rfl, HB1.out⟩
    have d2 : decide (6400 < size) = false := by simpa using h2
    have hE := HE.out
    rw [if_neg (by omega)] at hE
    have HE := Hidden.mk hE
    clear hE
    have hHl := holesX_len n l
    generalize holesX n l = H at *
    go_enter Tryz.func68, Tryz.ntmps68
    go_wp2_with fail
    refine HC.out.mono ?_
    rintro e w1 ⟨rfl, hb1⟩
    have hal : Below w1.heap.size w1 (w1.alloc (.cells #[.int .i64 0, .int .i64 0] 64)) := (Below.refl _ _).alloc (Nat.le_refl _) _
    have HB2 : Hidden (Below w.heap.size w (w1.alloc (.cells #[.int .i64 0, .int .i64 0] 64))) := ⟨hb1.trans (hal.mono hb1.size)⟩
    have HBK : Hidden ((w1.alloc (.cells #[.int .i64 0, .int .i64 0] 64)).heap[w1.heap.size]? = some (.cells #[.int .i64 0, .int .i64 0] 64 (0, 0))) := ⟨heap_alloc_new w1 _⟩
    have HB1 := Hidden.mk hb1.size
    clear hb1 hal
    go_wp2_with fail
    generalize w1.alloc (.cells #[.int .i64 0, .int .i64 0] 64) = w2 at *
    generalize w1.heap.size = bb at *
    refine (HH.out _ HB2.out).mono ?_
    rintro e w3 ⟨v, rfl, hown, hb3⟩
    have hbb : bb < w2.heap.size := (Array.getElem?_eq_some_iff.1 HBK.out).1
    have H3 : Hidden (Below w.heap.size w w3 ∧ w3.heap[bb]? = some (.cells #[.int .i64 0, .int .i64 0] 64 (0, 0)) ∧ w3.ownsRow w2.heap.size 64 2 v H.length (H.flatMap tcells)) := ⟨HB2.out.trans (hb3.mono HB2.out.size), (hb3.block _ hbb).trans HBK.out, hown⟩
    obtain ⟨A3, c3, rfl, hc3, -⟩ := own_split hown
    clear hown hb3 HBK HB2 HH
    generalize hhl : H.length = hl at *
    have HHL := Hidden.mk hhl
    clear hhl
    go_wp2_with fail
    go_loopg [30] hl (fun q i wr => ∃ (k : Nat) (b1 b2 : Int), k ≤ hl ∧ q = hl - k ∧ i = .int .i64 (k : Int) ∧ Hidden (bestX size (H.take k) = (b1, b2) ∧ Below w.heap.size w wr ∧ wr.heap[bb]? = some (.cells #[.int .i64 b1, .int .i64 b2] 64 (0, 0)) ∧ wr.ownsRow w2.heap.size 64 2 (.slice A3 hl c3) hl (H.flatMap tcells)))
    case atStart => exact ⟨0, 0, 0, by omega, rfl, rfl, ⟨rfl, H3.out.1, H3.out.2.1, H3.out.2.2⟩⟩
    case round =>
      obtain ⟨k, b1, b2, hk, rfl, rfl, hst⟩ := hrel
      by_cases hlt : k < hl
      · have hkH : k < H.length := by have := HHL.out; omega
        obtain ⟨g, off, rfl, hgb, hgl, hcx⟩ := own_at tcells_len hst.out.2.2.2 k hkH (by omega)
        have c0 := hcx 0 _ rfl
        have c1 := hcx 1 _ rfl
        simp only [Nat.add_zero] at c0
        have HS := Hidden.mk (bestX_succ size H k hkH)
        rw [hst.out.1] at HS
        generalize H[k] = e at *
        obtain ⟨e1, e2⟩ := e
        dsimp only at c0 c1 HS
        have hal : Below wr.heap.size wr (wr.alloc (.cells #[.int .i64 e1, .int .i64 e2] 64)) := (Below.refl _ _).alloc (Nat.le_refl _) _
        have HBK : Hidden ((wr.alloc (.cells #[.int .i64 e1, .int .i64 e2] 64)).heap[bb]? = some (.cells #[.int .i64 b1, .int .i64 b2] 64 (0, 0))) := ⟨(hal.block _ (Array.getElem?_eq_some_iff.1 hst.out.2.2.1).1).trans hst.out.2.2.1⟩
        have HN : Hidden (Below w.heap.size w (wr.alloc (.cells #[.int .i64 e1, .int .i64 e2] 64)) ∧ (wr.alloc (.cells #[.int .i64 e1, .int .i64 e2] 64)).ownsRow w2.heap.size 64 2 (.slice (some ⟨g, off, none⟩) hl c3) hl (H.flatMap tcells)) := ⟨hst.out.2.1.trans (hal.mono hst.out.2.1.size), own_below hst.out.2.2.2 hal⟩
        have hwb : w.heap.size ≤ bb := HB1.out
        have y0 : (wr.alloc (.cells #[.int .i64 e1, .int .i64 e2] 64)).cell? ⟨bb, 0, none⟩ = some (.int .i64 b1) := by simp [World.cell?, HBK.out]
        have y1 : (wr.alloc (.cells #[.int .i64 e1, .int .i64 e2] 64)).cell? ⟨bb, 1, none⟩ = some (.int .i64 b2) := by simp [World.cell?, HBK.out]
        have hfz : ∀ q, (wr.alloc (.cells #[.int .i64 e1, .int .i64 e2] 64)).frozen? ⟨bb, q, none⟩ = false := fun q => frozen_of_row _ bb q _ _ HBK.out
        have hne : wr.heap.size ≠ bb := by have := (Array.getElem?_eq_some_iff.1 hst.out.2.2.1).1; omega
        have s3 : IntKind.i64.wrap ((k : Int) + 1) = (k : Int) + 1 := IntWalk.i64_in _ (by omega)
        have k1 : (k : Int) < hl := by omega
        clear hcx hal
        by_cases q1 : size ≤ e2
        · have t1 : decide (size ≤ e2) = true := by simpa using q1
          by_cases q2 : b2 = 0 ∨ e2 < b2
          · have HS2 : Hidden (bestX size (H.take (k + 1)) = (e1, e2)) := ⟨by rw [HS.out, if_pos ⟨q1, q2⟩]⟩
            have HBK2 := Hidden.mk (heap_setK (k := 1) (heap_setK (k := 0) HBK.out (.int .i64 e1)) (.int .i64 e2))
            have HN2 : Hidden (Below w.heap.size w (((wr.alloc (.cells #[.int .i64 e1, .int .i64 e2] 64)).setCell ⟨bb, 0, none⟩ (.int .i64 e1)).setCell ⟨bb, 1, none⟩ (.int .i64 e2)) ∧ (((wr.alloc (.cells #[.int .i64 e1, .int .i64 e2] 64)).setCell ⟨bb, 0, none⟩ (.int .i64 e1)).setCell ⟨bb, 1, none⟩ (.int .i64 e2)).ownsRow w2.heap.size 64 2 (.slice (some ⟨g, off, none⟩) hl c3) hl (H.flatMap tcells)) :=
              ⟨(HN.out.1.setCell (p := ⟨bb, 0, none⟩) hwb _).setCell (p := ⟨bb, 1, none⟩) hwb _, ownsRow_block HN.out.2 fun q hq => (Below.heap_setCell _ _ _ _ (fun e => by have := (HN.out.2.lt q hq).1; simp at e; omega)).trans (Below.heap_setCell _ _ _ _ (fun e => by have := (HN.out.2.lt q hq).1; simp at e; omega))⟩
            by_cases q3 : b2 = 0
            · subst q3
              clear HS hst
              go_wp2_with fail
              go_roundg (hl - (k + 1))
              case measure => omega
              case rel => exact ⟨k + 1, e1, e2, by omega, rfl, by go_num, ⟨HS2.out, HN2.out.1, HBK2.out, HN2.out.2⟩⟩
            · have t3 : (b2 == 0) = false := by simpa using q3
              have t4 : decide (e2 < b2) = true := by simp; omega
              clear HS hst
              go_wp2_with fail
              go_roundg (hl - (k + 1))
              case measure => omega
              case rel => exact ⟨k + 1, e1, e2, by omega, rfl, by go_num, ⟨HS2.out, HN2.out.1, HBK2.out, HN2.out.2⟩⟩
          · have HS2 : Hidden (bestX size (H.take (k + 1)) = (b1, b2)) := ⟨by rw [HS.out, if_neg (fun h => q2 h.2)]⟩
            have t3 : (b2 == 0) = false := by simp; omega
            have t4 : decide (e2 < b2) = false := by simp; omega
            clear HS hst
            go_wp2_with fail
            go_roundg (hl - (k + 1))
            case measure => omega
            case rel => exact ⟨k + 1, b1, b2, by omega, rfl, by go_num, ⟨HS2.out, HN.out.1, HBK.out, HN.out.2⟩⟩
        · have t1 : decide (size ≤ e2) = false := by simpa using q1
          have HS2 : Hidden (bestX size (H.take (k + 1)) = (b1, b2)) := ⟨by rw [HS.out, if_neg (fun h => q1 h.1)]⟩
          clear HS hst
          go_wp2_with fail
          go_roundg (hl - (k + 1))
          case measure => omega
          case rel => exact ⟨k + 1, b1, b2, by omega, rfl, by go_num, ⟨HS2.out, HN.out.1, HBK.out, HN.out.2⟩⟩
      · obtain rfl : k = hl := by omega
        have hbe := hst.out.1
        rw [List.take_of_length_le (by have := HHL.out; omega)] at hbe
        have hE := HE.out
        rw [hbe] at hE HA
        dsimp only at hE HA
        have hbk := hst.out.2.2.1
        have y0 : wr.cell? ⟨bb, 0, none⟩ = some (.int .i64 b1) := by simp [World.cell?, hbk]
        have y1 : wr.cell? ⟨bb, 1, none⟩ = some (.int .i64 b2) := by simp [World.cell?, hbk]
        clear hbe hbk
        by_cases hz : b2 = 0
        · have hfe : fe = 4 := by rw [hE, if_pos hz]
          have hfa : fa = 0 := by rw [HA.out, hfe]; rfl
          subst hfe hfa hz
          clear hE HE HA
          go_wp2_with fail
          go_ret2
          exact ⟨rfl, hst.out.2.1⟩
        · have hfe : fe = 0 := by rw [hE, if_neg hz]
          have hfa : fa = b1 := by rw [HA.out, hfe]; rfl
          have t1 : (b2 == 0) = false := by simpa using hz
          subst hfe hfa
          clear hE HE HA
          go_wp2_with fail
          go_ret2
          exact ⟨rfl, hst.out.2.1⟩
  · have hfe : fe = chkX n l := by rw [HE.out, if_neg h0]
    have hfa : fa = 0 := by rw [HA.out, if_neg (by rw [hfe]; exact h0)]
    have hev : errV (chkX n l) = .iface 111 (.int .i64 (chkX n l)) := by unfold errV; rw [if_neg h0]
    rw [hfe, hfa, hev]
    rw [hev] at HC
    generalize chkX n l = q at *
    clear h0 hev HE HA hr hl hfe hfa
    go_enter Tryz.func68, Tryz.ntmps68
    go_wp2_with fail
    refine HC.out.mono ?_
    rintro e w1 ⟨rfl, hb1⟩
    have HB1 := Hidden.mk hb1
    clear hb1
    go_wp2_with fail
    go_ret2
    exact ⟨rfl, HB1.out⟩
end Go.Proofs.YtbnobjlphmkgeaaGreatDoor
/- The heap: what is read of it. -/
namespace Go.Proofs.YtbnobjlphmkgeaaGreatDoor
open Go.RowKit

/-- the fault of a handle; what its entry says -/
def hE (l : Bytes) (x : Int) : Nat := if handleB x = false then 1 else if hasE (rawE l (x - 1).toNat) = true then 0 else 5
def hR (l : Bytes) (x : Int) : Bytes := rawE l (x - 1).toNat
def gH (l : Bytes) (x : Int) : Int := if hE l x = 0 then x else 0
def gA (l : Bytes) (x : Int) : Int := if hE l x = 0 then rAt (hR l x) else 0
def gL (l : Bytes) (x : Int) : Int := if hE l x = 0 then rLen (hR l x) else 0
def gT (l : Bytes) (x : Int) : Int := if hE l x = 0 then rTag (hR l x) else 0
theorem hE_zero {l : Bytes} {x : Int} (h : hE l x = 0) : ∃ k : Nat, k < 40 ∧ x = (k : Int) + 1 ∧ hasE (rawE l k) = true ∧ hR l x = rawE l k := by
  unfold hE at h
  cases hh : handleB x with
  | false => rw [hh] at h; simp at h
  | true =>
    have hb := handleB_true.1 hh
    rw [hh] at h
    refine ⟨(x - 1).toNat, by omega, by omega, ?_, rfl⟩
    cases hq : hasE (rawE l (x - 1).toNat) with
    | true => rfl
    | false => rw [hq] at h; simp at h
theorem hE_has {l : Bytes} {k : Nat} (hk : k < 40) (h : hasE (rawE l k) = true) : hE l ((k : Int) + 1) = 0 ∧ hR l ((k : Int) + 1) = rawE l k := by
  have e : ((k : Int) + 1 - 1).toNat = k := by omega
  unfold hE hR
  rw [e]
  exact ⟨by rw [if_neg (by rw [handleB_true.2 (by omega)]; decide), if_pos h], rfl⟩
theorem hE_hasnt {l : Bytes} {k : Nat} (hk : k < 40) (h : hasE (rawE l k) = false) : hE l ((k : Int) + 1) = 5 := by
  have e : ((k : Int) + 1 - 1).toNat = k := by omega
  unfold hE
  rw [e, if_neg (by rw [handleB_true.2 (by omega)]; decide), if_neg (by rw [h]; decide)]
/-- an entry that a right image has lies within it -/
theorem good_in {l : Bytes} (hg : Good l) {x : Int} (h : hE l x = 0) : 288 ≤ gA l x ∧ 1 ≤ gL l x ∧ gL l x ≤ 1000 ∧ gA l x + gL l x ≤ l.length ∧ 0 ≤ gT l x ∧ gT l x ≤ 15 := by
  obtain ⟨k, hk, rfl, hh, hr⟩ := hE_zero h
  have := strayE_false (hg.s.fit k hk hh)
  unfold gA gL gT
  rw [if_pos h, if_pos h, if_pos h, hr]
  omega
theorem iget_ans (A : Option Addr) (n c : Nat) (l : Bytes) (x : Int) (w : World) (hn : l.length = n) (hr : rightB n = true) (hnc : n ≤ c) (hrd : Rd w A l) :
    Calls Tryz.prog 66 #[.slice A n c, .int .i64 x] w fun e w' => e = .returned (.tuple #[entV (gH l x) (gA l x) (gL l x) (gT l x), errV (hE l x)]) ∧ Below w.heap.size w w' := by
  cases hh : handleB x with
  | false =>
    have h1 : hE l x = 1 := by unfold hE; rw [hh]; rfl
    unfold gH gA gL gT
    rw [h1]
    exact iget_e1 A n c x w hr hh
  | true =>
    have hb := handleB_true.1 hh
    obtain ⟨k, rfl⟩ : ∃ k : Nat, x = (k : Int) + 1 := ⟨(x - 1).toNat, by omega⟩
    refine (iget_ok A n c l k w hn hr hnc hrd (by omega)).mono ?_
    rintro e w' ⟨h1, h2, hb'⟩
    refine ⟨?_, hb'⟩
    cases hq : hasE (rawE l k) with
    | true =>
      obtain ⟨e0, e1⟩ := hE_has (l := l) (k := k) (by omega) hq
      unfold gH gA gL gT
      rw [h1 hq, e0, e1]; rfl
    | false =>
      have e0 := hE_hasnt (l := l) (k := k) (by omega) hq
      unfold gH gA gL gT
      rw [h2 hq, e0]; rfl
section
variable {w0 w : World} {F : Nat → Prop} {h : Nat} {l : Bytes}
theorem htag_any (x : Int) (hp : Hp w0 w F h l) :
    Calls Tryz.prog 31 #[.pointer (some ⟨h, 0, none⟩), .int .i64 x] w fun e w' => e = .returned (.tuple #[.int .i64 (gT l x), errV (hE l x)]) ∧ Below w.heap.size w w' := by
  obtain ⟨g, cap, c0, hcap, hrow, hF⟩ := hp.open_
  have HC := Hidden.mk (iget_ans (some ⟨g, 0, none⟩) l.length cap l x w rfl hp.len hcap hrow.rd)
  unfold entV at HC
  generalize errV (hE l x) = ev at *
  generalize gH l x = a0 at *
  generalize gA l x = a1 at *
  generalize gL l x = a2 at *
  generalize gT l x = a3 at *
  clear hp hrow
  go_enter Tryz.func31, Tryz.ntmps31
  go_wp2_with fail
  refine HC.out.mono ?_
  rintro e w1 ⟨rfl, hb1⟩
  have HB := Hidden.mk (hb1.alloc hb1.size (.cells #[.int .i64 a0, .int .i64 a1, .int .i64 a2, .int .i64 a3] 66))
  clear hb1 HC
  go_wp2_with fail
  go_ret2
  exact ⟨rfl, HB.out⟩
theorem hsize_any (x : Int) (hp : Hp w0 w F h l) :
    Calls Tryz.prog 30 #[.pointer (some ⟨h, 0, none⟩), .int .i64 x] w fun e w' => e = .returned (.tuple #[.int .i64 (gL l x), errV (hE l x)]) ∧ Below w.heap.size w w' := by
  obtain ⟨g, cap, c0, hcap, hrow, hF⟩ := hp.open_
  have HC := Hidden.mk (iget_ans (some ⟨g, 0, none⟩) l.length cap l x w rfl hp.len hcap hrow.rd)
  unfold entV at HC
  generalize errV (hE l x) = ev at *
  generalize gH l x = a0 at *
  generalize gA l x = a1 at *
  generalize gL l x = a2 at *
  generalize gT l x = a3 at *
  clear hp hrow
  go_enter Tryz.func30, Tryz.ntmps30
  go_wp2_with fail
  refine HC.out.mono ?_
  rintro e w1 ⟨rfl, hb1⟩
  have HB := Hidden.mk (hb1.alloc hb1.size (.cells #[.int .i64 a0, .int .i64 a1, .int .i64 a2, .int .i64 a3] 66))
  clear hb1 HC
  go_wp2_with fail
  go_ret2
  exact ⟨rfl, HB.out⟩
theorem hentries_any (hp : Hp w0 w F h l) :
    Calls Tryz.prog 87 #[.pointer (some ⟨h, 0, none⟩)] w fun e w' => ∃ v, e = .returned v ∧ w'.ownsRow w.heap.size 66 4 v (entriesL l).length ((entriesL l).flatMap ecells) ∧ Below w.heap.size w w' := by
  obtain ⟨g, cap, c0, hcap, hrow, hF⟩ := hp.open_
  have HC := Hidden.mk (ientries_ok (some ⟨g, 0, none⟩) l.length cap l w rfl hp.len hcap hrow.rd)
  clear hp hrow
  go_enter Tryz.func87, Tryz.ntmps87
  go_wp2_with fail
  refine HC.out.mono ?_
  rintro e w1 ⟨v, rfl, hown, hb1⟩
  have HB := Hidden.mk (And.intro hown hb1)
  clear hb1 hown HC
  go_wp2_with fail
  go_ret
  exact ⟨v, rfl, HB.out⟩
theorem hroots_any (hp : Hp w0 w F h l) :
    Calls Tryz.prog 74 #[.pointer (some ⟨h, 0, none⟩)] w fun e w' => ∃ v, e = .returned v ∧ w'.ownsRow w.heap.size 128 2 v (rootsL l).length ((rootsL l).flatMap rcells) ∧ Below w.heap.size w w' := by
  obtain ⟨g, cap, c0, hcap, hrow, hF⟩ := hp.open_
  have HC := Hidden.mk (iroots_ok (some ⟨g, 0, none⟩) l.length cap l w rfl hp.len hcap hrow.rd)
  clear hp hrow
  go_enter Tryz.func74, Tryz.ntmps74
  go_wp2_with fail
  refine HC.out.mono ?_
  rintro e w1 ⟨v, rfl, hown, hb1⟩
  have HB := Hidden.mk (And.intro hown hb1)
  clear hb1 hown HC
  go_wp2_with fail
  go_ret
  exact ⟨v, rfl, HB.out⟩
/-- the bytes of an object, where they lie -/
theorem hof_any (g cap : Nat) (a m : Nat) (hh tg : Int) (W : World) (hc : ∃ n, W.cell? ⟨h, 0, none⟩ = some (.slice (some ⟨g, 0, none⟩) n cap)) (ha : a + m ≤ cap) (hm : 1 ≤ m) (hcap : a + m ≤ 281474976710656) :
    Calls Tryz.prog 70 #[.pointer (some ⟨h, 0, none⟩), .agg #[.int .i64 hh, .int .i64 (a : Int), .int .i64 (m : Int), .int .i64 tg]] W fun e w' => e = .returned (.slice (some ⟨g, a, none⟩) m (cap - a)) ∧ Below W.heap.size W w' := by
  obtain ⟨n, hc⟩ := hc
  have hlt := block_lt_of_cell hc
  have HB := Hidden.mk ((Below.refl W.heap.size W).alloc (Nat.le_refl _) (.cells #[.int .i64 hh, .int .i64 (a : Int), .int .i64 (m : Int), .int .i64 tg] 66))
  have s1 : IntKind.i64.wrap ((a : Int) + m) = (a : Int) + m := IntWalk.i64_in _ (by omega)
  have hsl := run_cut g 0 n cap a (a + m) (by omega) (by omega) (by omega)
  rw [Nat.add_sub_cancel_left, Nat.zero_add] at hsl
  simp only [Int.natCast_add] at hsl
  have hbk := heap_alloc_new W (.cells #[.int .i64 hh, .int .i64 (a : Int), .int .i64 (m : Int), .int .i64 tg] 66)
  have hcl := (HB.out.cell (p := ⟨h, 0, none⟩) hlt).trans hc
  have y1 : (W.alloc (.cells #[.int .i64 hh, .int .i64 (a : Int), .int .i64 (m : Int), .int .i64 tg] 66)).cell? ⟨W.heap.size, 1, none⟩ = some (.int .i64 a) := by simp only [World.cell?]; rw [hbk]; rfl
  have y2 : (W.alloc (.cells #[.int .i64 hh, .int .i64 (a : Int), .int .i64 (m : Int), .int .i64 tg] 66)).cell? ⟨W.heap.size, 2, none⟩ = some (.int .i64 m) := by simp only [World.cell?]; rw [hbk]; rfl
  clear hbk hc ha hm hcap
  go_enter Tryz.func70, Tryz.ntmps70
  go_wp2_with fail
  generalize W.alloc (.cells #[.int .i64 hh, .int .i64 (a : Int), .int .i64 (m : Int), .int .i64 tg] 66) = w2 at *
  generalize hB2 : W.heap.size = Bx at *
  have HB2 := Hidden.mk hB2
  clear hB2
  go_quiet (fail)
  go_wp2_with fail
  go_ret
  exact ⟨rfl, by have := HB.out; rw [← HB2.out] at this; exact below_drewN this _⟩
end
end Go.Proofs.YtbnobjlphmkgeaaGreatDoor
/- The heap: what turns it. -/
namespace Go.Proofs.YtbnobjlphmkgeaaGreatDoor
open Go.RowKit

/-- a heap that a call leaves: another image, other blocks of its own, all else as it was -/
structure HpM (w0 w w' : World) (F F' : Nat → Prop) (h : Nat) (l' : Bytes) : Prop where
  hp : Hp w0 w' F' h l'
  kp : Keep F w w'
  nw : ∀ k, F' k → F k ∨ w.heap.size ≤ k
section
variable {w0 w w' : World} {F : Nat → Prop} {h : Nat} {l l' : Bytes}
theorem Hp.same (hp : Hp w0 w F h l) (hb : Below w.heap.size w w') : HpM w0 w w' F F h l := ⟨hp.below hb, Keep.of_below hb, fun _ hk => .inl hk⟩
theorem HpM.trans {F' F'' : Nat → Prop} {w1 w2 : World} {l1 l2 : Bytes} (a : HpM w0 w w1 F F' h l1) (b : HpM w0 w1 w2 F' F'' h l2) : HpM w0 w w2 F F'' h l2 :=
  ⟨b.hp, a.kp.trans b.kp a.nw, fun k hk => by
    rcases b.nw k hk with h1 | h1
    · exact a.nw k h1
    · right; have := a.kp.size; omega⟩
theorem HpM.below (a : HpM w0 w w' F F h l) {w1 : World} (hb : Below w'.heap.size w' w1) : HpM w0 w w1 F F h l := a.trans (a.hp.same hb)
theorem hkeep_below (hb : Below w0.heap.size w0 w) (hk : Keep F w w') (hn : ∀ k, F k → w0.heap.size ≤ k) : Below w0.heap.size w0 w' := hb.trans (hk.below hb.size hn)
/-- the image turned -/
theorem Hp.set (hp : Hp w0 w F h l) {g' cap' : Nat} (hrow : Row w 5 g' cap' l') (hlen : rightB l'.length = true) (hg' : w0.heap.size ≤ g') :
    Hp w0 (w.setCell ⟨h, 0, none⟩ (.slice (some ⟨g', 0, none⟩) l'.length cap')) (fun k => F k ∨ k = g') h l' ∧ Keep F w (w.setCell ⟨h, 0, none⟩ (.slice (some ⟨g', 0, none⟩) l'.length cap')) := by
  obtain ⟨g, cap, hd, hr, hF⟩ := hp.hd
  have hne : h ≠ g' := ne_row hd hrow (by decide)
  have hoth : ∀ q, q ≠ h → (w.setCell ⟨h, 0, none⟩ (.slice (some ⟨g', 0, none⟩) l'.length cap')).heap[q]? = w.heap[q]? := fun q hq => Below.heap_setCell _ _ _ _ (fun e => hq (by simpa using e))
  have hsz : (w.setCell ⟨h, 0, none⟩ (.slice (some ⟨g', 0, none⟩) l'.length cap')).heap.size = w.heap.size := by
    rw [setCell_eq_setRow w h 0 _ _ _ _ hd]; simp [World.setRow]
  have hkeep : Keep F w (w.setCell ⟨h, 0, none⟩ (.slice (some ⟨g', 0, none⟩) l'.length cap')) :=
    ⟨rfl, rfl, rfl, Nat.le_of_eq hsz.symm, fun k _ hn => hoth k (fun e => hn (e ▸ hp.fh))⟩
  refine ⟨⟨⟨g', cap', heap_setK (k := 0) hd _, hrow.block (hoth _ (Ne.symm hne)), .inr rfl⟩, .inl hp.fh, hlen, fun k hk => ?_, fun k hk => ?_, hkeep_below hp.bel hkeep hp.new⟩, hkeep⟩
  · rcases hk with hk | rfl
    · exact hp.new k hk
    · exact hg'
  · rw [hsz]
    rcases hk with hk | rfl
    · exact hp.flt k hk
    · exact hrow.lt
end
end Go.Proofs.YtbnobjlphmkgeaaGreatDoor
/- Roots of a list that are looked for: slices.IndexFunc, ContainsFunc with the closures of heap.Free and root.Get; the extents of a heap. -/
namespace Go.Proofs.YtbnobjlphmkgeaaGreatDoor
open Go.RowKit

/-- where the first is -/
def ixP {X : Type} (p : X → Bool) (L : List X) : Int := if L.any p = true then (L.findIdx p : Int) else -1
theorem ixP_at {X : Type} (p : X → Bool) (L : List X) (k : Nat) (hk : k < L.length) (hn : ∀ x ∈ L.take k, p x = false) (he : p L[k] = true) : ixP p L = k := by
  unfold ixP
  rw [if_pos (List.any_eq_true.2 ⟨_, List.getElem_mem hk, he⟩)]
  congr 1
  rw [List.findIdx_eq hk]
  refine ⟨he, fun j hj => ?_⟩
  have := hn L[j] (List.mem_take_iff_getElem.2 ⟨j, by omega, rfl⟩)
  simpa using this
theorem ixP_none {X : Type} (p : X → Bool) (L : List X) (hn : ∀ x ∈ L, p x = false) : ixP p L = -1 := by
  unfold ixP
  rw [if_neg]
  rw [Bool.not_eq_true, List.any_eq_false]
  intro x hx; rw [hn x hx]; simp
theorem root1_free (x : Bytes × Nat) (y : Int) (Bx : Nat) (W : World) (h1 : W.cell? ⟨Bx, 0, none⟩ = some (.int .i64 y)) :
    Calls Tryz.prog 75 #[.agg #[sv x.1, .int .i64 x.2], .pointer (some ⟨Bx, 0, none⟩)] W fun e' w' => e' = .returned (.bool ((x.2 : Int) == y)) ∧ Below W.heap.size W w' := by
  obtain ⟨s, q⟩ := x
  dsimp only
  have hlt := block_lt_of_cell h1
  have hW : Below W.heap.size W (W.alloc (.cells #[sv s, .int .i64 q] 128)) := (Below.refl _ _).alloc (Nat.le_refl _) _
  go_enter Tryz.func75, Tryz.ntmps75
  go_wp2_with fail
  go_ret
  exact ⟨rfl, hW⟩
theorem idxR_free (p : Bytes × Nat → Bool) (A : Option Addr) (n c : Nat) (L : List (Bytes × Nat)) (cap : Value) (w : World) (hn : L.length = n) (hl : n ≤ 1000) (hr : RdX rcells 2 w A L)
    (hP : ∀ x ∈ L, ∀ W, Below w.heap.size w W → Calls Tryz.prog 75 #[.agg #[sv x.1, .int .i64 x.2], cap] W fun e w' => e = .returned (.bool (p x)) ∧ Below W.heap.size W w') :
    Calls Tryz.prog 149 #[.slice A n c, .func (.func 75) #[] #[cap]] w fun e w' => e = .returned (.int .i64 (ixP p L)) ∧ Below w.heap.size w w' := by
  subst hn
  have HP := Hidden.mk hP
  clear hP
  go_enter Tryz.func149, Tryz.ntmps149
  go_wp2_with fail
  go_loopw [8] (fun i wr => Below w.heap.size w wr ∧ ∃ k : Nat, k ≤ L.length ∧ i = .int .i64 k ∧ Hidden (∀ x ∈ L.take k, p x = false)) (fun i _ => L.length - (intOf i).toNat)
  case atStart => exact ⟨Below.refl _ _, 0, Nat.zero_le _, rfl, ⟨by simp⟩⟩
  case round =>
    obtain ⟨hbel, k, hk, rfl, hnot⟩ := hrel
    by_cases hlt : k < L.length
    · obtain ⟨b, off, rfl, hcx⟩ := (hr.below hbel) k hlt
      have c0 := hcx 0 _ rfl
      have c1 := hcx 1 _ rfl
      rw [Nat.add_zero] at c0
      have hp := HP.out L[k] (List.getElem_mem hlt) wr hbel
      have HPK := Hidden.mk hp
      have i0 : (0 : Int) ≤ k := by omega
      have i1 : (k : Int) < L.length := by omega
      clear hp hcx
      go_wp2_with fail
      refine (HPK.out).mono ?_
      rintro e w1 ⟨rfl, hb1⟩
      have hB1 := hbel.trans (hb1.mono hbel.size)
      cases he : p L[k] with
      | true =>
        have hi := Hidden.mk (ixP_at p L k hlt hnot.out he)
        clear he hb1 hbel
        go_wp2_with fail
        go_ret
        exact ⟨by rw [hi.out]; rfl, hB1⟩
      | false =>
        have hnk : Hidden (∀ x ∈ L.take (k + 1), p x = false) := ⟨forall_take_succ' hlt hnot.out he⟩
        clear he hnot hb1 hbel
        go_wp2_with fail
        go_roundw
        case rel => exact ⟨hB1, k + 1, by omega, by go_num, hnk⟩
        case measure => simp [intOf]; omega
    · have hi := Hidden.mk (ixP_none p L (by have := hnot.out; rwa [List.take_of_length_le (by omega)] at this))
      go_wp2_with fail
      go_ret
      exact ⟨by rw [hi.out]; rfl, hbel⟩
theorem cfR_free (p : Bytes × Nat → Bool) (A : Option Addr) (n c : Nat) (L : List (Bytes × Nat)) (cap : Value) (w : World) (hn : L.length = n) (hl : n ≤ 1000) (hr : RdX rcells 2 w A L)
    (hP : ∀ x ∈ L, ∀ W, Below w.heap.size w W → Calls Tryz.prog 75 #[.agg #[sv x.1, .int .i64 x.2], cap] W fun e w' => e = .returned (.bool (p x)) ∧ Below W.heap.size W w') :
    Calls Tryz.prog 73 #[.slice A n c, .func (.func 75) #[] #[cap]] w fun e w' => e = .returned (.bool (L.any p)) ∧ Below w.heap.size w w' := by
  have HC := Hidden.mk (idxR_free p A n c L cap w hn hl hr hP)
  have HZ : Hidden (decide (0 ≤ ixP p L) = L.any p) := ⟨by
    unfold ixP
    cases L.any p with
    | true => rw [if_pos rfl]; simp
    | false => rw [if_neg (by decide)]; rfl⟩
  generalize ixP p L = z at *
  clear hP
  go_enter Tryz.func73, Tryz.ntmps73
  go_wp2_with fail
  refine HC.out.mono ?_
  rintro e w1 ⟨rfl, hb⟩
  go_wp2_with fail
  go_ret
  exact ⟨congrArg (fun b => Ending.returned (.bool b)) HZ.out, hb⟩
/-- the extents of an image's objects, behind the head -/
def takeX (x : Int × Bytes) : Ext := ((rAt x.2 : Int) - 288, (rLen x.2 : Int))
def takenL (l : Bytes) : List Ext := (entriesL l).map takeX
theorem takenL_len (l : Bytes) : (takenL l).length ≤ 40 := by unfold takenL; rw [List.length_map]; exact entsL_len _ _ 40
section
variable {w0 w : World} {F : Nat → Prop} {h : Nat} {l : Bytes}
set_option maxRecDepth 100000 in
theorem htaken_any (hp : Hp w0 w F h l) :
    Calls Tryz.prog 67 #[.pointer (some ⟨h, 0, none⟩)] w fun e w' => ∃ A m c, e = .returned (.tuple #[.int .i64 ((l.length : Int) - 288), .slice A m c]) ∧ (takenL l).length = m ∧ m ≤ c ∧ RdX tcells 2 w' A (takenL l) ∧ Below w.heap.size w w' := by
  have hb := rightB_true.1 hp.len
  obtain ⟨i0, hi0, hz0, hz1, hz2⟩ := info_parts extent_info
  have HI := Hidden.mk (And.intro hi0 (And.intro hz0 (And.intro hz1 hz2)))
  have HC := Hidden.mk (hentries_any hp)
  have HP := Hidden.mk hp
  have HT : Hidden (takenL l = (entriesL l).map takeX) := ⟨rfl⟩
  have hle : (entriesL l).length ≤ 40 := entsL_len _ _ 40
  generalize entriesL l = E at *
  clear hi0 hz0 hz1 hz2 hp
  go_enter Tryz.func67, Tryz.ntmps67
  go_wp2_with fail
  refine HC.out.mono ?_
  rintro e w1 ⟨v, rfl, hown, hb1⟩
  obtain ⟨A1, c1, rfl, hc1, -⟩ := own_split hown
  have HR := Hidden.mk (own_rdX3 (f := ecells) (fun _ => rfl) rfl hown)
  have HB := Hidden.mk hb1
  generalize hm : E.length = m at *
  have HM := Hidden.mk hm
  clear hown hb1 HC hm
  go_wp2_with fail
  go_loopg [3, 9] m (fun q v i wr => ∃ k : Nat, k ≤ m ∧ q = m - k ∧ i = .int .i64 (k : Int) ∧ Hidden (Below w1.heap.size w1 wr ∧ wr.ownsRow w1.heap.size 64 2 v k (((E.take k).map takeX).flatMap tcells)))
  case atStart => exact ⟨0, by omega, rfl, rfl, ⟨Below.refl _ _, World.ownsRow_nil _ _ _ _⟩⟩
  case round =>
    obtain ⟨k, hk, rfl, rfl, hst⟩ := hrel
    by_cases hlt : k < m
    · have hkE : k < E.length := by have := HM.out; omega
      obtain ⟨p, off, rfl, hcx⟩ := (HR.out.below hst.out.1) k hkE
      have x0 := hcx 0 _ rfl
      have x1 := hcx 1 _ rfl
      have x2 := hcx 2 _ rfl
      have x3 := hcx 3 _ rfl
      rw [Nat.add_zero] at x0
      have HS : Hidden ((E.take (k + 1)).map takeX = (E.take k).map takeX ++ [takeX E[k]]) := ⟨by rw [List.take_succ_eq_append_getElem hkE, List.map_append]; rfl⟩
      have b1 := rAt_le E[k].2
      have b2 := rLen_le E[k].2
      have HX : Hidden (takeX E[k] = ((rAt E[k].2 : Int) - 288, (rLen E[k].2 : Int))) := ⟨rfl⟩
      generalize takeX E[k] = tx at *
      generalize E[k].1 = e0 at *
      generalize rAt E[k].2 = e1 at *
      generalize rLen E[k].2 = e2 at *
      generalize rTag E[k].2 = e3 at *
      have s1 : IntKind.i64.wrap ((e1 : Int) - 288) = (e1 : Int) - 288 := IntWalk.i64_in _ (by omega)
      have s3 : IntKind.i64.wrap ((k : Int) + 1) = (k : Int) + 1 := IntWalk.i64_in _ (by omega)
      have k0 : (0 : Int) ≤ k := by omega
      have k1 : (k : Int) < m := by omega
      have hal : Below wr.heap.size wr (wr.alloc (.cells #[.int .i64 e0, .int .i64 e1, .int .i64 e2, .int .i64 e3] 66)) := (Below.refl _ _).alloc (Nat.le_refl _) _
      have HN : Hidden (Below w1.heap.size w1 (wr.alloc (.cells #[.int .i64 e0, .int .i64 e1, .int .i64 e2, .int .i64 e3] 66)) ∧ (wr.alloc (.cells #[.int .i64 e0, .int .i64 e1, .int .i64 e2, .int .i64 e3] 66)).ownsRow w1.heap.size 64 2 u3 k (((E.take k).map takeX).flatMap tcells)) := ⟨hst.out.1.trans (hal.mono hst.out.1.size), own_below hst.out.2 hal⟩
      obtain ⟨hi0, hz0, hz1, hz2⟩ := HI.out
      clear hcx hal hst
      go_wp2_with (at_builtin; refine wpList_append_lies _ rfl (.tmp 13) (.tmp 22) _ rfl w1.heap.size 64 i0 _ 2 16 Tryz.underlying114 hi0 hz0 hz1 hz2 rfl (by decide) u3 k (((E.take k).map takeX).flatMap tcells) rfl (own_below HN.out.2 ((Below.refl _ _).alloc (Nat.le_refl _) _)) ⟨wr.heap.size + 1, 0, none⟩ 1 1 [.int .i64 ((e1 : Int) - 288), .int .i64 e2] rfl rfl (World.news_of_block (cs := #[.int .i64 ((e1 : Int) - 288), .int .i64 e2]) (t := 64) (fr := (0, 0)) (by have hq_ := heap_alloc_new ((wr.alloc (.cells #[.int .i64 e0, .int .i64 e1, .int .i64 e2, .int .i64 e3] 66))) (.cells #[.int .i64 ((e1 : Int) - 288), .int .i64 e2] 64); rwa [World.size_alloc] at hq_)) (by simp [Value.oneCell']) (by omega) (by simp only [maxLen]; omega) (by omega) (by have hz_ := HN.out.1.size; rw [World.size_alloc]; omega) (wr.heap.size + 1 + 1) (by simp) ?_; intro g8 cap8 w8 hown8 hg8 hat8 hlt8)
      have hgW := grown_trans' ((Below.refl (wr.alloc (.cells #[.int .i64 e0, .int .i64 e1, .int .i64 e2, .int .i64 e3] 66)).heap.size (wr.alloc (.cells #[.int .i64 e0, .int .i64 e1, .int .i64 e2, .int .i64 e3] 66))).alloc (Nat.le_refl _) _) hg8
      have hB8 : Below w1.heap.size w1 w8 := HN.out.1.grown hgW HN.out.1.size (fun q hq => (HN.out.2.lt q hq).1)
      have HF : Hidden (Below w1.heap.size w1 w8 ∧ w8.ownsRow w1.heap.size 64 2 (.slice (some ⟨g8, 0, none⟩) (k + 1) cap8) (k + 1) (((E.take (k + 1)).map takeX).flatMap tcells)) := ⟨hB8, by rw [HS.out, HX.out]; simpa [tcells] using hown8⟩
      clear hgW hB8 hown8 hg8 hat8 hlt8 hi0 hz0 hz1 hz2
      go_roundg (m - (k + 1))
      case measure => omega
      case rel => exact ⟨k + 1, by omega, rfl, by go_num, HF⟩
    · obtain rfl : m = k := by omega
      obtain ⟨g, cap, hh, hcap, hrow, hF⟩ := (HP.out.below (HB.out.trans (hst.out.1.mono HB.out.size))).open_
      have s1 : IntKind.i64.wrap ((l.length : Int) - 288) = (l.length : Int) - 288 := IntWalk.i64_in _ (by omega)
      have hT := hst.out.2
      rw [List.take_of_length_le (by have := HM.out; omega), ← HT.out] at hT
      have HL : Hidden ((takenL l).length = m) := ⟨by rw [HT.out, List.length_map]; exact HM.out⟩
      obtain ⟨A3, c3, rfl, hc3, -⟩ := own_split hT
      have HF : Hidden (RdX tcells 2 wr A3 (takenL l) ∧ Below w.heap.size w wr) := ⟨own_rdX3 tcells_len HL.out hT, HB.out.trans (hst.out.1.mono HB.out.size)⟩
      clear hT hst hrow hF
      go_wp2_with fail
      go_ret2
      exact ⟨A3, m, c3, rfl, HL.out, hc3, HF.out.1, HF.out.2⟩
end
end Go.Proofs.YtbnobjlphmkgeaaGreatDoor
/- The heap: put, PutRoot, Free, Load. -/
namespace Go.Proofs.YtbnobjlphmkgeaaGreatDoor
open Go.RowKit

section
variable {w0 w : World} {F : Nat → Prop} {h : Nat} {l : Bytes}
/-- what a heap's block is, for a walk that stores into it -/
theorem Hp.head (hp : Hp w0 w F h l) : ∃ g cap, w.cell? ⟨h, 0, none⟩ = some (.slice (some ⟨g, 0, none⟩) l.length cap) ∧ w.frozen? ⟨h, 0, none⟩ = false ∧ l.length ≤ cap ∧ cap ≤ maxLen ∧ Row w 5 g cap l ∧ F g := by
  obtain ⟨g, cap, h1, h2, h3⟩ := hp.hd
  exact ⟨g, cap, by simp [World.cell?, h1], frozen_of_row _ h 0 _ _ h1, h2.le.1, h2.le.2, h2, h3⟩
set_option maxRecDepth 100000 in
theorem hput_ok (x : Int) (a m t : Int) (hp : Hp w0 w F h l) (hx : handleB x = true) (ht : tagB t = true) (hm : lenB m = true) (hw : withinB l.length a m = true) :
    Calls Tryz.prog 69 #[.pointer (some ⟨h, 0, none⟩), .agg #[.int .i64 x, .int .i64 a, .int .i64 m, .int .i64 t]] w fun e w' => e = .returned .nilIface ∧ ∃ F', HpM w0 w w' F F' h (putEnt l x a m t) := by
  obtain ⟨g, cap, c0, -, hcap, -, hrow, hF⟩ := hp.head
  have hb := rightB_true.1 hp.len
  have hhb := handleB_true.1 hx
  have hal := (Below.refl w.heap.size w).alloc (Nat.le_refl _) (.cells #[.int .i64 x, .int .i64 a, .int .i64 m, .int .i64 t] 66)
  have hlen : (putEnt l x a m t).length = l.length := putEnt_len l x a m t hhb.1 hhb.2 (by omega)
  have HC := Hidden.mk (fun (W : World) (hW : Below w.heap.size w W) => iput_ok (some ⟨g, 0, none⟩) l.length cap l x a m t W rfl hcap (hrow.rd.below hW) hp.len hx ht hm hw)
  have hf := fourAt_one w x a m t 66
  have hc1 := (hal.cell (p := ⟨h, 0, none⟩) (block_lt_of_cell c0)).trans c0
  have HP := Hidden.mk hp
  have HAL := Hidden.mk hal
  have HLEN := Hidden.mk hlen
  generalize putEnt l x a m t = l' at *
  clear hp hrow hal hlen hx ht hm hw c0
  unfold entV at HC
  go_enter Tryz.func69, Tryz.ntmps69
  go_wp2_with fail
  generalize w.alloc (.cells #[.int .i64 x, .int .i64 a, .int .i64 m, .int .i64 t] 66) = w1 at *
  have KF := Hidden.mk hf
  have KC := Hidden.mk hc1
  have KL := Hidden.mk (And.intro (block_lt_of_cell hc1) (block_lt_of_cell hf.1))
  clear hf hc1
  go_region_held3 (fun W => W.cell? ⟨h, 0, none⟩ = some (.slice (some ⟨g, 0, none⟩) l.length cap) ∧ W.cell? ⟨w.heap.size, 0, none⟩ = some (.int .i64 x) ∧ W.cell? ⟨w.heap.size, 1, none⟩ = some (.int .i64 a) ∧ W.cell? ⟨w.heap.size, 2, none⟩ = some (.int .i64 m) ∧ W.cell? ⟨w.heap.size, 3, none⟩ = some (.int .i64 t)) (first | exact ⟨KC.out, KF.out⟩ | exact ⟨(hb2.cell (p := ⟨h, 0, none⟩) KL.out.1).trans KC.out, (hb2.cell (p := ⟨w.heap.size, 0, none⟩) KL.out.2).trans KF.out.1, (hb2.cell (p := ⟨w.heap.size, 1, none⟩) KL.out.2).trans KF.out.2.1, (hb2.cell (p := ⟨w.heap.size, 2, none⟩) KL.out.2).trans KF.out.2.2.1, (hb2.cell (p := ⟨w.heap.size, 3, none⟩) KL.out.2).trans KF.out.2.2.2⟩)
    ((go_at_call 126; refine (HC.out _ (HAL.out.trans ((Below.refl _ _).drew.mono HAL.out.size))).mono ?_; rintro e w2 ⟨g', cap', rfl, hg', hrow', hb2⟩))
  all_goals
    have hb2 : Below w1.heap.size w1 w2 := ((Below.refl _ _).drew).trans hb2
    have hB2 := HAL.out.trans (hb2.mono HAL.out.size)
    have hP2 := HP.out.below hB2
    obtain ⟨g2, cap2, y0, yf, -, -, -, -⟩ := hP2.head
    have hs := hP2.set hrow' (by rw [HLEN.out]; exact HP.out.len) (Nat.le_trans HP.out.bel.size (Nat.le_trans HAL.out.size hg'))
    rw [HLEN.out] at hs
    have HS := Hidden.mk (HpM.mk hs.1 ((Keep.of_below (F := F) hB2).trans hs.2 (fun k hk => .inl hk)) (fun k hk => by
      rcases hk with hk | rfl
      · exact .inl hk
      · exact .inr (Nat.le_trans HAL.out.size hg')))
    clear hs hP2 hB2 hb2 hrow' HC
    go_wp2_with fail
    go_ret
    exact ⟨rfl, _, HS.out⟩
/-- a root as it is put: what stands there then -/
def putRo (s : Bytes) (x : Int) : Bytes := if s = [] ∧ x = 0 then List.replicate 11 0 else rootB s x
set_option maxRecDepth 100000 in
theorem hroot_ok (i : Nat) (s : Bytes) (x : Int) (hp : Hp w0 w F h l) (hi : i < 8) (hs : (s = [] ∧ x = 0) ∨ (handleB x = true ∧ isName s = true)) :
    Calls Tryz.prog 84 #[.pointer (some ⟨h, 0, none⟩), .int .i64 (i : Int), .agg #[sv s, .int .i64 x]] w fun e w' => e = .returned .nilIface ∧ ∃ F', HpM w0 w w' F F' h (splice l (200 + 11 * i) (putRo s x)) := by
  obtain ⟨g, cap, c0, -, hcap, -, hrow, hF⟩ := hp.head
  have hb := rightB_true.1 hp.len
  have hal := (Below.refl w.heap.size w).alloc (Nat.le_refl _) (.cells #[sv s, .int .i64 x] 128)
  have hlen : (splice l (200 + 11 * i) (putRo s x)).length = l.length := by
    rw [splice_len]
    have : (putRo s x).length = 11 := by
      unfold putRo
      split
      · simp
      · rename_i hn
        rcases hs with hs | ⟨-, hs⟩
        · exact absurd hs hn
        · unfold rootB; rw [List.length_append, nameB_len s hs]; rfl
    omega
  have HC : Hidden (∀ W, Below w.heap.size w W → Calls Tryz.prog 154 #[.slice (some ⟨g, 0, none⟩) l.length cap, .int .i64 (i : Int), .agg #[sv s, .int .i64 x]] W fun e w' => ∃ g' cap', e = .returned (.tuple #[.slice (some ⟨g', 0, none⟩) l.length cap', .nilIface]) ∧ W.heap.size ≤ g' ∧ Row w' 5 g' cap' (splice l (200 + 11 * i) (putRo s x)) ∧ Below W.heap.size W w') := ⟨fun W hW => by
    unfold putRo
    rcases hs with ⟨rfl, rfl⟩ | ⟨h1, h2⟩
    · rw [if_pos ⟨rfl, rfl⟩, ← rootO_k]
      exact root_zero (some ⟨g, 0, none⟩) l.length cap l i _ rfl hcap (hrow.rd.below hW) hp.len (by omega) (by omega)
    · have hx := handleB_true.1 h1
      rw [if_neg (by omega), ← rootO_k]
      exact root_ok (some ⟨g, 0, none⟩) l.length cap l i s x _ rfl (hrow.rd.below hW) hp.len (by omega) (by omega) h1 h2⟩
  have hbk := heap_alloc_new w (.cells #[sv s, .int .i64 x] 128)
  have hf : (w.alloc (.cells #[sv s, .int .i64 x] 128)).cell? ⟨w.heap.size, 0, none⟩ = some (sv s) ∧ (w.alloc (.cells #[sv s, .int .i64 x] 128)).cell? ⟨w.heap.size, 1, none⟩ = some (.int .i64 x) := ⟨by simp only [World.cell?]; rw [hbk]; rfl, by simp only [World.cell?]; rw [hbk]; rfl⟩
  have hc1 := (hal.cell (p := ⟨h, 0, none⟩) (block_lt_of_cell c0)).trans c0
  have HP := Hidden.mk hp
  have HAL := Hidden.mk hal
  have HLEN := Hidden.mk hlen
  generalize splice l (200 + 11 * i) (putRo s x) = l' at *
  clear hp hrow hal hlen hs c0 hbk
  go_enter Tryz.func84, Tryz.ntmps84
  go_wp2_with fail
  generalize w.alloc (.cells #[sv s, .int .i64 x] 128) = w1 at *
  have KF := Hidden.mk hf
  have KC := Hidden.mk hc1
  have KL := Hidden.mk (And.intro (block_lt_of_cell hc1) (block_lt_of_cell hf.1))
  clear hf hc1
  go_region_held3 (fun W => W.cell? ⟨h, 0, none⟩ = some (.slice (some ⟨g, 0, none⟩) l.length cap) ∧ W.cell? ⟨w.heap.size, 0, none⟩ = some (sv s) ∧ W.cell? ⟨w.heap.size, 1, none⟩ = some (.int .i64 x)) (first | exact ⟨KC.out, KF.out⟩ | exact ⟨(hb2.cell (p := ⟨h, 0, none⟩) KL.out.1).trans KC.out, (hb2.cell (p := ⟨w.heap.size, 0, none⟩) KL.out.2).trans KF.out.1, (hb2.cell (p := ⟨w.heap.size, 1, none⟩) KL.out.2).trans KF.out.2⟩)
    ((go_at_call 154; refine (HC.out _ (HAL.out.trans ((Below.refl _ _).drew.mono HAL.out.size))).mono ?_; rintro e w2 ⟨g', cap', rfl, hg', hrow', hb2⟩))
  all_goals
    have hb2 : Below w1.heap.size w1 w2 := ((Below.refl _ _).drew).trans hb2
    have hB2 := HAL.out.trans (hb2.mono HAL.out.size)
    have hP2 := HP.out.below hB2
    obtain ⟨g2, cap2, y0, yf, -, -, -, -⟩ := hP2.head
    have hs := hP2.set hrow' (by rw [HLEN.out]; exact HP.out.len) (Nat.le_trans HP.out.bel.size (Nat.le_trans HAL.out.size hg'))
    rw [HLEN.out] at hs
    have HS := Hidden.mk (HpM.mk hs.1 ((Keep.of_below (F := F) hB2).trans hs.2 (fun k hk => .inl hk)) (fun k hk => by
      rcases hk with hk | rfl
      · exact .inl hk
      · exact .inr (Nat.le_trans HAL.out.size hg')))
    clear hs hP2 hB2 hb2 hrow' HC
    go_wp2_with fail
    go_ret
    exact ⟨rfl, _, HS.out⟩
/-- the fault of Free; the image behind it -/
def freeE (l : Bytes) (x : Int) : Nat := if hE l x ≠ 0 then hE l x else if (rootsL l).any (fun r => (r.2 : Int) == x) = true then 7 else 0
def freeL (l : Bytes) (x : Int) : Bytes := if freeE l x = 0 then splice l (5 * (x - 1).toNat) (List.replicate 5 0) else l
set_option maxRecDepth 100000 in
theorem hfree_any (x : Int) (hp : Hp w0 w F h l) :
    Calls Tryz.prog 15 #[.pointer (some ⟨h, 0, none⟩), .int .i64 x] w fun e w' => e = .returned (errV (freeE l x)) ∧ ∃ F', HpM w0 w w' F F' h (freeL l x) := by
  obtain ⟨g, cap, c0, -, hcap, -, hrow, hF⟩ := hp.head
  have hb := rightB_true.1 hp.len
  have hal := (Below.refl w.heap.size w).alloc (Nat.le_refl _) (.cells #[.int .i64 x] 3)
  have hbx : (w.alloc (.cells #[.int .i64 x] 3)).heap[w.heap.size]? = some (.cells #[.int .i64 x] 3 (0, 0)) := heap_alloc_new w _
  by_cases h0 : hE l x = 0
  · obtain ⟨k, hk, rfl, hh, hr⟩ := hE_zero h0
    have hlen : (splice l (5 * k) (List.replicate 5 0)).length = l.length := by rw [splice_len]; simp; omega
    have hk1 : ((k : Int) + 1 - 1).toNat = k := by omega
    have HC := Hidden.mk (fun (W : World) (hW : Below w.heap.size w W) => idrop_ok (some ⟨g, 0, none⟩) l.length cap l k W rfl hp.len hcap (hrow.rd.below hW) hk hh)
    have hc1 := (hal.cell (p := ⟨h, 0, none⟩) (block_lt_of_cell c0)).trans c0
    have hf : (w.alloc (.cells #[.int .i64 ((k : Int) + 1)] 3)).cell? ⟨w.heap.size, 0, none⟩ = some (.int .i64 ((k : Int) + 1)) := by simp only [World.cell?]; rw [hbx]; rfl
    have HP := Hidden.mk hp
    have HAL := Hidden.mk hal
    have HLEN := Hidden.mk hlen
    have HBX := Hidden.mk hbx
    have HE : Hidden (freeE l ((k : Int) + 1) = if (rootsL l).any (fun r => (r.2 : Int) == (k : Int) + 1) = true then 7 else 0) := ⟨by unfold freeE; rw [if_neg (by rw [h0]; simp)]⟩
    have HL : Hidden (freeL l ((k : Int) + 1) = if freeE l ((k : Int) + 1) = 0 then splice l (5 * k) (List.replicate 5 0) else l) := ⟨by unfold freeL; rw [hk1]⟩
    have HRL : Hidden ((rootsL l).length ≤ 8) := ⟨rootsF_len _ _⟩
    have HRT : Hidden (∀ W, Hp w0 W F h l → Calls Tryz.prog 74 #[.pointer (some ⟨h, 0, none⟩)] W fun e w' => ∃ v, e = .returned v ∧ w'.ownsRow W.heap.size 128 2 v (rootsL l).length ((rootsL l).flatMap rcells) ∧ Below W.heap.size W w') := ⟨fun W hW => hroots_any hW⟩
    generalize hl' : splice l (5 * k) (List.replicate 5 0) = l' at *
    generalize rootsL l = RL at *
    generalize freeE l ((k : Int) + 1) = fe at *
    generalize freeL l ((k : Int) + 1) = fl at *
    have HK : Hidden (k = k) := ⟨rfl⟩
    clear hp hrow hal hlen hbx hl' hk1 h0 hr c0
    go_enter Tryz.func15, Tryz.ntmps15
    go_wp2_with fail
    generalize w.alloc (.cells #[.int .i64 ((k : Int) + 1)] 3) = w1 at *
    have KF := Hidden.mk hf
    have KC := Hidden.mk hc1
    have KL := Hidden.mk (And.intro (block_lt_of_cell hc1) (block_lt_of_cell hf))
    clear hf hc1
    go_region_held3 (fun W => W.cell? ⟨h, 0, none⟩ = some (.slice (some ⟨g, 0, none⟩) l.length cap) ∧ W.cell? ⟨w.heap.size, 0, none⟩ = some (.int .i64 ((k : Int) + 1))) (first | exact ⟨KC.out, KF.out⟩ | exact ⟨(hb2.cell (p := ⟨h, 0, none⟩) KL.out.1).trans KC.out, (hb2.cell (p := ⟨w.heap.size, 0, none⟩) KL.out.2).trans KF.out⟩)
      ((go_at_call 72; refine (HC.out _ (HAL.out.trans ((Below.refl _ _).drew.mono HAL.out.size))).mono ?_; rintro e w2 ⟨g', cap', rfl, hg', hrow', hb2⟩))
    all_goals
      have hb2 : Below w1.heap.size w1 w2 := ((Below.refl _ _).drew).trans hb2
      have HB2 := Hidden.mk (HAL.out.trans (hb2.mono HAL.out.size))
      have HBX2 := Hidden.mk ((hb2.block _ (Array.getElem?_eq_some_iff.1 HBX.out).1).trans HBX.out)
      have HR2 := Hidden.mk hrow'
      clear hb2 hrow' HBX HC
      go_wp2_with fail
      refine (HRT.out _ (HP.out.below HB2.out)).mono ?_
      rintro e w3 ⟨v, rfl, hown, hb3⟩
      have hB3 := HB2.out.trans (hb3.mono HB2.out.size)
      have hP3 := HP.out.below hB3
      have HBX3 := Hidden.mk ((hb3.block _ (Array.getElem?_eq_some_iff.1 HBX2.out).1).trans HBX2.out)
      have hR3 := HR2.out.block (hb3.block _ HR2.out.lt)
      obtain ⟨A3, c3, rfl, hc3, -⟩ := own_split hown
      have HCF := Hidden.mk (cfR_free (fun r => (r.2 : Int) == (k : Int) + 1) A3 RL.length c3 RL (.pointer (some ⟨w.heap.size, 0, none⟩)) w3 rfl (by have := HRL.out; omega) (own_rdX3 (f := rcells) (fun _ => rfl) rfl hown)
        (fun y _ W hW => root1_free y ((k : Int) + 1) w.heap.size W (by have := (hW.block _ (Array.getElem?_eq_some_iff.1 HBX3.out).1).trans HBX3.out; simp [World.cell?, this])))
      have H3 := Hidden.mk (And.intro hB3 (And.intro hP3 hR3))
      clear hown hb3 hB3 hP3 hR3 HB2 HR2 HBX2
      go_wp2_with fail
      refine HCF.out.mono ?_
      rintro e w4 ⟨rfl, hb4⟩
      have hB4 := H3.out.1.trans (hb4.mono H3.out.1.size)
      have hP4 := H3.out.2.1.below hb4
      have hR4 := H3.out.2.2.block (hb4.block _ H3.out.2.2.lt)
      cases ha : RL.any (fun r => (r.2 : Int) == (k : Int) + 1) with
      | true =>
        have hfe : fe = 7 := by rw [HE.out, if_pos ha]
        have hfl : fl = l := by rw [HL.out, hfe]; rfl
        have HF := Hidden.mk (HP.out.same hB4)
        subst hfe hfl
        clear hb4 hB4 hP4 hR4 HE HL
        go_wp2_with fail
        go_ret
        exact ⟨rfl, _, HF.out⟩
      | false =>
        have hfe : fe = 0 := by rw [HE.out, if_neg (by rw [ha]; decide)]
        have hfl : fl = l' := by rw [HL.out, hfe]; rfl
        obtain ⟨g2, cap2, y0, yf, -, -, -, -⟩ := hP4.head
        have hs := hP4.set hR4 (by rw [HLEN.out]; exact HP.out.len) (Nat.le_trans HP.out.bel.size (Nat.le_trans HAL.out.size hg'))
        rw [HLEN.out] at hs
        have HF := Hidden.mk (HpM.mk hs.1 ((Keep.of_below (F := F) hB4).trans hs.2 (fun k hk => .inl hk)) (fun k hk => by
          rcases hk with hk | rfl
          · exact .inl hk
          · exact .inr (Nat.le_trans HAL.out.size hg')))
        subst hfe hfl
        clear hb4 hB4 hP4 hR4 HE HL hs ha
        go_wp2_with fail
        go_ret
        exact ⟨rfl, _, HF.out⟩
  · have HC : Hidden (∀ W, Below w.heap.size w W → Calls Tryz.prog 72 #[.slice (some ⟨g, 0, none⟩) l.length cap, .int .i64 x] W fun e w' => e = .returned (.tuple #[.slice none 0 0, .iface 111 (.int .i64 (hE l x : Int))]) ∧ Below W.heap.size W w') := ⟨fun W hW => idrop_e _ _ _ _ _ _ ((iget_ans (some ⟨g, 0, none⟩) l.length cap l x _ rfl hp.len hcap (hrow.rd.below hW)).mono fun e w' ⟨he, hb'⟩ => ⟨by
      rw [he]
      unfold gH gA gL gT errV
      rw [if_neg h0, if_neg h0, if_neg h0, if_neg h0, if_neg h0], hb'⟩)⟩
    have hc1 := (hal.cell (p := ⟨h, 0, none⟩) (block_lt_of_cell c0)).trans c0
    have hf : (w.alloc (.cells #[.int .i64 x] 3)).cell? ⟨w.heap.size, 0, none⟩ = some (.int .i64 x) := by simp only [World.cell?]; rw [hbx]; rfl
    have hfe : freeE l x = hE l x := by unfold freeE; rw [if_pos h0]
    have hfl : freeL l x = l := by unfold freeL; rw [if_neg (by rw [hfe]; exact h0)]
    have hev : errV (hE l x) = .iface 111 (.int .i64 (hE l x)) := by unfold errV; rw [if_neg h0]
    rw [hfe, hfl, hev]
    have HP := Hidden.mk hp
    have HAL := Hidden.mk hal
    generalize (hE l x : Int) = q at *
    clear hp hrow hal hbx hfe hfl hev h0 c0
    go_enter Tryz.func15, Tryz.ntmps15
    go_wp2_with fail
    generalize w.alloc (.cells #[.int .i64 x] 3) = w1 at *
    have KF := Hidden.mk hf
    have KC := Hidden.mk hc1
    have KL := Hidden.mk (And.intro (block_lt_of_cell hc1) (block_lt_of_cell hf))
    clear hf hc1
    go_region_held3 (fun W => W.cell? ⟨h, 0, none⟩ = some (.slice (some ⟨g, 0, none⟩) l.length cap) ∧ W.cell? ⟨w.heap.size, 0, none⟩ = some (.int .i64 x)) (first | exact ⟨KC.out, KF.out⟩ | exact ⟨(hb2.cell (p := ⟨h, 0, none⟩) KL.out.1).trans KC.out, (hb2.cell (p := ⟨w.heap.size, 0, none⟩) KL.out.2).trans KF.out⟩)
      ((go_at_call 72; refine (HC.out _ (HAL.out.trans ((Below.refl _ _).drew.mono HAL.out.size))).mono ?_; rintro e w2 ⟨rfl, hb2⟩))
    all_goals
      have hb2 : Below w1.heap.size w1 w2 := ((Below.refl _ _).drew).trans hb2
      have HF := Hidden.mk (HP.out.same (HAL.out.trans (hb2.mono HAL.out.size)))
      clear hb2 HC
      go_wp2_with fail
      go_ret
      exact ⟨rfl, _, HF.out⟩
end
theorem hload_ok (A : Option Addr) (n c : Nat) (l : Bytes) (w0 w : World) (hn : l.length = n) (hg : Good l) (hnc : n ≤ c) (hrd : Rd w A l) (hb0 : Below w0.heap.size w0 w) :
    Calls Tryz.prog 9 #[.slice A n c] w fun e w' => ∃ h F, e = .returned (.tuple #[.pointer (some ⟨h, 0, none⟩), .nilIface]) ∧ Hp w0 w' F h l ∧ Below w.heap.size w w' ∧ ∀ k, F k → w.heap.size ≤ k := by
  subst hn
  have hb := hg.bd
  obtain ⟨p, off, rfl, hlt⟩ := hrd.lt (by omega)
  have HC := Hidden.mk (fine_t (some ⟨p, off, none⟩) l.length c l w rfl hg.len hnc hrd hg.chk)
  have HCL : Hidden (∀ W, Below w.heap.size w W → Calls Tryz.prog 57 #[.slice (some ⟨p, off, none⟩) l.length c] W fun e w' => ∃ g cap, e = .returned (.slice (some ⟨g, 0, none⟩) l.length cap) ∧ W.heap.size ≤ g ∧ Row w' 5 g cap l ∧ Below W.heap.size W w') := ⟨fun W hW => clone_some ⟨p, off, none⟩ l.length c l W rfl (by omega) (hrd.below hW)⟩
  have HR := Hidden.mk hg.len
  have HB0 := Hidden.mk hb0
  clear hrd hg hb0
  go_enter Tryz.func9, Tryz.ntmps9
  go_wp2_with fail
  refine HC.out.mono ?_
  rintro e w1 ⟨rfl, hb1⟩
  have HB1 := Hidden.mk hb1
  clear hb1
  go_wp2_with fail
  refine (HCL.out _ HB1.out).mono ?_
  rintro e w2 ⟨g, cap, rfl, hg, hrow, hb2⟩
  have hB2 := HB1.out.trans (hb2.mono HB1.out.size)
  have hglt := hrow.lt
  have hB02 := HB0.out.trans (hB2.mono HB0.out.size)
  have hgw : w.heap.size ≤ g := Nat.le_trans HB1.out.size hg
  have hP : Hp w0 (w2.alloc (.cells #[.slice (some ⟨g, 0, none⟩) l.length cap] 110)) (fun k => k = w2.heap.size ∨ k = g) w2.heap.size l :=
    ⟨⟨g, cap, heap_alloc_new w2 _, hrow.block (Below.heap_alloc _ _ _ hglt), .inr rfl⟩, .inl rfl, HR.out,
      fun k hk => by rcases hk with rfl | rfl; exact hB02.size; exact Nat.le_trans HB0.out.size hgw, fun k hk => by simp; omega, hB02.alloc hB02.size _⟩
  have HF := Hidden.mk (And.intro hP (And.intro (hB2.alloc hB2.size (.cells #[.slice (some ⟨g, 0, none⟩) l.length cap] 110)) (show ∀ k, (k = w2.heap.size ∨ k = g) → w.heap.size ≤ k from fun k hk => by rcases hk with rfl | rfl; exact hB2.size; exact hgw)))
  clear hP hB2 hb2 hrow hB02 HC HCL
  go_wp2_with fail
  go_ret2
  exact ⟨_, _, rfl, HF.out.1, HF.out.2.1, HF.out.2.2⟩
end Go.Proofs.YtbnobjlphmkgeaaGreatDoor
/- The reference's Fine and Mend; an image that is loaded. -/
namespace Go.Proofs.YtbnobjlphmkgeaaGreatDoor
open Go.RowKit

def fineE (l : Bytes) : Nat := if rightB l.length = false then 3 else if checkL l = [] then 0 else 6
theorem refFine_yes (A : Option Addr) (n c : Nat) (l : Bytes) (w : World) (hn : l.length = n) (hr : rightB n = true) (hnc : n ≤ c) (hrd : Rd w A l) :
    Calls Tryz.prog 8 #[.slice A n c] w fun e w' => e = .returned (.int .i64 (fineE l : Int)) ∧ Below w.heap.size w w' := by
  have HC := Hidden.mk (refCheck_ok A n c l w hn hr hnc hrd)
  have HF : Hidden (fineE l = if checkL l = [] then 0 else 6) := ⟨by unfold fineE; rw [hn, if_neg (by rw [hr]; decide)]⟩
  have h48 := checkL_len l
  generalize checkL l = F at *
  generalize fineE l = fe at *
  clear hn hrd
  go_enter Tryz.func8, Tryz.ntmps8
  go_wp2_with fail
  refine (ref_right_any _ _).mono ?_
  rintro e w1 ⟨rfl, rfl⟩
  rw [hr]
  go_wp2_with fail
  refine HC.out.mono ?_
  rintro e w1 ⟨v, rfl, hown, hb⟩
  obtain ⟨A1, c1, rfl, -, -⟩ := Src.of_own hown
  have HB := Hidden.mk hb
  clear hown hb HC
  by_cases h0 : F = []
  · have hfe : fe = 0 := by rw [HF.out, if_pos h0]
    subst hfe h0
    clear HF
    go_wp2_with fail
    go_ret
    exact ⟨rfl, HB.out⟩
  · have hfe : fe = 6 := by rw [HF.out, if_neg h0]
    have hl := List.length_pos_iff.2 h0
    have t1 : decide (0 < F.length) = true := by simpa using hl
    subst hfe
    clear HF h0 hl
    go_wp2_with fail
    go_ret
    exact ⟨rfl, HB.out⟩
set_option maxRecDepth 100000 in
theorem refMend_ok (p off n c : Nat) (l : Bytes) (w : World) (hn : l.length = n) (hr : rightB n = true) (hnc : n ≤ c) (hrd : Rd w (some ⟨p, off, none⟩) l) :
    Calls Tryz.prog 59 #[.slice (some ⟨p, off, none⟩) n c] w fun e w' => ∃ p' off' c', e = .returned (.slice (some ⟨p', off', none⟩) n c') ∧ n ≤ c' ∧ Rd w' (some ⟨p', off', none⟩) (mendL l) ∧ Below w.heap.size w w' := by
  have hnb := rightB_true.1 hr
  have HM : Hidden (mendL l = clearAll l (checkL l)) := ⟨rfl⟩
  have HID : Hidden (checkL l = [] → mendL l = l) := ⟨mend_id⟩
  have HCLEAN : Hidden (checkL (mendL l) = []) := ⟨mend_clean (by omega)⟩
  have HML : Hidden ((mendL l).length = n) := ⟨by rw [mendL_len (by omega), hn]⟩
  have HN := Hidden.mk hn
  have HIN : Hidden (∀ f ∈ checkL l, FltIn l.length f) := ⟨fun _ hf => flt_in (by omega) hf⟩
  have HRG : Hidden (∀ f ∈ checkL l, ((f.what = 4 ∨ f.what = 5) ∧ f.which < 8) ∨ (f.what ≠ 4 ∧ f.what ≠ 5 ∧ 1 ≤ f.which ∧ f.which ≤ 40)) := ⟨fun _ hf => flt_range hf⟩
  have HW3 : Hidden (∀ f ∈ checkL l, f.what ≤ 5) := ⟨fun f hf => by
    rcases mem_checkL.1 hf with ⟨k, _, hk, rfl⟩ | ⟨k, _, hk, rfl⟩
    · have := kindH_cases l.length (rawE l) k; dsimp only; omega
    · have := kindR_cases (leadsE l.length (rawE l)) (rawR l) k; dsimp only; omega⟩
  have hcl48 := checkL_len l
  have HRD := Hidden.mk hrd
  clear hn hrd
  go_enter Tryz.func59, Tryz.ntmps59
  go_wp2_with fail
  go_loopg [0] 2 (fun k b wr => ∃ (lb : Bytes) (p off c : Nat), b = .slice (some ⟨p, off, none⟩) n c ∧ n ≤ c ∧ Hidden (Below w.heap.size w wr ∧ Rd wr (some ⟨p, off, none⟩) lb ∧ ((k = 2 ∧ lb = l) ∨ (k = 1 ∧ lb = mendL l))))
  case atStart => exact ⟨l, p, off, c, rfl, hnc, ⟨Below.refl _ _, HRD.out, .inl ⟨rfl, rfl⟩⟩⟩
  case round =>
    obtain ⟨lb, p, off, c, rfl, hnc, hst⟩ := hrel
    have HLB : Hidden (lb.length = n) := ⟨by rcases hst.out.2.2 with ⟨_, rfl⟩ | ⟨_, rfl⟩; exact HN.out; exact HML.out⟩
    have HFIN : Hidden (checkL lb = [] → lb = mendL l) := ⟨fun h0 => by rcases hst.out.2.2 with ⟨_, rfl⟩ | ⟨_, rfl⟩; exact (HID.out h0).symm; rfl⟩
    have HFIRST : Hidden (checkL lb ≠ [] → gk = 2 ∧ lb = l) := ⟨fun h0 => by rcases hst.out.2.2 with h | ⟨_, rfl⟩; exact h; exact absurd HCLEAN.out h0⟩
    have HCK := Hidden.mk (refCheck_ok (some ⟨p, off, none⟩) n c lb wr HLB.out hr hnc hst.out.2.1)
    have HS0 := Hidden.mk (And.intro hst.out.1 hst.out.2.1)
    clear hst
    go_wp2_with fail
    refine HCK.out.mono ?_
    rintro e w2 ⟨v, rfl, hown, hb2⟩
    have HS2 := Hidden.mk (And.intro (HS0.out.1.trans (hb2.mono HS0.out.1.size)) (HS0.out.2.below hb2))
    obtain ⟨Af, cf, rfl, hcf, hrf⟩ := own_rdFs hown
    have HRF := Hidden.mk hrf
    obtain ⟨F, hFF⟩ : ∃ F, checkL lb = F := ⟨_, rfl⟩
    rw [hFF] at HRF hcf
    rw [hFF]
    have HFF := Hidden.mk hFF
    clear hFF hown hb2 hrf HS0 HCK
    by_cases hF : F = []
    · subst hF
      have hfin := HFIN.out HFF.out
      subst hfin
      have HR := HS2
      clear HS2
      go_wp2_with fail
      go_ret
      exact ⟨p, off, c, rfl, hnc, HR.out.2, HR.out.1⟩
    · have hfi := HFIRST.out (by rw [HFF.out]; exact hF)
      obtain ⟨rfl, rfl⟩ := hfi
      have hl48 : F.length ≤ 48 := by rw [← HFF.out]; exact hcl48
      have hne : 0 < F.length := List.length_pos_iff.2 hF
      have t1 : (F.length == 0) = false := by simp; omega
      have t1' : ((F.length : Int) == 0) = false := by simp; omega
      clear hF hcl48 hcf HFIN HFIRST
      go_wp2_with fail
      clear t1 t1'
      go_loopg [0, 4] F.length (fun q b i wr => ∃ (j p off c : Nat), j ≤ F.length ∧ q = F.length - j ∧ i = .int .i64 (j : Int) ∧ b = .slice (some ⟨p, off, none⟩) n c ∧ n ≤ c ∧ Hidden (Below w.heap.size w wr ∧ Below w2.heap.size w2 wr ∧ Rd wr (some ⟨p, off, none⟩) (clearAll lb (F.take j))))
      case atStart => exact ⟨0, p, off, c, by omega, rfl, rfl, rfl, hnc, ⟨HS2.out.1, Below.refl _ _, HS2.out.2⟩⟩
      case round =>
        obtain ⟨j, p, off, c, hj, rfl, rfl, rfl, hnc, hst⟩ := hrel
        by_cases hlt : j < F.length
        · obtain ⟨gf, of, rfl, c0, c1⟩ := (HRF.out.below hst.out.2.1) j hlt
          have HCL : Hidden (clearAll lb (F.take (j + 1)) = clearF (clearAll lb (F.take j)) F[j]) := ⟨clearAll_snoc lb F j hlt⟩
          have HLJ : Hidden ((clearAll lb (F.take j)).length = n) := ⟨by rw [clearAll_len _ _ (fun f hf => HIN.out f (by rw [HFF.out]; exact List.mem_of_mem_take hf)), HN.out]⟩
          have hrg := HRG.out F[j] (by rw [HFF.out]; exact List.getElem_mem hlt)
          have hw5 := HW3.out F[j] (by rw [HFF.out]; exact List.getElem_mem hlt)
          have i0 : (0 : Int) ≤ j := by omega
          have i1 : (j : Int) < F.length := by omega
          have s1 : IntKind.i64.wrap ((j : Int) + 1) = (j : Int) + 1 := IntWalk.i64_in _ (by omega)
          generalize F[j] = f at *
          obtain ⟨what, which⟩ := f
          dsimp only at *
          by_cases h4 : 3 < what
          · have hw8 : which < 8 := by omega
            have hEQ : clearF (clearAll lb (F.take j)) ⟨what, which⟩ = splice (clearAll lb (F.take j)) (200 + 11 * which) (List.replicate 11 0) := by
              have : what = 4 ∨ what = 5 := by omega
              simp [clearF, fltO, fltN, this]
            have d1 : decide (3 < what) = true := by simpa using h4
            have d2 : decide ((3 : Int) < (what : Int)) = true := by simp; omega
            have s2 : IntKind.i64.wrap (11 * (which : Int)) = 11 * (which : Int) := IntWalk.i64_in _ (by omega)
            have s3 : IntKind.i64.wrap (200 + 11 * (which : Int)) = ((200 + 11 * which : Nat) : Int) := by rw [IntWalk.i64_in _ (by omega)]; omega
            have HWP := Hidden.mk (refWipe_ok p off n c _ (200 + 11 * which) 11 wr HLJ.out (by omega) (by omega) (by omega) hst.out.2.2)
            rw [← hEQ, ← HCL.out] at HWP
            rw [show ((11 : Nat) : Int) = 11 from rfl] at HWP
            generalize 200 + 11 * which = oo at *
            clear hEQ h4 hrg hw5 HCL HLJ
            go_wp2_with fail
            refine HWP.out.mono ?_
            rintro e w4 ⟨g4, c4, rfl, hg4, hc4, hrow4, hb4⟩
            have HN2 := Hidden.mk (And.intro (hst.out.1.trans (hb4.mono hst.out.1.size)) (And.intro (hst.out.2.1.trans (hb4.mono hst.out.2.1.size)) hrow4.rd))
            clear hst hrow4 hb4 HWP c0 c1
            go_wp2_with fail
            go_roundg (F.length - (j + 1))
            case measure => omega
            case rel => exact ⟨j + 1, g4, 0, c4, by omega, rfl, by go_num, rfl, hc4, HN2⟩
          · obtain ⟨m, rfl⟩ : ∃ m, which = m + 1 := ⟨which - 1, by omega⟩
            have hw8 : m < 40 := by omega
            have hEQ : clearF (clearAll lb (F.take j)) ⟨what, m + 1⟩ = splice (clearAll lb (F.take j)) (5 * m) (List.replicate 5 0) := by
              have h1 : ¬ what = 4 := by omega
              have h2 : ¬ what = 5 := by omega
              simp [clearF, fltO, fltN, h1, h2]
            have d1 : decide (3 < what) = false := by simpa using h4
            have d2 : decide ((3 : Int) < (what : Int)) = false := by simp; omega
            have s2 : IntKind.i64.wrap (((m + 1 : Nat) : Int) - 1) = (m : Int) := by rw [IntWalk.i64_in _ (by omega)]; omega
            have s2' : IntKind.i64.wrap ((m : Int) + 1 - 1) = (m : Int) := by rw [IntWalk.i64_in _ (by omega)]; omega
            have s2'' : IntKind.i64.wrap (m : Int) = (m : Int) := IntWalk.i64_in _ (by omega)
            have s3 : IntKind.i64.wrap (5 * (m : Int)) = ((5 * m : Nat) : Int) := by rw [IntWalk.i64_in _ (by omega)]; omega
            have HWP := Hidden.mk (refWipe_ok p off n c _ (5 * m) 5 wr HLJ.out (by omega) (by omega) (by omega) hst.out.2.2)
            rw [← hEQ, ← HCL.out] at HWP
            rw [show ((5 : Nat) : Int) = 5 from rfl] at HWP
            generalize 5 * m = oo at *
            clear hEQ h4 hrg hw5 HCL HLJ
            go_wp2_with fail
            refine HWP.out.mono ?_
            rintro e w4 ⟨g4, c4, rfl, hg4, hc4, hrow4, hb4⟩
            have HN2 := Hidden.mk (And.intro (hst.out.1.trans (hb4.mono hst.out.1.size)) (And.intro (hst.out.2.1.trans (hb4.mono hst.out.2.1.size)) hrow4.rd))
            clear hst hrow4 hb4 HWP c0 c1
            go_wp2_with fail
            go_roundg (F.length - (j + 1))
            case measure => omega
            case rel => exact ⟨j + 1, g4, 0, c4, by omega, rfl, by go_num, rfl, hc4, HN2⟩
        · obtain rfl : j = F.length := by omega
          have hend : clearAll lb (F.take F.length) = mendL lb := by rw [List.take_of_length_le (Nat.le_refl _), HM.out, HFF.out]
          have HE := Hidden.mk (And.intro hst.out.1 (hend ▸ hst.out.2.2))
          have j1 : decide (((F.length : Nat) : Int) < F.length) = false := by simp
          clear hst hend
          go_wp2_with fail
          go_roundg 1
          case measure => omega
          case rel => exact ⟨_, p, off, c, rfl, hnc, ⟨HE.out.1, HE.out.2, .inr ⟨rfl, rfl⟩⟩⟩
/-- an image, mended ahead; of none an empty one -/
def loadL (b : Bytes) : Bytes := if rightB b.length = true then mendL b else List.replicate 320 0
theorem loadL_good (b : Bytes) : Good (loadL b) := by
  unfold loadL
  by_cases hr : rightB b.length = true
  · rw [if_pos hr]
    have := rightB_true.1 hr
    exact ⟨by rw [mendL_len (by omega)]; exact hr, mend_clean (by omega)⟩
  · rw [if_neg hr]; exact good_zero' rfl
set_option maxRecDepth 100000 in
theorem loaded_ok (A : Option Addr) (n c : Nat) (b : Bytes) (w : World) (hn : b.length = n) (hnc : n ≤ c) (hrd : Rd w A b) :
    Calls Tryz.prog 11 #[.slice A n c] w fun e w' => ∃ h F p off c', e = .returned (.tuple #[.pointer (some ⟨h, 0, none⟩), .slice (some ⟨p, off, none⟩) (loadL b).length c']) ∧ (loadL b).length ≤ c' ∧ Hp w w' F h (loadL b) ∧ Rd w' (some ⟨p, off, none⟩) (loadL b) ∧ ¬ F p := by
  have hG := loadL_good b
  have HG := Hidden.mk hG
  cases hr : rightB n with
  | true =>
    have hnb := rightB_true.1 hr
    obtain ⟨p, off, rfl, hpl⟩ := hrd.lt (by omega)
    have HM := Hidden.mk (refMend_ok p off n c b w hn hr hnc hrd)
    have hl : loadL b = mendL b := by unfold loadL; rw [hn, if_pos hr]
    have hln : (loadL b).length = n := by rw [hl, mendL_len (by omega)]; exact hn
    rw [← hl] at HM
    have HLN := Hidden.mk hln
    generalize loadL b = m at *
    clear hl hln hrd hn hG
    go_enter Tryz.func11, Tryz.ntmps11
    go_wp2_with fail
    refine (ref_right_any _ _).mono ?_
    rintro e w1 ⟨rfl, rfl⟩
    rw [hr]
    go_wp2_with fail
    refine HM.out.mono ?_
    rintro e w1 ⟨p1, o1, c1, rfl, hc1, hr1, hb1⟩
    have HL := Hidden.mk (hload_ok (some ⟨p1, o1, none⟩) n c1 m w w1 HLN.out HG.out hc1 hr1 hb1)
    have hp1 := hr1.lt (by rw [HLN.out]; omega)
    have HR := Hidden.mk hr1
    clear hr1 hb1 HM
    go_wp2_with fail
    refine HL.out.mono ?_
    rintro e w2 ⟨h, F, rfl, hp, hb2, hF⟩
    have HE : Hidden (Hp w w2 F h m ∧ Rd w2 (some ⟨p1, o1, none⟩) m ∧ ¬ F p1) := ⟨hp, HR.out.below hb2, fun hk => by
      obtain ⟨q, oq, hq, hlt⟩ := hp1
      have hq := Option.some.inj hq
      injection hq with hq
      have := hF _ hk
      omega⟩
    clear hp hb2 hF HL HR hp1
    go_wp2_with fail
    go_ret2
    exact ⟨h, F, p1, o1, c1, by rw [HLN.out]; rfl, by rw [HLN.out]; exact hc1, HE.out⟩
  | false =>
    have hl : loadL b = List.replicate 320 0 := by unfold loadL; rw [hn, if_neg (by rw [hr]; decide)]
    have hmk := mk_bytes 320 320 (by omega) (by omega) w
    have hrow := row_zeros w 320 (by simp only [maxLen]; omega)
    have hm0 : mendL (List.replicate 320 0) = List.replicate 320 0 := mend_id (good_zero' (n := 320) rfl).chk
    have HM := Hidden.mk (refMend_ok w.heap.size 0 320 320 (List.replicate 320 0) (w.alloc (.cells (zeroRow 320) 5)) (by simp) rfl (by omega) hrow.rd)
    rw [hm0] at HM
    have HAL := Hidden.mk ((Below.refl w.heap.size w).alloc (Nat.le_refl _) (.cells (zeroRow 320) 5))
    have hg0 := HG.out
    rw [hl] at hg0 ⊢
    have HG0 := Hidden.mk hg0
    have HLN : Hidden ((List.replicate 320 (0 : UInt8)).length = 320) := ⟨by simp⟩
    generalize List.replicate 320 (0 : UInt8) = m at *
    clear hl hrd hn hG HG hg0 hrow hm0
    go_enter Tryz.func11, Tryz.ntmps11
    go_wp2_with fail
    refine (ref_right_any _ _).mono ?_
    rintro e w1 ⟨rfl, rfl⟩
    rw [hr]
    go_wp2_with fail
    clear hmk
    refine HM.out.mono ?_
    rintro e w1 ⟨p1, o1, c1, rfl, hc1, hr1, hb1⟩
    have HL := Hidden.mk (hload_ok (some ⟨p1, o1, none⟩) 320 c1 m w w1 HLN.out HG0.out hc1 hr1 (HAL.out.trans (hb1.mono HAL.out.size)))
    have hp1 := hr1.lt (by rw [HLN.out]; omega)
    have HR := Hidden.mk hr1
    clear hr1 hb1 HM
    go_wp2_with fail
    refine HL.out.mono ?_
    rintro e w2 ⟨h, F, rfl, hp, hb2, hF⟩
    have HE : Hidden (Hp w w2 F h m ∧ Rd w2 (some ⟨p1, o1, none⟩) m ∧ ¬ F p1) := ⟨hp, HR.out.below hb2, fun hk => by
      obtain ⟨q, oq, hq, hlt⟩ := hp1
      have hq := Option.some.inj hq
      injection hq with hq
      have := hF _ hk
      omega⟩
    clear hp hb2 hF HL HR hp1
    go_wp2_with fail
    go_ret2
    exact ⟨h, F, p1, o1, c1, by rw [HLN.out]; rfl, by rw [HLN.out]; exact hc1, HE.out⟩
end Go.Proofs.YtbnobjlphmkgeaaGreatDoor
/- The reference on images: PutRoot. -/
namespace Go.Proofs.YtbnobjlphmkgeaaGreatDoor
open Go.RowKit

theorem rootB_get (s : Bytes) (h : Int) (h8 : s.length ≤ 8) (q : Nat) : (rootB s h)[q]? = if q < s.length then s[q]? else if q < 10 then some 0 else if q = 10 then some (UInt8.ofNat h.toNat) else none := by
  unfold rootB nameB
  by_cases h1 : q < s.length
  · rw [if_pos h1, List.append_assoc, List.getElem?_append_left h1]
  · rw [if_neg h1, List.append_assoc, List.getElem?_append_right (by omega)]
    have he : ∀ r, r < 10 - s.length → ((List.replicate (8 - s.length) (0 : UInt8)) ++ [0, 0, UInt8.ofNat h.toNat])[r]? = some 0 := fun r hr => by
      by_cases h2 : r < 8 - s.length
      · rw [List.getElem?_append_left (by simpa using h2)]; simp [h2]
      · rw [List.getElem?_append_right (by simpa using h2), List.length_replicate]
        have : r - (8 - s.length) = 0 ∨ r - (8 - s.length) = 1 := by omega
        rcases this with h | h <;> rw [h] <;> rfl
    by_cases h2 : q < 10
    · rw [if_pos h2, he _ (by omega)]
    · rw [if_neg h2]
      by_cases h3 : q = 10
      · rw [if_pos h3, List.getElem?_append_right (by simp; omega), List.length_replicate, show q - s.length - (8 - s.length) = 2 by omega]; rfl
      · rw [if_neg h3, List.getElem?_append_right (by simp; omega), List.length_replicate]
        apply List.getElem?_eq_none
        simp; omega
theorem rootB_set (l s : Bytes) (o : Nat) (h : Int) (h8 : s.length ≤ 8) (ho : o + 11 ≤ l.length) : (splice (splice l o (List.replicate 11 0)) o s).set (o + 10) (UInt8.ofNat h.toNat) = splice l o (rootB s h) := by
  have hrl : (rootB s h).length = 11 := by unfold rootB nameB; simp; omega
  have hl1 : (splice l o (List.replicate 11 (0 : UInt8))).length = l.length := splice_len _ _ _ (by simpa using ho)
  have hl2 : (splice (splice l o (List.replicate 11 (0 : UInt8))) o s).length = l.length := by rw [splice_len _ _ _ (by rw [hl1]; omega)]; exact hl1
  apply List.ext_getElem?
  intro p
  rw [List.getElem?_set, hl2, splice_at _ _ _ _ (by rw [hl1]; omega), splice_at _ _ _ _ (by simpa using ho), splice_at _ _ _ _ (by rw [hrl]; exact ho), rootB_get s h h8, hrl, List.length_replicate]
  by_cases h1 : o ≤ p ∧ p < o + 11
  · simp only [if_pos h1]
    by_cases h2 : p - o < s.length
    · rw [if_pos h2, if_neg (by omega), if_pos (by omega)]
    · rw [if_neg h2]
      by_cases h3 : p - o < 10
      · rw [if_pos h3, if_neg (by omega), if_neg (by omega), List.getElem?_replicate, if_pos (by omega)]
      · rw [if_neg h3, if_pos (by omega), if_pos (by omega), if_pos (by omega)]
  · simp only [if_neg h1]
    rw [if_neg (by omega), if_neg (by omega)]
theorem two_cells {w w' : World} {a b : Value} {t : TypeId} (hb : Below (w.alloc (.cells #[a, b] t)).heap.size (w.alloc (.cells #[a, b] t)) w') : w'.cell? ⟨w.heap.size, 0, none⟩ = some a ∧ w'.cell? ⟨w.heap.size, 1, none⟩ = some b := by
  have h := (hb.block w.heap.size (by simp)).trans (heap_alloc_new w (.cells #[a, b] t))
  refine ⟨?_, ?_⟩ <;> simp [World.cell?, h]
end Go.Proofs.YtbnobjlphmkgeaaGreatDoor
/- Names that lead: root.Get; the reference's Lead and Object. -/
namespace Go.Proofs.YtbnobjlphmkgeaaGreatDoor
open Go.RowKit

/-- where a name leads first; 0: nowhere -/
def leadR (L : List (Bytes × Nat)) (s : Bytes) : Nat := match L.find? (fun r => r.1 == s) with
  | none => 0
  | some r => r.2
theorem leadR_none {L : List (Bytes × Nat)} {s : Bytes} (h : ∀ x ∈ L, (x.1 == s) = false) : leadR L s = 0 := by
  unfold leadR
  rw [List.find?_eq_none.2 (fun x hx => by rw [h x hx]; decide)]
theorem good_roots {l : Bytes} (hg : Good l) {r : Bytes × Nat} (h : r ∈ rootsL l) : 1 ≤ r.2 ∧ r.2 ≤ 40 ∧ hE l r.2 = 0 := by
  unfold rootsL rootsF at h
  simp only [List.mem_map, List.mem_filter, List.mem_range, Bool.not_eq_true'] at h
  obtain ⟨i, ⟨hi, hz⟩, rfl⟩ := h
  have hb := badR_lead (hg.s.root i hi hz)
  obtain ⟨k, hk, hh, hx⟩ := leadsS_iff.1 hb
  have he := (hE_has hk hh).1
  simp only [rootP]
  rw [hx]
  exact ⟨by omega, by omega, by simpa using he⟩
section
variable {w0 w : World} {F : Nat → Prop} {h : Nat} {l : Bytes}
end
/-- an object's tag, and its bytes, as the reference tells them -/
def objT (l : Bytes) (k : Nat) : Int := if hasE (rawE l k) = true then rTag (rawE l k) else -1
def objS (l : Bytes) (k : Nat) : Bytes := if hasE (rawE l k) = true then (l.drop (rAt (rawE l k))).take (rLen (rawE l k)) else []
set_option maxRecDepth 100000 in
theorem refObj_ok (p off n c : Nat) (l : Bytes) (k : Nat) (w : World) (hn : l.length = n) (hg : Good l) (hnc : n ≤ c) (hrd : Rd w (some ⟨p, off, none⟩) l) (hk : k < 40) :
    Calls Tryz.prog 86 #[.slice (some ⟨p, off, none⟩) n c, .int .i64 ((k : Int) + 1)] w fun e w' => e = .returned (.tuple #[.int .i64 (objT l k), sv (objS l k)]) ∧ Below w.heap.size w w' := by
  have hb := hg.bd
  have HC := Hidden.mk (refEntry_ok (some ⟨p, off, none⟩) n c l k w hn (by omega) hnc hrd hk)
  unfold entR entV at HC
  unfold objT objS
  cases hh : hasE (rawE l k) with
  | false =>
    rw [hh] at HC
    simp only [Bool.false_eq_true, if_false]
    generalize (rAt (rawE l k) : Int) = a1 at *
    generalize (rLen (rawE l k) : Int) = a2 at *
    generalize rTag (rawE l k) = a3 at *
    clear hn hg hrd hh
    go_enter Tryz.func86, Tryz.ntmps86
    go_wp2_with fail
    refine HC.out.mono ?_
    rintro e w1 ⟨rfl, hb1⟩
    have HB := Hidden.mk (hb1.alloc hb1.size (.cells #[.int .i64 ((k : Int) + 1), .int .i64 a1, .int .i64 a2, .int .i64 a3] 66))
    clear hb1 HC
    go_wp2_with fail
    go_ret2
    exact ⟨rfl, HB.out⟩
  | true =>
    rw [hh] at HC
    simp only [if_true]
    have hin := strayE_false (hg.s.fit k hk hh)
    have hcut := hrd.cut (rAt (rawE l k)) (rLen (rawE l k)) (by omega)
    rw [Option.map_some, Addr.add_lit] at hcut
    have hcl : ((l.drop (rAt (rawE l k))).take (rLen (rawE l k))).length = rLen (rawE l k) := by simp; omega
    generalize (l.drop (rAt (rawE l k))).take (rLen (rawE l k)) = body at *
    generalize rAt (rawE l k) = a1 at *
    generalize rLen (rawE l k) = a2 at *
    generalize rTag (rawE l k) = a3 at *
    have s1 : IntKind.i64.wrap ((a1 : Int) + a2) = (a1 : Int) + a2 := IntWalk.i64_in _ (by omega)
    have hsl := run_cut p off n c a1 (a1 + a2) (by omega) (by omega) (by omega)
    rw [Nat.add_sub_cancel_left] at hsl
    simp only [Int.natCast_add] at hsl
    have HCV : Hidden (∀ W, Below w.heap.size w W → (convert 22 9 (.slice (some ⟨p, off + a1, none⟩) a2 (c - a1))).run Tryz.prog W = .ok (sv body) W) := ⟨fun W hW => conv_text W _ a2 _ body hcl (hcut.below hW)⟩
    clear hn hg hrd hh hin hcut hcl
    go_enter Tryz.func86, Tryz.ntmps86
    go_wp2_with fail
    refine HC.out.mono ?_
    rintro e w1 ⟨rfl, hb1⟩
    have HB := Hidden.mk (hb1.alloc hb1.size (.cells #[.int .i64 ((k : Int) + 1), .int .i64 a1, .int .i64 a2, .int .i64 a3] 66))
    have hf := fourAt_one w1 ((k : Int) + 1) (a1 : Int) (a2 : Int) a3 66
    go_upto_region 2 with (fail)
    generalize w1.alloc (.cells #[.int .i64 ((k : Int) + 1), .int .i64 (a1 : Int), .int .i64 (a2 : Int), .int .i64 a3] 66) = w2 at *
    generalize w1.heap.size = bx at *
    obtain ⟨f0, f1, f2, f3⟩ := hf
    have hcv := HCV.out w2.drew HB.out.drew
    have KF := Hidden.mk (And.intro f1 (And.intro f2 (And.intro f3 hcv)))
    clear hb1 HC hcv
    go_wp2_with fail
    go_region_held3 (fun W => W.cell? ⟨bx, 1, none⟩ = some (.int .i64 (a1 : Int)) ∧ W.cell? ⟨bx, 2, none⟩ = some (.int .i64 (a2 : Int)) ∧ W.cell? ⟨bx, 3, none⟩ = some (.int .i64 a3) ∧ (convert 22 9 (.slice (some ⟨p, off + a1, none⟩) a2 (c - a1))).run Tryz.prog W = .ok (sv body) W) (first | exact KF.out) (fail)
    all_goals
      go_wp2_with fail
      go_ret2
      exact ⟨rfl, HB.out.drew⟩
end Go.Proofs.YtbnobjlphmkgeaaGreatDoor
/- The contract of extent.Stat. -/
namespace Go.Proofs.YtbnobjlphmkgeaaGreatDoor
open Go.RowKit

def sumX (l : List Ext) : Int := l.foldl (fun s e => s + e.2) 0
end Go.Proofs.YtbnobjlphmkgeaaGreatDoor
/- Extents, the plain law: what is free between extents that are right. No walk here. -/
namespace Go.Proofs.YtbnobjlphmkgeaaGreatDoor
open Go.RowKit

/-- behind each other, from a to n -/
def Tidy : Int → List Ext → Int → Prop
  | a, [], n => a ≤ n
  | a, e :: r, n => a ≤ e.1 ∧ 1 ≤ e.2 ∧ Tidy (e.1 + e.2) r n
theorem hitX_symm (e o : Ext) : hitX e o = hitX o e := by unfold hitX; rw [Bool.and_comm]
theorem chkX_pair {n : Int} {l : List Ext} (h : chkX n l = 0) : l.Pairwise (fun a b => hitX a b = false) := by
  obtain ⟨_, _, _, _, h5⟩ := chkX_ok h
  rw [List.pairwise_iff_getElem]
  intro i j hi hj hij
  have h2 := (h5 j hj).2
  rw [List.any_eq_false] at h2
  have hm : l[i] ∈ l.take j := by
    rw [List.mem_take_iff_getElem]
    exact ⟨i, by omega, rfl⟩
  have := h2 _ hm
  rw [hitX_symm]
  simpa using this
theorem loopX_of (n : Int) (l : List Ext) : ∀ k, k ≤ l.length → (∀ j (hj : j < l.length), j < k → badX n l[j] = false ∧ (l.take j).any (hitX l[j]) = false) → loopX n l k = 0
  | 0, _, _ => rfl
  | k + 1, hk, h => by
    have h0 := loopX_of n l k (by omega) (fun j hj hjk => h j hj (by omega))
    obtain ⟨h1, h2⟩ := h k (by omega) (by omega)
    rw [loopX, if_pos h0]
    have hg : l.getD k (0, 0) = l[k] := by simp [show k < l.length by omega]
    rw [hg]
    unfold faultX
    rw [h1, h2]; rfl
theorem chkX_of {n : Int} {l : List Ext} (h0 : 0 ≤ n) (h1 : n ≤ 6400) (h2 : l.length ≤ 200) (hb : ∀ e ∈ l, badX n e = false) (hp : l.Pairwise (fun a b => hitX a b = false)) : chkX n l = 0 := by
  unfold chkX
  rw [if_neg (by omega), if_neg (by omega)]
  refine loopX_of n l _ (Nat.le_refl _) fun j hj _ => ⟨hb _ (List.getElem_mem hj), ?_⟩
  rw [List.any_eq_false]
  intro x hx
  rw [List.mem_take_iff_getElem] at hx
  obtain ⟨i, hi, rfl⟩ := hx
  rw [List.pairwise_iff_getElem] at hp
  have := hp i j (by omega) hj (by omega)
  rw [hitX_symm]
  simpa using this
theorem badX_of {n : Int} {e : Ext} (h : 1 ≤ e.2 ∧ 0 ≤ e.1 ∧ e.1 + e.2 ≤ n) : badX n e = false := by
  unfold badX
  simp only [Bool.or_eq_false_iff, decide_eq_false_iff_not]
  omega
theorem hitX_false {e o : Ext} : hitX e o = false ↔ (o.1 + o.2 ≤ e.1 ∨ e.1 + e.2 ≤ o.1) := by
  unfold hitX
  simp only [Bool.and_eq_false_iff, decide_eq_false_iff_not]
  omega
theorem tidy_mk (n : Int) : ∀ (S : List Ext) (a : Int), (∀ e ∈ S, a ≤ e.1 ∧ 1 ≤ e.2 ∧ e.1 + e.2 ≤ n) → S.Pairwise (fun x y => x.1 + x.2 ≤ y.1) → a ≤ n → Tidy a S n
  | [], _, _, _, h => h
  | e :: r, a, hb, hp, _ => by
    obtain ⟨h1, h2, h3⟩ := hb e (List.mem_cons_self ..)
    rw [List.pairwise_cons] at hp
    exact ⟨h1, h2, tidy_mk n r _ (fun x hx => by have := hb x (List.mem_cons_of_mem _ hx); have := hp.1 x hx; omega) hp.2 (by omega)⟩
theorem tidy_of {n : Int} {l : List Ext} (h : chkX n l = 0) : Tidy 0 (sortE l) n := by
  obtain ⟨h0, h1, h2, _, h5⟩ := chkX_ok h
  have hbad : ∀ e ∈ sortE l, badX n e = false := fun e he => by
    obtain ⟨j, hj, rfl⟩ := List.getElem_of_mem ((sortE_perm l).mem_iff.1 he)
    exact (h5 j hj).1
  refine tidy_mk n _ 0 (fun e he => by have := badX_false (hbad e he); omega) ?_ h0
  have hp : (sortE l).Pairwise (fun a b => hitX a b = false) := ((sortE_perm l).pairwise_iff (fun {x y} h => by rw [hitX_symm]; exact h)).2 (chkX_pair h)
  rw [List.pairwise_iff_getElem] at hp ⊢
  have hs := sortE_sorted l
  rw [List.pairwise_iff_getElem] at hs
  intro i j hi hj hij
  have a1 := hitX_false.1 (hp i j hi hj hij)
  have a2 := hs i j hi hj hij
  have a3 := badX_false (hbad _ (List.getElem_mem hi))
  have a4 := badX_false (hbad _ (List.getElem_mem hj))
  omega
theorem tidy_le : ∀ {S : List Ext} {a n : Int}, Tidy a S n → a ≤ n
  | [], _, _, h => h
  | e :: r, a, n, ⟨h1, h2, h3⟩ => by have := tidy_le h3; omega
theorem tidy_mem : ∀ {S : List Ext} {a n : Int}, Tidy a S n → ∀ e ∈ S, a ≤ e.1 ∧ 1 ≤ e.2 ∧ e.1 + e.2 ≤ n
  | e :: r, a, n, ⟨h1, h2, h3⟩, x, hx => by
    rcases List.mem_cons.1 hx with rfl | hx
    · exact ⟨h1, h2, tidy_le h3⟩
    · have := tidy_mem h3 x hx; omega
/-- holes of a tidy list, with its end -/
def runsX (a : Int) (S : List Ext) (n : Int) : List Ext := holesGo a (S ++ [(n, 0)])
theorem runsX_nil (a n : Int) : runsX a [] n = if a < n then [(a, n - a)] else [] := by
  unfold runsX
  simp [holesGo]
theorem runsX_cons (a : Int) (e : Ext) (r : List Ext) (n : Int) : runsX a (e :: r) n = (if a < e.1 then [(a, e.1 - a)] else []) ++ runsX (e.1 + e.2) r n := rfl
theorem runs_mem : ∀ {S : List Ext} {a n : Int}, Tidy a S n → ∀ h ∈ runsX a S n, a ≤ h.1 ∧ 1 ≤ h.2 ∧ h.1 + h.2 ≤ n ∧ ∀ e ∈ S, h.1 + h.2 ≤ e.1 ∨ e.1 + e.2 ≤ h.1
  | [], a, n, ht, h, hh => by
    rw [runsX_nil] at hh
    split at hh
    · rw [List.mem_singleton.1 hh]
      dsimp only
      exact ⟨by omega, by omega, by omega, fun e he => by cases he⟩
    · cases hh
  | e :: r, a, n, ⟨h1, h2, h3⟩, h, hh => by
    rw [runsX_cons] at hh
    rcases List.mem_append.1 hh with hh | hh
    · split at hh
      · rw [List.mem_singleton.1 hh]
        have := tidy_le h3
        dsimp only
        refine ⟨by omega, by omega, by omega, fun x hx => .inl ?_⟩
        rcases List.mem_cons.1 hx with rfl | hx
        · omega
        · have := tidy_mem h3 x hx; omega
      · cases hh
    · obtain ⟨i1, i2, i3, i4⟩ := runs_mem h3 h hh
      refine ⟨by omega, i2, i3, fun x hx => ?_⟩
      rcases List.mem_cons.1 hx with rfl | hx
      · right; omega
      · exact i4 x hx
theorem runs_pair : ∀ {S : List Ext} {a n : Int}, Tidy a S n → (runsX a S n).Pairwise (fun x y => x.1 + x.2 ≤ y.1)
  | [], a, n, _ => by
    rw [runsX_nil]; split <;> simp
  | e :: r, a, n, ⟨h1, h2, h3⟩ => by
    rw [runsX_cons]
    have ih := runs_pair h3
    split
    · refine List.Pairwise.cons (fun x hx => ?_) ih
      have := runs_mem h3 x hx
      dsimp only
      omega
    · exact ih
theorem foldl_sum (l : List Ext) : ∀ s : Int, l.foldl (fun s e => s + e.2) s = s + l.foldl (fun s e => s + e.2) 0 := by
  induction l with
  | nil => intro s; simp
  | cons x l ih => intro s; rw [List.foldl_cons, ih, List.foldl_cons, ih (0 + x.2)]; omega
theorem sumX_cons (e : Ext) (l : List Ext) : sumX (e :: l) = e.2 + sumX l := by
  unfold sumX; rw [List.foldl_cons, foldl_sum]; omega
theorem bestX_snoc (size : Int) (H : List Ext) (x : Ext) : bestX size (H ++ [x]) = if size ≤ x.2 ∧ ((bestX size H).2 = 0 ∨ x.2 < (bestX size H).2) then x else bestX size H := by
  unfold bestX; rw [List.foldl_append]; rfl
theorem snocE {p : List Ext → Prop} (h0 : p []) (h1 : ∀ L x, p L → p (L ++ [x])) (L : List Ext) : p L := by
  rw [← List.reverse_reverse L]
  induction L.reverse with
  | nil => exact h0
  | cons x L ih => rw [List.reverse_cons]; exact h1 _ _ ih
theorem best_inv (size : Int) (h1 : 1 ≤ size) (H : List Ext) : (bestX size H = (0, 0) ∧ ∀ h ∈ H, h.2 < size) ∨ (bestX size H ∈ H ∧ size ≤ (bestX size H).2 ∧ ∀ h ∈ H, size ≤ h.2 → (bestX size H).2 ≤ h.2) := by
  induction H using snocE with
  | h0 => exact .inl ⟨rfl, fun h hh => by cases hh⟩
  | h1 L x ih =>
    rw [bestX_snoc]
    rcases ih with ⟨e, hall⟩ | ⟨hm, hs, hall⟩
    · rw [e]
      by_cases hx : size ≤ x.2
      · rw [if_pos ⟨hx, .inl rfl⟩]
        refine .inr ⟨by simp, hx, fun h hh hsz => ?_⟩
        rcases List.mem_append.1 hh with hh | hh
        · have := hall h hh; omega
        · rw [List.mem_singleton.1 hh]; exact Int.le_refl _
      · rw [if_neg (fun h => hx h.1)]
        refine .inl ⟨rfl, fun h hh => ?_⟩
        rcases List.mem_append.1 hh with hh | hh
        · exact hall h hh
        · rw [List.mem_singleton.1 hh]; omega
    · by_cases hx : size ≤ x.2 ∧ ((bestX size L).2 = 0 ∨ x.2 < (bestX size L).2)
      · rw [if_pos hx]
        refine .inr ⟨by simp, hx.1, fun h hh hsz => ?_⟩
        rcases List.mem_append.1 hh with hh | hh
        · have := hall h hh hsz; omega
        · rw [List.mem_singleton.1 hh]; exact Int.le_refl _
      · rw [if_neg hx]
        refine .inr ⟨List.mem_append_left _ hm, hs, fun h hh hsz => ?_⟩
        rcases List.mem_append.1 hh with hh | hh
        · exact hall h hh hsz
        · rw [List.mem_singleton.1 hh] at hsz ⊢; omega
section
variable {n : Int} {l : List Ext}
theorem holes_runs (n : Int) (l : List Ext) : holesX n l = runsX 0 (sortE l) n := rfl
theorem holes_mem (h : chkX n l = 0) : ∀ x ∈ holesX n l, 0 ≤ x.1 ∧ 1 ≤ x.2 ∧ x.1 + x.2 ≤ n ∧ ∀ e ∈ l, x.1 + x.2 ≤ e.1 ∨ e.1 + e.2 ≤ x.1 := fun x hx => by
  obtain ⟨i1, i2, i3, i4⟩ := runs_mem (tidy_of h) x hx
  exact ⟨i1, i2, i3, fun e he => i4 e ((sortE_perm l).mem_iff.2 he)⟩
theorem holds_bad (h : chkX n l = 0) : ∀ e ∈ l, badX n e = false := fun e he => by
  obtain ⟨_, _, _, _, h5⟩ := chkX_ok h
  obtain ⟨j, hj, rfl⟩ := List.getElem_of_mem he
  exact (h5 j hj).1
theorem fit_some (h : chkX n l = 0) {size : Int} (hf : fitE n l size = 0) : ∃ L, (fitA n l size, L) ∈ holesX n l ∧ 1 ≤ size ∧ size ≤ L ∧ (∀ x ∈ holesX n l, size ≤ x.2 → L ≤ x.2) ∧ (∀ x ∈ holesX n l, x.1 = fitA n l size → x.2 = L) := by
  have hA : fitA n l size = (bestX size (holesX n l)).1 := by unfold fitA; rw [if_pos hf]
  unfold fitE at hf
  rw [if_pos h] at hf
  by_cases h1 : size < 1 ∨ 6400 < size
  · rw [if_pos h1] at hf; cases hf
  · rw [if_neg h1] at hf
    have hs : 1 ≤ size := by omega
    rcases best_inv size hs (holesX n l) with ⟨e, _⟩ | ⟨hm, h2, h3⟩
    · rw [e] at hf; cases hf
    · refine ⟨(bestX size (holesX n l)).2, by rw [hA]; exact hm, hs, h2, h3, fun x hx hxa => ?_⟩
      rw [hA] at hxa
      have hp := runs_pair (tidy_of h)
      rw [← holes_runs, List.pairwise_iff_getElem] at hp
      obtain ⟨i, hi, rfl⟩ := List.getElem_of_mem hx
      obtain ⟨j, hj, hjb⟩ := List.getElem_of_mem hm
      rw [← hjb] at hxa ⊢
      have pi := holes_mem h _ (List.getElem_mem hi)
      have pj := holes_mem h _ (List.getElem_mem hj)
      rcases Nat.lt_trichotomy i j with hij | rfl | hij
      · have := hp i j hi hj hij; omega
      · rfl
      · have := hp j i hj hi hij; omega
end
end Go.Proofs.YtbnobjlphmkgeaaGreatDoor
