/- Contracts and plain laws, put together: Chk4, Img5, RefN, RefP, RefM, RefNm, RefI1, RefI2, RefD1, View8, View9, PagesV, View4, ViewPartsP, Rows2, SameN, View10, View11, View12, ViewBackP, ViewBack0, ImageApart0, RefI3, RefI4, Chk3, Chk5, Chk6, Img6, GoodP, RefC. -/
import Derived.Test.YtbnobjlphmkgeaaGreatDoorHeapPlaysFrameM1
import Derived.Deep.LoopGhost
import Derived.Deep.RegionHeld3
import Derived.Deep.AppendLies
import Derived.StillTailTactics
import Derived.BigQuiet
/- The contract of check.roots: closures and slices.Contains over names. -/
namespace Go.Proofs.YtbnobjlphmkgeaaGreatDoor
open Go.RowKit

/-- the slice at A has the texts L -/
def RdS (w : World) (A : Option Addr) (L : List Bytes) : Prop := ∀ j (h : j < L.length), ∃ b off, A = some ⟨b, off, none⟩ ∧ w.cell? ⟨b, off + j, none⟩ = some (sv L[j])
theorem own_rdS {w : World} {base e : Nat} {v : Value} {L : List Bytes} (h : w.ownsRow base e 1 v L.length (L.map fun x => sv x)) : ∃ A c, v = .slice A L.length c ∧ L.length ≤ c ∧ RdS w A L := by
  rcases h.2 with ⟨rfl, h0⟩ | ⟨g, cap, cur, rfl, _, hh, hc, hm, hz, ht⟩
  · exact ⟨none, 0, by rw [h0], by omega, fun i hi => by omega⟩
  · refine ⟨_, cap, rfl, hc, fun i hi => ⟨g, 0, rfl, ?_⟩⟩
    have := h.cells (g := g) rfl i (sv L[i]) (by simp [hi])
    rw [Addr.add_lit] at this
    exact this
theorem indexS_any (A : Option Addr) (n c : Nat) (L : List Bytes) (s : Bytes) (w : World) (hn : L.length = n) (hl : n ≤ 1000) (hr : RdS w A L) :
    Calls Tryz.prog 211 #[.slice A n c, sv s] w fun e w' => ∃ z : Int, e = .returned (.int .i64 z) ∧ decide (0 ≤ z) = L.any (fun x => s == x) ∧ w = w' := by
  subst hn
  go_enter Tryz.func211, Tryz.ntmps211
  go_wp2_with fail
  go_loopw [8] (fun i wr => w = wr ∧ ∃ k : Nat, k ≤ L.length ∧ i = .int .i64 k ∧ Hidden (∀ x ∈ L.take k, (s == x) = false)) (fun i _ => L.length - (intOf i).toNat)
  case atStart => exact ⟨rfl, 0, Nat.zero_le _, rfl, ⟨by simp⟩⟩
  case round =>
    obtain ⟨rfl, k, hk, rfl, hnot⟩ := hrel
    by_cases hlt : k < L.length
    · obtain ⟨b, off, rfl, c0⟩ := hr k hlt
      have i0 : (0 : Int) ≤ k := by omega
      have i1 : (k : Int) < L.length := by omega
      cases he : (s == L[k]) with
      | true =>
        have hi : Hidden (true = L.any fun x => s == x) := ⟨(List.any_eq_true.2 ⟨L[k], List.getElem_mem hlt, he⟩).symm⟩
        go_wp2_with fail
        go_ret
        exact ⟨_, rfl, by rw [← hi.out]; simp, rfl⟩
      | false =>
        have hnk : Hidden (∀ x ∈ L.take (k + 1), (s == x) = false) := ⟨forall_take_succ' hlt hnot.out he⟩
        clear hnot
        go_wp2_with fail
        go_roundw
        case rel => exact ⟨by trivial, k + 1, by omega, by go_num, hnk⟩
        case measure => simp [intOf]; omega
    · have hi : Hidden (false = L.any fun x => s == x) := ⟨by
        have := hnot.out
        rw [List.take_of_length_le (by omega)] at this
        symm; simpa using this⟩
      go_wp2_with fail
      go_ret
      exact ⟨-1, rfl, by rw [← hi.out]; rfl, rfl⟩
theorem containsS_any (A : Option Addr) (n c : Nat) (L : List Bytes) (s : Bytes) (w : World) (hn : L.length = n) (hl : n ≤ 1000) (hr : RdS w A L) :
    Calls Tryz.prog 172 #[.slice A n c, sv s] w fun e w' => e = .returned (.bool (L.any (fun x => s == x))) ∧ w = w' := by
  have HC := Hidden.mk (indexS_any A n c L s w hn hl hr)
  go_enter Tryz.func172, Tryz.ntmps172
  go_wp2_with fail
  refine HC.out.mono ?_
  rintro e w1 ⟨z, rfl, hz, rfl⟩
  have HZ := Hidden.mk hz
  clear hz
  go_wp2_with fail
  go_ret
  exact ⟨congrArg (fun b => Ending.returned (.bool b)) HZ.out, rfl⟩
/-- the closure of roots -/
theorem leads1_any (r : Bytes) (hr11 : r.length = 11) (Bx p off c : Nat) (x : Int × Bytes) (W : World) (h1 : W.cell? ⟨Bx, 0, none⟩ = some (.slice (some ⟨p, off, none⟩) 11 c)) (hrd : Rd W (some ⟨p, off, none⟩) r) :
    Calls Tryz.prog 171 #[entR x.1 x.2, .pointer (some ⟨Bx, 0, none⟩)] W fun e w' => e = .returned (.bool (x.1 == ((r.getD 10 0).toNat : Int))) ∧ Below W.heap.size W w' := by
  have hlt := block_lt_of_cell h1
  have c10 := hrd.at_ 10 (by omega)
  have hx10 : Hidden (r[10]'(by omega) = r.getD 10 0) := ⟨by simp [hr11]⟩
  have hlp := block_lt_of_cell c10
  generalize r[10]'(by omega) = r10 at *
  have hw0 : IntKind.i64.wrap (r10.toNat : Int) = (r10.toNat : Int) := IntWalk.i64_in _ (by have := u8_lt r10; omega)
  have hW : Below W.heap.size W (W.alloc (.cells #[.int .i64 x.1, .int .i64 (rAt x.2), .int .i64 (rLen x.2), .int .i64 (rTag x.2)] 66)) := (Below.refl _ _).alloc (Nat.le_refl _) _
  obtain ⟨xh, xr⟩ := x
  unfold entR
  dsimp only at *
  generalize rAt xr = c1 at *
  generalize rLen xr = c2 at *
  generalize rTag xr = c3 at *
  clear hrd hr11
  go_enter Tryz.func171, Tryz.ntmps171
  go_wp2_with fail
  go_quiet (fail)
  go_wp2_with fail
  go_ret
  exact ⟨by rw [← hx10.out]; rfl, below_drewN hW _⟩

theorem rawR_len (l : Bytes) (i : Nat) (hi : i < 8) (hn : 288 ≤ l.length) : (rawR l i).length = 11 := by
  unfold rawR; simp; omega
theorem rawR_rd {w : World} {A : Option Addr} {l : Bytes} (h : Rd w A l) (i : Nat) (hi : i < 8) (hn : 288 ≤ l.length) : Rd w (A.map (·.add (200 + 11 * i))) (rawR l i) := h.cut (200 + 11 * i) 11 (by omega)
theorem rootO_k (k : Nat) : rootO (k : Int) = 200 + 11 * k := by unfold rootO; omega
def namesL (leads : UInt8 → Bool) (S : Nat → Bytes) (m : Nat) : List Bytes := ((List.range m).filter fun i => kindR leads S i == 6).map fun i => nmR (S i)
theorem namesL_succ (leads : UInt8 → Bool) (S : Nat → Bytes) (m : Nat) : namesL leads S (m + 1) = namesL leads S m ++ (if kindR leads S m = 6 then [nmR (S m)] else []) := by
  unfold namesL
  rw [List.range_succ, List.filter_append, List.map_append]
  congr 1
  by_cases h : kindR leads S m = 6 <;> simp [h]
theorem namesL_len (leads : UInt8 → Bool) (S : Nat → Bytes) (m : Nat) : (namesL leads S m).length ≤ m := by
  unfold namesL
  rw [List.length_map]
  have := List.length_filter_le (fun i => kindR leads S i == 6) (List.range m)
  rwa [List.length_range] at this
theorem namesL_any (leads : UInt8 → Bool) (S : Nat → Bytes) (s : Bytes) : ∀ m, (namesL leads S m).any (fun x => s == x) = (List.range m).any fun j => okR leads (S j) && (s == nmR (S j))
  | 0 => rfl
  | m + 1 => by
    rw [namesL_succ, List.any_append, List.range_succ, List.any_append, namesL_any leads S s m]
    by_cases h : kindR leads S m = 6
    · have hok : okR leads (S m) = true := by
        unfold kindR at h; unfold okR
        split at h
        · simp at h
        · split at h
          · simp at h
          · rename_i h1 h2; simp [h1, h2]
      simp [h, hok]
    · simp only [if_neg h, List.any_nil, List.any_cons, Bool.or_false]
      cases hok : okR leads (S m) with
      | false => simp
      | true =>
        have hz : zeroE (S m) = false := by unfold okR at hok; simp at hok; exact hok.1
        have hb : badR leads (S m) = false := by unfold okR at hok; simp at hok; exact hok.2
        have h5 : ((List.range m).any fun j => okR leads (S j) && (nmR (S m) == nmR (S j))) = true := by
          unfold kindR at h
          rw [hz, hb] at h
          simp only [Bool.false_eq_true, if_false] at h
          split at h
          · assumption
          · simp at h
        by_cases he : s = nmR (S m)
        · subst he; rw [h5]; simp
        · simp [he]
/-- two slices of the call's own: faults, names -/
structure RSt (w : World) (base : Nat) (vf vn : Value) (F : List Flt) (N : List Bytes) : Prop where
  f : w.ownsRow base 200 2 vf F.length (F.flatMap fcells)
  n : w.ownsRow base 9 1 vn N.length (N.map fun x => sv x)
section
variable {w w' : World} {base : Nat} {vf vn vf' vn' : Value} {F : List Flt} {N : List Bytes}
theorem RSt.below (h : RSt w base vf vn F N) (hb : Below w.heap.size w w') : RSt w' base vf vn F N := ⟨own_below h.f hb, own_below h.n hb⟩
theorem RSt.addF (h : RSt w base vf vn F N) {x : Flt} (hg : w.grownBy w' vf.ownBlock) (h' : w'.ownsRow base 200 2 vf' (F.length + 1) (F.flatMap fcells ++ fcells x)) : RSt w' base vf' vn (F ++ [x]) N :=
  ⟨by simpa using h', h.n.kept hg (own_apart h.n h.f (by decide))⟩
theorem RSt.addN (h : RSt w base vf vn F N) {x : Bytes} (hg : w.grownBy w' vn.ownBlock) (h' : w'.ownsRow base 9 1 vn' (N.length + 1) ((N.map fun x => sv x) ++ [sv x])) : RSt w' base vf vn' F (N ++ [x]) :=
  ⟨h.f.kept hg (own_apart h.f h.n (by decide)), by simpa using h'⟩
end
theorem string_info : (Tryz.prog.info? 9).map (fun i => (i.zero, i.size, i.bytes)) = some (some (.string ByteArray.empty), 1, 16) := by kernel_rfl
theorem RdEs.belowB {w w' : World} {A : Option Addr} {L : List (Int × Bytes)} (h : RdEs w A L) (hb : Below w.heap.size w w') : RdEs w' A L := h.below hb
set_option maxRecDepth 100000 in
set_option maxHeartbeats 1000000 in
theorem roots_ok (A Ar : Option Addr) (n c nr cr : Nat) (l : Bytes) (L : List (Int × Bytes)) (leads : UInt8 → Bool) (w : World) (hn : l.length = n) (hr : rightB n = true) (hnc : n ≤ c) (hrd : Rd w A l) (hnr : L.length = nr) (hl : nr ≤ 100) (hrl : RdEs w Ar L)
    (hleads : ∀ x : UInt8, (L.any fun e => e.1 == (x.toNat : Int)) = leads x) :
    Calls Tryz.prog 116 #[.slice A n c, .slice Ar nr cr] w fun e w' => ∃ vf, e = .returned vf ∧ w'.ownsRow w.heap.size 200 2 vf (faultsR leads (rawR l) 8).length ((faultsR leads (rawR l) 8).flatMap fcells) ∧ Below w.heap.size w w' := by
  have hnb := rightB_true.1 hr
  obtain ⟨i1, hi1, hy0, hy1, hy2⟩ := info_parts fault_info
  obtain ⟨i2, hi2, hx0, hx1, hx2⟩ := info_parts string_info
  have HRAW : Hidden (∀ k : Nat, k < 8 → ∀ W, Below w.heap.size w W → Rd W (A.map (·.add (200 + 11 * k))) (rawR l k)) := ⟨fun k hk W hW => rawR_rd (hrd.below hW) k hk (by omega)⟩
  have HLEN : Hidden (∀ k : Nat, k < 8 → (rawR l k).length = 11) := ⟨fun k hk => rawR_len l k hk (by omega)⟩
  have HLD := Hidden.mk hleads
  have HNR := Hidden.mk hnr
  have HRL := Hidden.mk hrl
  generalize rawR l = S at *
  clear hr hrd hn hleads hnr hrl
  go_enter Tryz.func116, Tryz.ntmps116
  go_wp2_with fail
  go_loopw [4, 5, 11] (fun vf vn i wr => ∃ k : Nat, k ≤ 8 ∧ i = .int .i64 (k : Int) ∧ Below w.heap.size w wr ∧ RSt wr w.heap.size vf vn (faultsR leads S k) (namesL leads S k)) (fun _ _ i _ => 8 - (intOf i).toNat)
  case atStart => exact ⟨0, by omega, rfl, Below.refl _ _, World.ownsRow_nil _ _ _ _, World.ownsRow_nil _ _ _ _⟩
  case round =>
    obtain ⟨k, hk, rfl, hbel, hst⟩ := hrel
    by_cases hlt : k < 8
    · have k0 : (k : Int) < 8 := by omega
      have s1 : IntKind.i64.wrap ((k : Int) + 1) = (k : Int) + 1 := IntWalk.i64_in _ (by omega)
      have hlF := faultsR_len leads S k
      have hlN := namesL_len leads S k
      have HSF := Hidden.mk (faultsR_succ leads S k)
      have HSN := Hidden.mk (namesL_succ leads S k)
      have hrw := HRAW.out k hlt wr hbel
      have hlen := HLEN.out k hlt
      obtain ⟨p, off, hA, hpl⟩ := hrw.lt (by omega)
      rw [hA] at hrw
      have HA := Hidden.mk hA
      clear hA hlen
      go_wp2_with fail
      refine (rawRoot_any A n c (k : Int) _ (by omega) (by omega) (by omega) hnc).mono ?_
      rintro e w1 ⟨rfl, rfl⟩
      rw [rootO_k, HA.out]
      have hal : Below wr.heap.size wr (wr.alloc (.cells #[.slice (some ⟨p, off, none⟩) 11 (c - (200 + 11 * k))] 22)) := (Below.refl _ _).alloc (Nat.le_refl _) _
      have hB2 : Below w.heap.size w (wr.alloc (.cells #[.slice (some ⟨p, off, none⟩) 11 (c - (200 + 11 * k))] 22)) := hbel.alloc hbel.size _
      have hst2 := hst.below hal
      have hrw2 := hrw.below hal
      have hbx : (wr.alloc (.cells #[.slice (some ⟨p, off, none⟩) 11 (c - (200 + 11 * k))] 22)).heap[wr.heap.size]? = some (.cells #[.slice (some ⟨p, off, none⟩) 11 (c - (200 + 11 * k))] 22 (0, 0)) := heap_alloc_new wr _
      go_wp2_with fail
      generalize hcc : c - (200 + 11 * k) = cc at *
      have hc8 : 8 ≤ cc := by omega
      generalize wr.alloc (.cells #[.slice (some ⟨p, off, none⟩) 11 cc] 22) = w2 at *
      generalize wr.heap.size = Bx at *
      clear hst hbel hal hrw hcc hpl
      refine (izero_any _ 11 _ (S k) _ (HLEN.out k hlt) (by simp [maxLen]) hrw2).mono ?_
      rintro e w3 ⟨rfl, rfl⟩
      cases hz : zeroE (S k) with
      | true =>
        have hk0 : kindR leads S k = 0 := by unfold kindR; rw [if_pos hz]
        have e1 : faultsR leads S (k + 1) = faultsR leads S k := by rw [HSF.out, hk0]; simp [fltOf]
        have e2 : namesL leads S (k + 1) = namesL leads S k := by rw [HSN.out, hk0]; simp
        have hst3 : RSt w2 w.heap.size u4 u5 (faultsR leads S (k + 1)) (namesL leads S (k + 1)) := by rw [e1, e2]; exact hst2
        have HST := Hidden.mk hst3
        clear e1 e2 hst3 hst2 hz hk0
        go_wp2_with fail
        go_roundw
        case rel => exact ⟨k + 1, by omega, by go_num, hB2, HST.out⟩
        case measure => simp [intOf]; omega
      | false =>
        have HKIND : Hidden (kindR leads S k = if badR leads (S k) = true then 4 else if (namesL leads S k).any (fun x => nmR (S k) == x) = true then 5 else 6) := ⟨by
          rw [namesL_any]; unfold kindR; rw [hz]; simp⟩
        have FIN4 : Hidden (badR leads (S k) = true → faultsR leads S (k + 1) = faultsR leads S k ++ [⟨4, k⟩] ∧ namesL leads S (k + 1) = namesL leads S k) := ⟨fun hb => ⟨by rw [HSF.out, HKIND.out, if_pos hb]; simp [fltOf], by rw [HSN.out, HKIND.out, if_pos hb]; simp⟩⟩
        have FIN5 : Hidden (badR leads (S k) = false → (namesL leads S k).any (fun x => nmR (S k) == x) = true → faultsR leads S (k + 1) = faultsR leads S k ++ [⟨5, k⟩] ∧ namesL leads S (k + 1) = namesL leads S k) := ⟨fun hb ha => ⟨by rw [HSF.out, HKIND.out, hb, ha]; simp [fltOf], by rw [HSN.out, HKIND.out, hb, ha]; simp⟩⟩
        have FIN6 : Hidden (badR leads (S k) = false → (namesL leads S k).any (fun x => nmR (S k) == x) = false → faultsR leads S (k + 1) = faultsR leads S k ∧ namesL leads S (k + 1) = namesL leads S k ++ [nmR (S k)]) := ⟨fun hb ha => ⟨by rw [HSF.out, HKIND.out, hb, ha]; simp [fltOf], by rw [HSN.out, HKIND.out, hb, ha]; simp⟩⟩
        have y0 : w2.cell? ⟨Bx, 0, none⟩ = some (.slice (some ⟨p, off, none⟩) 11 cc) := by simp [World.cell?, hbx]
        have hltx : Bx < w2.heap.size := (Array.getElem?_eq_some_iff.1 hbx).1
        clear hz HKIND
        go_wp2_with fail
        refine (getName_any (some ⟨p, off, none⟩) cc ((S k).take 8) w2 (by simp [HLEN.out k hlt]) hc8 (hrw2.take 8 (by rw [HLEN.out k hlt]; omega))).mono ?_
        rintro e w3 ⟨he, hb3⟩
        have hB3 := hB2.trans (hb3.mono hB2.size)
        have hst3 := hst2.below hb3
        have hrw3 := hrw2.below hb3
        have hbx3 := (hb3.block Bx hltx).trans hbx
        have hltx3 : Bx < w3.heap.size := (Array.getElem?_eq_some_iff.1 hbx3).1
        have hcf := cfe_leads (fun x => x.1 == (((S k).getD 10 0).toNat : Int)) Ar nr cr L (.pointer (some ⟨Bx, 0, none⟩)) w3 HNR.out (by omega) (RdEs.belowB HRL.out hB3) (fun x _ W hW => leads1_any (S k) (HLEN.out k hlt) Bx p off cc x W (by have := (hW.block Bx hltx3).trans hbx3; simp [World.cell?, this]) (hrw3.below hW))
        rw [HLD.out] at hcf
        have HCF := Hidden.mk hcf
        have HLE := HLEN.out k hlt
        have q8 := hrw3.at_ 8 (by rw [HLE]; omega)
        have q9 := hrw3.at_ 9 (by rw [HLE]; omega)
        have g8 : (S k).getD 8 0 = (S k)[8]'(by rw [HLE]; omega) := by simp [HLE]
        have g9 : (S k).getD 9 0 = (S k)[9]'(by rw [HLE]; omega) := by simp [HLE]
        have z3 : w3.cell? ⟨Bx, 0, none⟩ = some (.slice (some ⟨p, off, none⟩) 11 cc) := by simp [World.cell?, hbx3]
        have HBAD : Hidden (badR leads (S k) = (!gotName ((S k).take 8) || (((S k)[8]'(by rw [HLE]; omega)).toNat : Int) != 0 || (((S k)[9]'(by rw [HLE]; omega)).toNat : Int) != 0 || !leads ((S k).getD 10 0))) := ⟨by
          unfold badR; rw [bv_bne, bv_bne, g8, g9]; rfl⟩
        have q8l := block_lt_of_cell q8
        generalize (S k)[8]'(by rw [HLE]; omega) = x8 at *
        generalize (S k)[9]'(by rw [HLE]; omega) = x9 at *
        generalize hld : leads ((S k).getD 10 0) = ld at *
        clear hB2 hst2 hb3 hbx hltx hrw2 hcf y0 HLE g8 g9 hrw3
        have HW4 : Hidden (∀ w4, Below w3.heap.size w3 w4 → Below w.heap.size w w4 ∧ RSt w4 w.heap.size u4 u5 (faultsR leads S k) (namesL leads S k) ∧ w4.cell? ⟨Bx, 0, none⟩ = some (.slice (some ⟨p, off, none⟩) 11 cc) ∧ w4.cell? ⟨p, off + 8, none⟩ = some (bv x8) ∧ w4.cell? ⟨p, off + 9, none⟩ = some (bv x9)) := ⟨fun w4 hb4 =>
          ⟨hB3.trans (hb4.mono hB3.size), hst3.below hb4, (hb4.cell (p := ⟨Bx, 0, none⟩) hltx3).trans z3, (hb4.cell (p := ⟨p, off + 8, none⟩) q8l).trans q8, (hb4.cell (p := ⟨p, off + 9, none⟩) q8l).trans q9⟩⟩
        clear hB3 hst3 z3 q8 q9 hbx3 hltx3 q8l
        cases hg : gotName ((S k).take 8) with
        | false =>
          rw [hg] at he
          simp only [Bool.false_eq_true, if_false] at he
          subst he
          go_wp2_with fail
          refine HCF.out.mono ?_
          rintro e w4 ⟨rfl, hb4⟩
          obtain ⟨hB4, hst4, z4, q8, q9⟩ := HW4.out w4 hb4
          clear hb4
          have HE := Hidden.mk (FIN4.out (by rw [HBAD.out]; simp [hg]))
          clear hg hld
          go_wp2_with (at_builtin; refine wpList_append_lies _ rfl (.tmp 51) (.tmp 54) _ rfl w.heap.size 200 i1 _ 2 16 Tryz.underlying90 hi1 hy0 hy1 hy2 rfl (by decide) u4 (faultsR leads S k).length ((faultsR leads S k).flatMap fcells) rfl (own_below hst4.f ((Below.refl _ _).alloc (Nat.le_refl _) _)) ⟨w4.heap.size, 0, none⟩ 1 1 [.int .i64 4, .int .i64 (k : Int)] rfl rfl (World.news_of_block (cs := #[.int .i64 4, .int .i64 (k : Int)]) (t := 200) (fr := (0, 0)) (heap_alloc_new w4 _)) (by simp [Value.oneCell']) (by omega) (by simp only [maxLen]; omega) (by omega) (by have := hB4.size; simp; omega) (w4.heap.size + 1) (by simp) ?_; intro gf capf w7 hown7 hg7 hat7 hlt7)
          have hgF := grown_trans' ((Below.refl _ _).alloc (Nat.le_refl _) _) hg7
          have hst7 := hst4.addF (x := ⟨4, k⟩) hgF hown7
          have hB7 : Below w.heap.size w w7 := hB4.grown hgF hB4.size (fun q hq => (hst4.f.lt q hq).1)
          clear hown7 hg7 hat7 hlt7 hgF hst4 hB4
          go_roundw
          case rel => exact ⟨k + 1, by omega, by go_num, hB7, by rw [HE.out.1, HE.out.2]; exact hst7⟩
          case measure => simp [intOf]; omega
        | true =>
          rw [hg] at he
          simp only [if_true] at he
          subst he
          go_wp2_with fail
          refine HCF.out.mono ?_
          rintro e w4 ⟨rfl, hb4⟩
          obtain ⟨hB4, hst4, z4, q8, q9⟩ := HW4.out w4 hb4
          clear hb4
          cases h8 : ((x8.toNat : Int) != 0) with
          | true =>
            have HE := Hidden.mk (FIN4.out (by rw [HBAD.out]; simp [h8]))
            go_wp2_with (at_builtin; refine wpList_append_lies _ rfl (.tmp 51) (.tmp 54) _ rfl w.heap.size 200 i1 _ 2 16 Tryz.underlying90 hi1 hy0 hy1 hy2 rfl (by decide) u4 (faultsR leads S k).length ((faultsR leads S k).flatMap fcells) rfl (own_below hst4.f ((Below.refl _ _).alloc (Nat.le_refl _) _)) ⟨w4.heap.size, 0, none⟩ 1 1 [.int .i64 4, .int .i64 (k : Int)] rfl rfl (World.news_of_block (cs := #[.int .i64 4, .int .i64 (k : Int)]) (t := 200) (fr := (0, 0)) (heap_alloc_new w4 _)) (by simp [Value.oneCell']) (by omega) (by simp only [maxLen]; omega) (by omega) (by have := hB4.size; simp; omega) (w4.heap.size + 1) (by simp) ?_; intro gf capf w7 hown7 hg7 hat7 hlt7)
            have hgF := grown_trans' ((Below.refl _ _).alloc (Nat.le_refl _) _) hg7
            have hst7 := hst4.addF (x := ⟨4, k⟩) hgF hown7
            have hB7 : Below w.heap.size w w7 := hB4.grown hgF hB4.size (fun q hq => (hst4.f.lt q hq).1)
            clear hown7 hg7 hat7 hlt7 hgF hst4 hB4
            go_roundw
            case rel => exact ⟨k + 1, by omega, by go_num, hB7, by rw [HE.out.1, HE.out.2]; exact hst7⟩
            case measure => simp [intOf]; omega
          | false =>
            cases h9 : ((x9.toNat : Int) != 0) with
            | true =>
              have HE := Hidden.mk (FIN4.out (by rw [HBAD.out]; simp [h9]))
              go_wp2_with (at_builtin; refine wpList_append_lies _ rfl (.tmp 51) (.tmp 54) _ rfl w.heap.size 200 i1 _ 2 16 Tryz.underlying90 hi1 hy0 hy1 hy2 rfl (by decide) u4 (faultsR leads S k).length ((faultsR leads S k).flatMap fcells) rfl (own_below hst4.f ((Below.refl _ _).alloc (Nat.le_refl _) _)) ⟨w4.heap.size, 0, none⟩ 1 1 [.int .i64 4, .int .i64 (k : Int)] rfl rfl (World.news_of_block (cs := #[.int .i64 4, .int .i64 (k : Int)]) (t := 200) (fr := (0, 0)) (heap_alloc_new w4 _)) (by simp [Value.oneCell']) (by omega) (by simp only [maxLen]; omega) (by omega) (by have := hB4.size; simp; omega) (w4.heap.size + 1) (by simp) ?_; intro gf capf w7 hown7 hg7 hat7 hlt7)
              have hgF := grown_trans' ((Below.refl _ _).alloc (Nat.le_refl _) _) hg7
              have hst7 := hst4.addF (x := ⟨4, k⟩) hgF hown7
              have hB7 : Below w.heap.size w w7 := hB4.grown hgF hB4.size (fun q hq => (hst4.f.lt q hq).1)
              clear hown7 hg7 hat7 hlt7 hgF hst4 hB4
              go_roundw
              case rel => exact ⟨k + 1, by omega, by go_num, hB7, by rw [HE.out.1, HE.out.2]; exact hst7⟩
              case measure => simp [intOf]; omega
            | false =>
              cases ld with
              | false =>
                have HE := Hidden.mk (FIN4.out (by rw [HBAD.out]; simp []))
                go_wp2_with (at_builtin; refine wpList_append_lies _ rfl (.tmp 51) (.tmp 54) _ rfl w.heap.size 200 i1 _ 2 16 Tryz.underlying90 hi1 hy0 hy1 hy2 rfl (by decide) u4 (faultsR leads S k).length ((faultsR leads S k).flatMap fcells) rfl (own_below hst4.f ((Below.refl _ _).alloc (Nat.le_refl _) _)) ⟨w4.heap.size, 0, none⟩ 1 1 [.int .i64 4, .int .i64 (k : Int)] rfl rfl (World.news_of_block (cs := #[.int .i64 4, .int .i64 (k : Int)]) (t := 200) (fr := (0, 0)) (heap_alloc_new w4 _)) (by simp [Value.oneCell']) (by omega) (by simp only [maxLen]; omega) (by omega) (by have := hB4.size; simp; omega) (w4.heap.size + 1) (by simp) ?_; intro gf capf w7 hown7 hg7 hat7 hlt7)
                have hgF := grown_trans' ((Below.refl _ _).alloc (Nat.le_refl _) _) hg7
                have hst7 := hst4.addF (x := ⟨4, k⟩) hgF hown7
                have hB7 : Below w.heap.size w w7 := hB4.grown hgF hB4.size (fun q hq => (hst4.f.lt q hq).1)
                clear hown7 hg7 hat7 hlt7 hgF hst4 hB4
                go_roundw
                case rel => exact ⟨k + 1, by omega, by go_num, hB7, by rw [HE.out.1, HE.out.2]; exact hst7⟩
                case measure => simp [intOf]; omega
              | true =>
                have HB := Hidden.mk (show badR leads (S k) = false by rw [HBAD.out, hg, h8, h9]; rfl)
                obtain ⟨A4, c4, hv4, hc4, hrd4⟩ := own_rdS hst4.n
                subst hv4
                have hct := containsS_any A4 (namesL leads S k).length c4 (namesL leads S k) (nmR (S k)) w4 rfl (by omega) hrd4
                have HCT := Hidden.mk hct
                clear hct hrd4
                go_wp2_with fail
                refine HCT.out.mono ?_
                rintro e w5 ⟨rfl, rfl⟩
                cases hany : (namesL leads S k).any (fun x => nmR (S k) == x) with
                | true =>
                  have HE := Hidden.mk (FIN5.out HB.out hany)
                  clear hany
                  go_wp2_with (at_builtin; refine wpList_append_lies _ rfl (.tmp 60) (.tmp 63) _ rfl w.heap.size 200 i1 _ 2 16 Tryz.underlying90 hi1 hy0 hy1 hy2 rfl (by decide) u4 (faultsR leads S k).length ((faultsR leads S k).flatMap fcells) rfl (own_below hst4.f ((Below.refl _ _).alloc (Nat.le_refl _) _)) ⟨w4.heap.size, 0, none⟩ 1 1 [.int .i64 5, .int .i64 (k : Int)] rfl rfl (World.news_of_block (cs := #[.int .i64 5, .int .i64 (k : Int)]) (t := 200) (fr := (0, 0)) (heap_alloc_new w4 _)) (by simp [Value.oneCell']) (by omega) (by simp only [maxLen]; omega) (by omega) (by have := hB4.size; simp; omega) (w4.heap.size + 1) (by simp) ?_; intro gf capf w7 hown7 hg7 hat7 hlt7)
                  have hgF := grown_trans' ((Below.refl _ _).alloc (Nat.le_refl _) _) hg7
                  have hst7 := hst4.addF (x := ⟨5, k⟩) hgF hown7
                  have hB7 : Below w.heap.size w w7 := hB4.grown hgF hB4.size (fun q hq => (hst4.f.lt q hq).1)
                  clear hown7 hg7 hat7 hlt7 hgF hst4 hB4
                  go_roundw
                  case rel => exact ⟨k + 1, by omega, by go_num, hB7, by rw [HE.out.1, HE.out.2]; exact hst7⟩
                  case measure => simp [intOf]; omega
                | false =>
                  have HE := Hidden.mk (FIN6.out HB.out hany)
                  clear hany
                  go_wp2_with (at_builtin; refine wpList_append_lies _ rfl (.tmp 28) (.tmp 30) _ rfl w.heap.size 9 i2 _ 1 16 Tryz.underlying177 hi2 hx0 hx1 hx2 rfl (by decide) (.slice A4 (namesL leads S k).length c4) (namesL leads S k).length ((namesL leads S k).map fun x => sv x) rfl (own_below hst4.n ((Below.refl _ _).alloc (Nat.le_refl _) _)) ⟨w4.heap.size, 0, none⟩ 1 1 [sv (nmR (S k))] rfl rfl (World.news_of_block (cs := #[sv (nmR (S k))]) (t := 9) (fr := (0, 0)) (heap_alloc_new w4 _)) (by simp [Value.oneCell']) (by omega) (by simp only [maxLen]; omega) (by omega) (by have := hB4.size; simp; omega) (w4.heap.size + 1) (by simp) ?_; intro gf capf w7 hown7 hg7 hat7 hlt7)
                  have hgF := grown_trans' ((Below.refl _ _).alloc (Nat.le_refl _) _) hg7
                  have hst7 := hst4.addN (x := nmR (S k)) hgF hown7
                  have hB7 : Below w.heap.size w w7 := hB4.grown hgF hB4.size (fun q hq => (hst4.n.lt q hq).1)
                  clear hown7 hg7 hat7 hlt7 hgF hst4 hB4
                  go_roundw
                  case rel => exact ⟨k + 1, by omega, by go_num, hB7, by rw [HE.out.1, HE.out.2]; exact hst7⟩
                  case measure => simp [intOf]; omega
    · obtain rfl : k = 8 := by omega
      go_wp2_with fail
      go_ret
      exact ⟨u4, rfl, hst.f, hbel⟩
end Go.Proofs.YtbnobjlphmkgeaaGreatDoor
/- The contracts of image.Entries, Roots and Drop, and of image.Get where there is none. -/
namespace Go.Proofs.YtbnobjlphmkgeaaGreatDoor
open Go.RowKit

/-- the entries of an image -/
def entriesL (l : Bytes) : List (Int × Bytes) := entsL (fun k => hasE (rawE l k)) (rawE l) 40
set_option maxRecDepth 100000 in
theorem ientries_ok (A : Option Addr) (n c : Nat) (l : Bytes) (w : World) (hn : l.length = n) (hr : rightB n = true) (hnc : n ≤ c) (hrd : Rd w A l) :
    Calls Tryz.prog 135 #[.slice A n c] w fun e w' => ∃ v, e = .returned (.tuple #[v, .nilIface]) ∧ w'.ownsRow w.heap.size 66 4 v (entriesL l).length ((entriesL l).flatMap ecells) ∧ Below w.heap.size w w' := by
  have hnb := rightB_true.1 hr
  obtain ⟨i2, hi2, hx0, hx1, hx2⟩ := info_parts entry_info
  have HF : Hidden (∀ k : Nat, k < 40 → ∀ W, Below w.heap.size w W → Calls Tryz.prog 145 #[.slice A n c, .int .i64 ((k : Int) + 1)] W fun e w' => e = .returned (.tuple #[entV ((k : Int) + 1) (rAt (rawE l k)) (rLen (rawE l k)) (rTag (rawE l k)), .bool (hasE (rawE l k))]) ∧ Below W.heap.size W w') :=
    ⟨fun k hk W hW => find_ok A n c l k W hn (by omega) hnc (hrd.below hW) hk⟩
  have HL : Hidden (entriesL l = entsL (fun k => hasE (rawE l k)) (rawE l) 40) := ⟨rfl⟩
  generalize rawE l = R at *
  clear hrd hn
  go_enter Tryz.func135, Tryz.ntmps135
  go_wp2_with fail
  refine (check_ok A n c 1 _ hr (by decide)).mono ?_
  rintro e w1 ⟨rfl, rfl⟩
  go_wp2_with fail
  go_loopg [5, 6] 40 (fun m v h wr => ∃ k : Nat, k ≤ 40 ∧ m = 40 - k ∧ h = .int .i64 ((k : Int) + 1) ∧ Below w.heap.size w wr ∧ wr.ownsRow w.heap.size 66 4 v (entsL (fun k => hasE (R k)) R k).length ((entsL (fun k => hasE (R k)) R k).flatMap ecells))
  case atStart => exact ⟨0, by omega, rfl, rfl, Below.refl _ _, World.ownsRow_nil _ _ _ _⟩
  case round =>
    obtain ⟨k, hk, rfl, rfl, hbel, hown⟩ := hrel
    by_cases hlt : k < 40
    · have k0 : ((k : Int) + 1) ≤ 40 := by omega
      have s1 : IntKind.i64.wrap ((k : Int) + 1 + 1) = (k : Int) + 1 + 1 := IntWalk.i64_in _ (by omega)
      have hll := entsL_len (fun k => hasE (R k)) R k
      have HS := Hidden.mk (entsL_succ (fun k => hasE (R k)) R k)
      have HG := Hidden.mk (HF.out k hlt wr hbel)
      have HC : Hidden (ecells (((k : Int) + 1), R k) = [.int .i64 ((k : Int) + 1), .int .i64 (rAt (R k)), .int .i64 (rLen (R k)), .int .i64 (rTag (R k))]) := ⟨rfl⟩
      generalize entsL (fun k => hasE (R k)) R k = L at *
      go_wp2_with fail
      refine HG.out.mono ?_
      rintro e w1 ⟨rfl, hb1⟩
      generalize (rAt (R k) : Int) = a1 at *
      generalize (rLen (R k) : Int) = a2 at *
      generalize rTag (R k) = a3 at *
      have hB1 := hbel.trans (hb1.mono hbel.size)
      have hown1 := own_below hown hb1
      have hal : Below w1.heap.size w1 (w1.alloc (.cells #[.int .i64 ((k : Int) + 1), .int .i64 a1, .int .i64 a2, .int .i64 a3] 66)) := (Below.refl _ _).alloc (Nat.le_refl _) _
      have hB2 : Below w.heap.size w (w1.alloc (.cells #[.int .i64 ((k : Int) + 1), .int .i64 a1, .int .i64 a2, .int .i64 a3] 66)) := hB1.alloc hB1.size _
      have hown2 := own_below hown1 hal
      have hbx : (w1.alloc (.cells #[.int .i64 ((k : Int) + 1), .int .i64 a1, .int .i64 a2, .int .i64 a3] 66)).heap[w1.heap.size]? = some (.cells #[.int .i64 ((k : Int) + 1), .int .i64 a1, .int .i64 a2, .int .i64 a3] 66 (0, 0)) := heap_alloc_new w1 _
      clear hal hown hown1 hbel hB1 hb1
      cases hE : hasE (R k) with
      | false =>
        rw [hE] at HS
        go_wp2_with fail
        generalize w1.alloc (.cells #[.int .i64 ((k : Int) + 1), .int .i64 a1, .int .i64 a2, .int .i64 a3] 66) = w2 at *
        go_roundg (40 - (k + 1))
        case measure => omega
        case rel => exact ⟨k + 1, by omega, rfl, by go_num, hB2, by rw [HS.out]; simpa using hown2⟩
      | true =>
        rw [hE] at HS
        clear hE hbx
        have hnb : ((w1.alloc (.cells #[.int .i64 ((k : Int) + 1), .int .i64 a1, .int .i64 a2, .int .i64 a3] 66)).alloc (.cells #[.int .i64 ((k : Int) + 1), .int .i64 a1, .int .i64 a2, .int .i64 a3] 66)).heap[w1.heap.size + 1]? = some (.cells #[.int .i64 ((k : Int) + 1), .int .i64 a1, .int .i64 a2, .int .i64 a3] 66) := by
          have := heap_alloc_new (w1.alloc (.cells #[.int .i64 ((k : Int) + 1), .int .i64 a1, .int .i64 a2, .int .i64 a3] 66)) (.cells #[.int .i64 ((k : Int) + 1), .int .i64 a1, .int .i64 a2, .int .i64 a3] 66)
          rwa [World.size_alloc] at this
        have HNB := Hidden.mk hnb
        have HOW := Hidden.mk hown2
        have HBB := Hidden.mk hB2
        clear hnb hown2 hB2
        go_wp2_with (at_builtin; refine wpList_append_lies _ rfl (.tmp 25) (.tmp 27) _ rfl w.heap.size 66 i2 _ 4 32 Tryz.underlying141 hi2 hx0 hx1 hx2 rfl (by decide) u5 L.length (L.flatMap ecells) rfl (own_below HOW.out ((Below.refl _ _).alloc (Nat.le_refl _) _)) ⟨w1.heap.size + 1, 0, none⟩ 1 1 [.int .i64 ((k : Int) + 1), .int .i64 a1, .int .i64 a2, .int .i64 a3] rfl rfl (World.news_of_block (cs := #[.int .i64 ((k : Int) + 1), .int .i64 a1, .int .i64 a2, .int .i64 a3]) (t := 66) (fr := (0, 0)) HNB.out) (by simp [Value.oneCell']) (by omega) (by simp only [maxLen]; omega) (by omega) (by have := HBB.out.size; simp at this ⊢; omega) (w1.heap.size + 2) (by simp) ?_; intro g8 cap8 w8 hown8 hg8 hat8 hlt8)
        have hown2 := HOW.out
        have hB2 := HBB.out
        have hgW := grown_trans' ((Below.refl _ _).alloc (Nat.le_refl _) _) hg8
        have hB8 : Below w.heap.size w w8 := hB2.grown hgW hB2.size (fun q hq => (hown2.lt q hq).1)
        clear hown2 hB2 hg8 hgW hat8 hlt8
        go_roundg (40 - (k + 1))
        case measure => omega
        case rel => exact ⟨k + 1, by omega, rfl, by go_num, hB8, by rw [HS.out]; simpa [HC.out] using hown8⟩
    · obtain rfl : k = 40 := by omega
      go_wp2_with fail
      go_ret2
      exact ⟨_, rfl, by rw [HL.out]; exact hown, hbel⟩

/-- a root: its name, its handle -/
def rootP (r : Bytes) : Bytes × Nat := (if gotName (r.take 8) = true then nmR r else [], (r.getD 10 0).toNat)
def rootsF (S : Nat → Bytes) (m : Nat) : List (Bytes × Nat) := ((List.range m).filter fun i => !zeroE (S i)).map fun i => rootP (S i)
def rootsL (l : Bytes) : List (Bytes × Nat) := rootsF (rawR l) 8
theorem rootsF_succ (S : Nat → Bytes) (m : Nat) : rootsF S (m + 1) = rootsF S m ++ (if zeroE (S m) = true then [] else [rootP (S m)]) := by
  unfold rootsF
  rw [List.range_succ, List.filter_append, List.map_append]
  congr 1
  cases h : zeroE (S m) <;> simp [h]
theorem rootsF_len (S : Nat → Bytes) (m : Nat) : (rootsF S m).length ≤ m := by
  unfold rootsF
  rw [List.length_map]
  have := List.length_filter_le (fun i => !zeroE (S i)) (List.range m)
  rwa [List.length_range] at this
def rcells (x : Bytes × Nat) : List Value := [sv x.1, .int .i64 x.2]
theorem root_info : (Tryz.prog.info? 128).map (fun i => (i.zero, i.size, i.bytes)) = some (some (.agg #[.string ByteArray.empty, .int .i64 0]), 2, 24) := by kernel_rfl
set_option maxRecDepth 100000 in
theorem iroots_ok (A : Option Addr) (n c : Nat) (l : Bytes) (w : World) (hn : l.length = n) (hr : rightB n = true) (hnc : n ≤ c) (hrd : Rd w A l) :
    Calls Tryz.prog 137 #[.slice A n c] w fun e w' => ∃ v, e = .returned (.tuple #[v, .nilIface]) ∧ w'.ownsRow w.heap.size 128 2 v (rootsL l).length ((rootsL l).flatMap rcells) ∧ Below w.heap.size w w' := by
  have hnb := rightB_true.1 hr
  obtain ⟨i2, hi2, hx0, hx1, hx2⟩ := info_parts root_info
  have HRAW : Hidden (∀ k : Nat, k < 8 → ∀ W, Below w.heap.size w W → Rd W (A.map (·.add (200 + 11 * k))) (rawR l k)) := ⟨fun k hk W hW => rawR_rd (hrd.below hW) k hk (by omega)⟩
  have HLEN : Hidden (∀ k : Nat, k < 8 → (rawR l k).length = 11) := ⟨fun k hk => rawR_len l k hk (by omega)⟩
  have HL : Hidden (rootsL l = rootsF (rawR l) 8) := ⟨rfl⟩
  generalize rawR l = S at *
  clear hrd hn
  go_enter Tryz.func137, Tryz.ntmps137
  go_wp2_with fail
  refine (check_ok A n c 1 _ hr (by decide)).mono ?_
  rintro e w1 ⟨rfl, rfl⟩
  go_wp2_with fail
  go_loopg [5, 15] 8 (fun m v i wr => ∃ k : Nat, k ≤ 8 ∧ m = 8 - k ∧ i = .int .i64 (k : Int) ∧ Below w.heap.size w wr ∧ wr.ownsRow w.heap.size 128 2 v (rootsF S k).length ((rootsF S k).flatMap rcells))
  case atStart => exact ⟨0, by omega, rfl, rfl, Below.refl _ _, World.ownsRow_nil _ _ _ _⟩
  case round =>
    obtain ⟨k, hk, rfl, rfl, hbel, hown⟩ := hrel
    by_cases hlt : k < 8
    · have k0 : (k : Int) < 8 := by omega
      have s1 : IntKind.i64.wrap ((k : Int) + 1) = (k : Int) + 1 := IntWalk.i64_in _ (by omega)
      have hll := rootsF_len S k
      have HS := Hidden.mk (rootsF_succ S k)
      have hrw := HRAW.out k hlt wr hbel
      have hlen := HLEN.out k hlt
      obtain ⟨p, off, hA, hpl⟩ := hrw.lt (by omega)
      rw [hA] at hrw
      have HA := Hidden.mk hA
      have q10 := hrw.at_ 10 (by omega)
      have g10 : (S k).getD 10 0 = (S k)[10]'(by omega) := by simp [hlen]
      have HP : Hidden (rootP (S k) = (if gotName ((S k).take 8) = true then nmR (S k) else [], ((S k)[10]'(by omega)).toNat)) := ⟨by unfold rootP; rw [g10]⟩
      have HLK := Hidden.mk hlen
      generalize (S k)[10]'(by omega) = x10 at *
      generalize rootsF S k = L at *
      have w10 : IntKind.i64.wrap (x10.toNat : Int) = (x10.toNat : Int) := IntWalk.i64_in _ (by have := u8_lt x10; omega)
      generalize hcc : c - (200 + 11 * k) = cc at *
      have hc8 : 8 ≤ cc := by omega
      have HCC := Hidden.mk hcc
      clear hA g10 hcc hlen
      go_wp2_with fail
      refine (rawRoot_any A n c (k : Int) _ (by omega) (by omega) (by omega) hnc).mono ?_
      rintro e w1 ⟨rfl, rfl⟩
      rw [rootO_k, HA.out, HCC.out]
      go_wp2_with fail
      refine (izero_any _ 11 _ (S k) _ HLK.out (by simp [maxLen]) hrw).mono ?_
      rintro e w1 ⟨rfl, rfl⟩
      cases hz : zeroE (S k) with
      | true =>
        rw [hz] at HS
        clear hz q10
        go_wp2_with fail
        go_roundg (8 - (k + 1))
        case measure => omega
        case rel => exact ⟨k + 1, by omega, rfl, by go_num, hbel, by rw [HS.out]; simpa using hown⟩
      | false =>
        rw [hz] at HS
        clear hz
        go_wp2_with fail
        refine (getName_any (some ⟨p, off, none⟩) cc ((S k).take 8) _ (by simp [HLK.out]) hc8 (hrw.take 8 (by rw [HLK.out]; omega))).mono ?_
        rintro e w3 ⟨he, hb3⟩
        have hB3 := hbel.trans (hb3.mono hbel.size)
        have hown3 := own_below hown hb3
        have z10 := (hb3.cell (p := ⟨p, off + 10, none⟩) hpl).trans q10
        clear hb3 hbel hown q10 hpl hrw
        cases hg : gotName ((S k).take 8)
        all_goals
          rw [hg] at he HP
          first | simp only [Bool.false_eq_true, if_false] at he | simp only [if_true] at he
          subst he
          have HG := Hidden.mk hg
          clear hg
        case false =>
          go_wp2_with (at_builtin; refine wpList_append_lies _ rfl (.tmp 29) (.tmp 36) _ rfl w.heap.size 128 i2 _ 2 24 Tryz.underlying125 hi2 hx0 hx1 hx2 rfl (by decide) u5 L.length (L.flatMap rcells) rfl (own_below hown3 ((Below.refl _ _).alloc (Nat.le_refl _) _)) ⟨w3.heap.size, 0, none⟩ 1 1 [sv [], .int .i64 x10.toNat] rfl rfl (World.news_of_block (cs := #[sv [], .int .i64 x10.toNat]) (t := 128) (fr := (0, 0)) (heap_alloc_new w3 _)) (by simp [Value.oneCell']) (by omega) (by simp only [maxLen]; omega) (by omega) (by have := hB3.size; simp; omega) (w3.heap.size + 1) (by simp) ?_; intro g8 cap8 w8 hown8 hg8 hat8 hlt8)
          have hgW := grown_trans' ((Below.refl _ _).alloc (Nat.le_refl _) _) hg8
          have hB8 : Below w.heap.size w w8 := hB3.grown hgW hB3.size (fun q hq => (hown3.lt q hq).1)
          have hpp := HP.out
          simp only [Bool.false_eq_true, if_false] at hpp
          have HPP := Hidden.mk hpp
          clear hown3 hB3 hg8 hgW hat8 hlt8 hpp
          go_roundg (8 - (k + 1))
          case measure => omega
          case rel => exact ⟨k + 1, by omega, rfl, by go_num, hB8, by rw [HS.out, HPP.out]; simpa [rcells] using hown8⟩
        case true =>
          have hpp := HP.out
          simp only [if_true] at hpp
          have HPP := Hidden.mk hpp
          have HNM : Hidden (nmR (S k) = nameAt ((S k).take 8)) := ⟨rfl⟩
          generalize nameAt ((S k).take 8) = nm at *
          clear hpp
          go_wp2_with (at_builtin; refine wpList_append_lies _ rfl (.tmp 29) (.tmp 36) _ rfl w.heap.size 128 i2 _ 2 24 Tryz.underlying125 hi2 hx0 hx1 hx2 rfl (by decide) u5 L.length (L.flatMap rcells) rfl (own_below hown3 ((Below.refl _ _).alloc (Nat.le_refl _) _)) ⟨w3.heap.size, 0, none⟩ 1 1 [sv nm, .int .i64 x10.toNat] rfl rfl (World.news_of_block (cs := #[sv nm, .int .i64 x10.toNat]) (t := 128) (fr := (0, 0)) (heap_alloc_new w3 _)) (by simp [Value.oneCell']) (by omega) (by simp only [maxLen]; omega) (by omega) (by have := hB3.size; simp; omega) (w3.heap.size + 1) (by simp) ?_; intro g8 cap8 w8 hown8 hg8 hat8 hlt8)
          have hgW := grown_trans' ((Below.refl _ _).alloc (Nat.le_refl _) _) hg8
          have hB8 : Below w.heap.size w w8 := hB3.grown hgW hB3.size (fun q hq => (hown3.lt q hq).1)
          clear hown3 hB3 hg8 hgW hat8 hlt8
          go_roundg (8 - (k + 1))
          case measure => omega
          case rel => exact ⟨k + 1, by omega, rfl, by go_num, hB8, by rw [HS.out, HPP.out, HNM.out]; simpa [rcells] using hown8⟩
    · obtain rfl : k = 8 := by omega
      go_wp2_with fail
      go_ret2
      exact ⟨_, rfl, by rw [HL.out]; exact hown, hbel⟩

theorem iget_e1 (A : Option Addr) (n c : Nat) (h : Int) (w : World) (hr : rightB n = true) (hh : handleB h = false) :
    Calls Tryz.prog 66 #[.slice A n c, .int .i64 h] w fun e w' => e = .returned (.tuple #[entV 0 0 0 0, .iface 111 (.int .i64 1)]) ∧ Below w.heap.size w w' := by
  have hW : Below w.heap.size w (w.alloc (.cells #[.int .i64 0, .int .i64 0, .int .i64 0, .int .i64 0] 66)) := (Below.refl _ _).alloc (Nat.le_refl _) _
  go_enter Tryz.func66, Tryz.ntmps66
  go_wp2_with fail
  refine (check_e1 A n c h _ hr hh).mono ?_
  rintro e w1 ⟨rfl, rfl⟩
  go_wp2_with fail
  refine bodyPost_ret (v := .tuple #[entV 0 0 0 0, .iface 111 (.int .i64 1)]) ?_ rfl ?_
  · rw [results_cell_tmp rfl]
    go_simp
  · exact ⟨rfl, hW⟩
end Go.Proofs.YtbnobjlphmkgeaaGreatDoor
/- The contracts of the reference's Get, Put, Name, NameBytes and ReadName. -/
namespace Go.Proofs.YtbnobjlphmkgeaaGreatDoor
open Go.RowKit

def putF (l : Bytes) (at_ x size : Int) : Bytes := if putE l.length at_ x size = 0 then putB l at_ x size else []

theorem splice_put (l : Bytes) (o x k : Nat) (h : o + k < l.length) : (splice l o (numB x k)).set (o + k) (UInt8.ofNat (x / 2 ^ (8 * k) % 256)) = splice l o (numB x (k + 1)) := by
  have h1 := numB_length x k
  have h2 := numB_length x (k + 1)
  apply List.ext_getElem?
  intro p
  rw [List.getElem?_set, splice_len _ _ _ (by omega), splice_rd _ _ _ _ (by omega), splice_rd _ _ _ _ (by omega), h1, h2]
  by_cases a : o + k = p
  · subst a
    rw [if_pos rfl, if_pos (by omega), if_pos (by omega), Nat.add_sub_cancel_left, numB_get _ _ _ (by omega)]
  · rw [if_neg a]
    by_cases b : o ≤ p ∧ p < o + k
    · rw [if_pos b, if_pos (show o ≤ p ∧ p < o + (k + 1) from by omega), numB_get _ _ _ (by omega), numB_get _ _ _ (by omega)]
    · rw [if_neg b, if_neg (show ¬ (o ≤ p ∧ p < o + (k + 1)) from by omega)]
end Go.Proofs.YtbnobjlphmkgeaaGreatDoor
/- The contract of the reference's Put. -/
namespace Go.Proofs.YtbnobjlphmkgeaaGreatDoor
open Go.RowKit

/-- an answer: bytes, and a number or an error -/
def RowAns (w w' : World) (e : Ending) (l : Bytes) (x : Value) : Prop := ∃ A' c', e = .returned (.tuple #[.slice A' l.length c', x]) ∧ Rd w' A' l ∧ Below w.heap.size w w'
set_option maxRecDepth 100000 in
set_option maxHeartbeats 1000000 in
theorem refPut_ans (A : Option Addr) (n c : Nat) (l : Bytes) (at_ x size : Int) (w : World) (hn : l.length = n) (hl : n ≤ 140737488351232) (hr : Rd w A l) :
    Calls Tryz.prog 142 #[.slice A n c, .int .i64 at_, .int .i64 x, .int .i64 size] w fun e w' => RowAns w w' e (putF l at_ x size) (.int .i64 (putE n at_ x size)) := by
  obtain ⟨i0, hi0, hz0, hz1, hz2⟩ := info_parts byte_info
  generalize hF : putF l at_ x size = F
  generalize hE : putE n at_ x size = E
  unfold putF at hF
  rw [hn, hE] at hF
  unfold putE at hE
  by_cases hs : 1 ≤ size ∧ size ≤ 4
  · obtain ⟨h1, h4⟩ := hs
    obtain ⟨s, rfl⟩ := Int.eq_ofNat_of_zero_le (show 0 ≤ size by omega)
    have HM : Hidden (mostN (s : Int) = (2 ^ (8 * s) : Nat) - 1) := ⟨by simp [mostN]⟩
    have HE := Hidden.mk hE
    have HF := Hidden.mk hF
    clear hE hF
    go_enter Tryz.func142, Tryz.ntmps142
    go_wp2_with fail
    go_loop [10, 11] (fun mv iv => ∃ k : Nat, k ≤ s ∧ iv = .int .i64 k ∧ mv = .int .i64 ((2 ^ (8 * k) : Nat) : Int)) (fun _ iv => s - (intOf iv).toNat)
    case atStart => exact ⟨0, Nat.zero_le _, rfl, rfl⟩
    case round =>
      obtain ⟨k, hk, rfl, rfl⟩ := hrel
      by_cases hlt : k < s
      · have hp : 2 ^ (8 * k) ≤ 16777216 := by
          calc 2 ^ (8 * k) ≤ 2 ^ 24 := Nat.pow_le_pow_right (by omega) (by omega)
            _ = 16777216 := by decide
        have HD : Hidden (2 ^ (8 * k) * 256 = 2 ^ (8 * (k + 1))) := ⟨by rw [show 8 * (k + 1) = 8 * k + 8 from by omega, Nat.pow_add]⟩
        generalize 2 ^ (8 * k) = M at *
        have s1 : IntKind.i64.wrap ((M : Int) * 256) = (M : Int) * 256 := IntWalk.i64_in _ (by omega)
        go_wp2_with fail
        go_round
        case rel => exact ⟨k + 1, by omega, by go_num, int_i64 (by have := HD.out; omega)⟩
        case measure => simp [intOf]; omega
      · obtain rfl : k = s := by omega
        have hp : 2 ^ (8 * k) ≤ 4294967296 := by
          calc 2 ^ (8 * k) ≤ 2 ^ 32 := Nat.pow_le_pow_right (by omega) (by omega)
            _ = 4294967296 := by decide
        by_cases hx : 0 ≤ x ∧ x ≤ mostN (k : Int)
        · obtain ⟨X, rfl⟩ := Int.eq_ofNat_of_zero_le hx.1
          have hxm := hx.2
          rw [HM.out] at hxm
          by_cases ha : at_ < 0 ∨ (n : Int) - k < at_
          · have he : E = 3 := by rw [← HE.out, if_pos ⟨h1, h4, hx.1, hx.2⟩, if_pos ha]
            have hf : F = [] := by rw [← HF.out, if_neg (by omega)]
            subst he hf
            clear HE HF hx HM
            generalize 2 ^ (8 * k) = M at *
            by_cases h0 : at_ < 0
            · clear ha
              go_wp2_with fail
              go_ret2
              exact ⟨none, 0, rfl, Rd.nil_, Below.refl _ _⟩
            · by_cases hb : (n : Int) < at_
              · clear ha
                go_wp2_with fail
                go_ret2
                exact ⟨none, 0, rfl, Rd.nil_, Below.refl _ _⟩
              · have hc3 : (n : Int) - at_ < k := by omega
                have s1 : IntKind.i64.wrap ((n : Int) - at_) = (n : Int) - at_ := IntWalk.i64_in _ (by omega)
                clear ha
                go_wp2_with fail
                go_ret2
                exact ⟨none, 0, rfl, Rd.nil_, Below.refl _ _⟩
          · have he : E = 0 := by rw [← HE.out, if_pos ⟨h1, h4, hx.1, hx.2⟩, if_neg ha]
            have hf : F = putB l at_ X k := by rw [← HF.out, if_pos he]
            obtain ⟨a, rfl⟩ := Int.eq_ofNat_of_zero_le (show 0 ≤ at_ by omega)
            have hfa : F = splice l a (numB X k) := by rw [hf]; simp [putB]
            have HFA := Hidden.mk hfa
            subst he
            clear HE HF hx HM hf hfa
            have hfit : a + k ≤ n := by omega
            have hk1 : 1 ≤ k := by omega
            have s1 : IntKind.i64.wrap ((n : Int) - a) = (n : Int) - a := IntWalk.i64_in _ (by omega)
            have t1 : decide (n < a) = false := by simp; omega
            have t2 : decide ((n : Int) - a < k) = false := by simp; omega
            obtain ⟨p, off, rfl, _⟩ := hr.lt (by omega)
            generalize 2 ^ (8 * k) = M at *
            have t3 : decide (M ≤ X) = false := by simp; omega
            have t0 : decide ((a : Int) < 0) = false := by simp
            have t5 : decide ((X : Int) < 0) = false := by simp
            clear ha
            go_wp2_with (at_builtin; refine wpList_append_own _ rfl (.tmp 50) (.tmp 51) _ rfl w.heap.size 5 i0 _ 1 1 Tryz.underlying22 hi0 hz0 hz1 hz2 rfl (by decide) (.slice none 0 0) 0 [] rfl (World.ownsRow_nil _ _ _ _) ⟨p, off, none⟩ n c (l.map bv) rfl (by simp; omega) hr.cells one_bv (by simp only [maxLen]; omega) (by omega) (Nat.le_refl _) ?_; intro v1 w1 hown1 hg1 hnn1)
            have hb1 : Below w.heap.size w w1 := (Below.refl _ _).grown hg1 (Nat.le_refl _) (fun k hk => by simp [Value.ownBlock] at hk)
            have hO : Own w1 w.heap.size 5 v1 l := by unfold Own; simpa [hn] using hown1
            have hne : v1 ≠ .slice none 0 0 := fun h => by
              subst h
              rcases hO.2 with ⟨_, h0⟩ | ⟨g, cap, cur, h, _⟩
              · omega
              · cases h
            obtain ⟨g, cap, hv, hbg, hrow⟩ := Row.of_own hO hne
            rw [hn] at hv
            subst hv
            clear hO hne hown1 hg1 hnn1
            go_loopw [2, 13] (fun nv iv wr => ∃ j : Nat, j ≤ k ∧ iv = .int .i64 j ∧ nv = .int .i64 ((X / 2 ^ (8 * j) : Nat) : Int) ∧ Below w.heap.size w wr ∧ Row wr 5 g cap (splice l a (numB X j))) (fun _ iv _ => k - (intOf iv).toNat)
            case atStart => exact ⟨0, Nat.zero_le _, rfl, by simp, hb1, by simpa [numB, splice] using hrow⟩
            case round =>
              obtain ⟨j, hj, rfl, rfl, hbel, hrow2⟩ := hrel
              have hsl : (splice l a (numB X j)).length = n := by rw [splice_len _ _ _ (by rw [numB_length]; omega), hn]
              by_cases hlt2 : j < k
              · have hd := div_step X j
                have HD2 := Hidden.mk hd
                have hcell := hrow2.cell (a + j) (by omega)
                have hfr := hrow2.frozen (a + j)
                have hst := hrow2.store (a + j) (by omega) (UInt8.ofNat (X / 2 ^ (8 * j) % 256))
                rw [splice_put l a X j (by omega)] at hst
                have hbn := hbel.setCell (p := ⟨g, a + j, none⟩) hbg (bv (UInt8.ofNat (X / 2 ^ (8 * j) % 256)))
                have hbv : bv (UInt8.ofNat (X / 2 ^ (8 * j) % 256)) = .int .u8 ((X / 2 ^ (8 * j) : Nat) % 256 : Int) := by simp only [bv, ofNat_mod]; rfl
                have hmle : X / 2 ^ (8 * j) ≤ X := Nat.div_le_self _ _
                have hcap := hrow2.le.1
                rw [hbv] at hst hbn
                generalize X / 2 ^ (8 * j) = m at *
                have q1 : IntKind.i64.wrap ((a : Int) + j) = (a : Int) + j := IntWalk.i64_in _ (by omega)
                have k0 : (0 : Int) ≤ (a : Int) + j := by omega
                have k1 : (a : Int) + j < n := by omega
                generalize (splice l a (numB X j))[a + j] = u at hcell
                clear hd hbv hrow2 hsl
                go_wp2_with fail
                go_roundw
                case rel => exact ⟨j + 1, by omega, by go_num, int_i64 (by have := HD2.out; omega), hbn, hst⟩
                case measure => simp [intOf]; omega
              · obtain rfl : j = k := by omega
                go_wp2_with fail
                go_ret2
                refine ⟨some ⟨g, 0, none⟩, cap, ?_, by rw [HFA.out]; exact hrow2.rd, hbel⟩
                rw [show F.length = n from by rw [HFA.out]; exact hsl]
                rfl
        · have he : E = 1 := by rw [← HE.out, if_neg (fun h => hx ⟨h.2.2.1, h.2.2.2⟩)]
          have hf : F = [] := by rw [← HF.out, if_neg (by omega)]
          rw [HM.out] at hx
          subst he hf
          clear HE HF HM
          generalize 2 ^ (8 * k) = M at *
          by_cases h0 : x < 0
          · clear hx
            go_wp2_with fail
            go_ret2
            exact ⟨none, 0, rfl, Rd.nil_, Below.refl _ _⟩
          · have t3 : (M : Int) ≤ x := by omega
            clear hx
            go_wp2_with fail
            go_ret2
            exact ⟨none, 0, rfl, Rd.nil_, Below.refl _ _⟩
  · have he : E = 1 := by rw [← hE, if_neg (fun h => hs ⟨h.1, h.2.1⟩)]
    have hf : F = [] := by rw [← hF, if_neg (by omega)]
    subst he hf
    clear hE hF
    by_cases h1 : size < 1
    · clear hs
      go_enter Tryz.func142, Tryz.ntmps142
      go_wp2_with fail
      go_ret2
      exact ⟨none, 0, rfl, Rd.nil_, Below.refl _ _⟩
    · have h4 : 4 < size := by omega
      clear hs
      go_enter Tryz.func142, Tryz.ntmps142
      go_wp2_with fail
      go_ret2
      exact ⟨none, 0, rfl, Rd.nil_, Below.refl _ _⟩
theorem refPut_any (A : Option Addr) (n c : Nat) (l : Bytes) (at_ x size : Int) (w : World) (hn : l.length = n) (hl : n ≤ 140737488351232) (hr : Rd w A l) :
    Calls Tryz.prog 142 #[.slice A n c, .int .i64 at_, .int .i64 x, .int .i64 size] w fun e w' => ∃ A' c', e = .returned (.tuple #[.slice A' (putF l at_ x size).length c', .int .i64 (putE n at_ x size)]) ∧ Rd w' A' (putF l at_ x size) ∧ Below w.heap.size w w' :=
  refPut_ans A n c l at_ x size w hn hl hr
end Go.Proofs.YtbnobjlphmkgeaaGreatDoor
/- The contract of the reference's Make. -/
namespace Go.Proofs.YtbnobjlphmkgeaaGreatDoor
open Go.RowKit

theorem splice_take_succ (z b : Bytes) (o k : Nat) (hk : k < b.length) (hz : o + b.length ≤ z.length) : (splice z o (b.take k)).set (o + k) b[k] = splice z o (b.take (k + 1)) := by
  have h1 : (b.take k).length = k := by simp; omega
  have h2 : (b.take (k + 1)).length = k + 1 := by simp; omega
  apply List.ext_getElem?
  intro p
  rw [List.getElem?_set, splice_len _ _ _ (by omega), splice_rd _ _ _ _ (by omega), splice_rd _ _ _ _ (by omega), h1, h2]
  by_cases a : o + k = p
  · subst a
    rw [if_pos rfl, if_pos (by omega), if_pos (by omega), Nat.add_sub_cancel_left, List.getElem?_take, if_pos (by omega), List.getElem?_eq_getElem hk]
  · rw [if_neg a]
    by_cases c : o ≤ p ∧ p < o + k
    · rw [if_pos c, if_pos (by omega), List.getElem?_take, List.getElem?_take, if_pos (by omega), if_pos (by omega)]
    · rw [if_neg c, if_neg (by omega)]
end Go.Proofs.YtbnobjlphmkgeaaGreatDoor
/- The contracts of the reference's Name, NameBytes and ReadName. -/
namespace Go.Proofs.YtbnobjlphmkgeaaGreatDoor
open Go.RowKit

theorem isName_bad (s : Bytes) (k : Nat) (hk : k < s.length) (h : notLower s[k] = true) : isName s = false := by
  unfold isName
  rw [List.any_eq_true.2 ⟨s[k], List.getElem_mem hk, h⟩]
  simp
theorem refName_any (s : Bytes) (w : World) (hs : s.length ≤ 140737488351232) :
    Calls Tryz.prog 77 #[sv s] w fun e w' => e = .returned (.bool (isName s)) ∧ w = w' := by
  by_cases h0 : s = []
  · subst h0
    go_enter Tryz.func77, Tryz.ntmps77
    go_wp2
    go_ret
    exact ⟨rfl, rfl⟩
  · have h0' : s.isEmpty = false := by
      cases s with
      | nil => exact absurd rfl h0
      | cons a b => rfl
    by_cases h8 : 8 < s.length
    · have hv : Hidden (false = isName s) := ⟨by simp [isName]; intros; omega⟩
      have t8 : decide ((8 : Int) < s.length) = true := by simp; omega
      clear h0
      go_enter Tryz.func77, Tryz.ntmps77
      go_wp2
      go_ret
      exact ⟨ret_bool hv.out, rfl⟩
    · have t8 : decide ((8 : Int) < s.length) = false := by simp; omega
      clear h0
      go_enter Tryz.func77, Tryz.ntmps77
      go_wp2
      go_loop [3] (fun i => ∃ k : Nat, k ≤ s.length ∧ i = .int .i64 k ∧ Hidden (∀ x ∈ s.take k, notLower x = false)) (fun i => s.length - (intOf i).toNat)
      case atStart => exact ⟨0, Nat.zero_le _, rfl, ⟨by simp⟩⟩
      case round =>
        obtain ⟨k, hk, rfl, hnot⟩ := hrel
        by_cases hlt : k < s.length
        · have k0 : (0 : Int) ≤ k := by omega
          have k1 : (k : Int) < s.length := by omega
          have hix : ((⟨s.toArray⟩ : ByteArray)[k]'(by simpa [ByteArray.size] using hlt)) = s[k] := rfl
          by_cases ha : s[k].toNat < 97
          · have hv : Hidden (false = isName s) := ⟨(isName_bad s k hlt (by simp [notLower, ha])).symm⟩
            have t1 : decide ((s[k].toNat : Int) < 97) = true := by simp; omega
            clear hnot
            go_wp2
            go_ret
            exact ⟨ret_bool hv.out, rfl⟩
          · have t1 : decide ((s[k].toNat : Int) < 97) = false := by simp; omega
            by_cases hb : 122 < s[k].toNat
            · have hv : Hidden (false = isName s) := ⟨(isName_bad s k hlt (by simp [notLower, hb])).symm⟩
              have t2 : decide ((122 : Int) < s[k].toNat) = true := by simp; omega
              clear hnot
              go_wp2
              go_ret
              exact ⟨ret_bool hv.out, rfl⟩
            · have t2 : decide ((122 : Int) < s[k].toNat) = false := by simp; omega
              have hnk : Hidden (∀ x ∈ s.take (k + 1), notLower x = false) := ⟨forall_take_succ hlt hnot.out (by simp [notLower]; omega)⟩
              clear hnot
              go_wp2
              go_round
              case rel => exact ⟨k + 1, by omega, by go_num, hnk⟩
              case measure => simp [intOf]; omega
        · have hv : Hidden (true = isName s) := ⟨by
            have := hnot.out
            rw [List.take_of_length_le (by omega)] at this
            have h3 : s.any notLower = false := by simpa using this
            simp [isName, h3, h0']; omega⟩
          clear hnot
          go_wp2
          go_ret
          exact ⟨ret_bool hv.out, rfl⟩

theorem idxOf_at (l : Bytes) (k : Nat) (hk : k ≤ l.length) (h : ∀ x ∈ l.take k, nonZero x = true) (he : k = l.length ∨ ∃ h' : k < l.length, l[k] = 0) : l.idxOf 0 = k := by
  have hn : (0 : UInt8) ∉ l.take k := fun h0 => by have := h 0 h0; simp [nonZero] at this
  rcases he with rfl | ⟨h', hz⟩
  · rw [List.take_length] at hn
    exact List.idxOf_eq_length hn
  · have := idxB_at l 0 k h' hn hz
    have hm : (0 : UInt8) ∈ l := by rw [← hz]; exact List.getElem_mem h'
    unfold idxB at this
    rw [if_pos hm] at this
    omega
set_option maxRecDepth 100000 in
theorem refReadName_any (A : Option Addr) (c : Nat) (l : Bytes) (w : World) (h8 : l.length = 8) (hc : 8 ≤ c) (hr : Rd w A l) :
    Calls Tryz.prog 129 #[.slice A 8 c] w fun e w' => e = .returned (.tuple (if gotName l = true then #[sv (nameAt l), .int .i64 0] else #[sv [], .int .i64 2])) ∧ w = w' := by
  generalize hres : (if gotName l = true then #[sv (nameAt l), .int .i64 0] else #[sv [], .int .i64 2]) = res
  have HRES := Hidden.mk hres
  clear hres
  obtain ⟨p, off, rfl, _⟩ := hr.lt (by omega)
  go_enter Tryz.func129, Tryz.ntmps129
  go_wp2_with fail
  go_loop [4] (fun i => ∃ k : Nat, k ≤ 8 ∧ i = .int .i64 k ∧ Hidden (∀ x ∈ l.take k, nonZero x = true)) (fun i => 8 - (intOf i).toNat)
  case atStart => exact ⟨0, Nat.zero_le _, rfl, ⟨by simp⟩⟩
  case round =>
    obtain ⟨k, hk, rfl, hnot⟩ := hrel
    by_cases hgo : ∃ h : k < l.length, nonZero l[k] = true
    · obtain ⟨hlt, hnz⟩ := hgo
      have hcell := hr.at_ k hlt
      have hb := bv_bne l[k]
      rw [hnz] at hb
      have hnk : Hidden (∀ x ∈ l.take (k + 1), nonZero x = true) := ⟨by
        intro x hx
        rw [List.take_succ_eq_append_getElem hlt, List.mem_append, List.mem_singleton] at hx
        rcases hx with hx | rfl
        · exact hnot.out x hx
        · exact hnz⟩
      have k0 : (0 : Int) ≤ k := by omega
      have k1 : (k : Int) < 8 := by omega
      clear hnz hnot
      go_wp2_with fail
      go_round
      case rel => exact ⟨k + 1, by omega, by go_num, hnk⟩
      case measure => simp [intOf]; omega
    · have hidx : l.idxOf 0 = k := idxOf_at l k (by omega) hnot.out (by
        rcases Nat.lt_or_ge k l.length with h | h
        · right
          refine ⟨h, ?_⟩
          have : ¬ nonZero l[k] = true := fun h2 => hgo ⟨h, h2⟩
          simpa [nonZero] using this
        · left; omega)
      have HNA : Hidden (nameAt l = l.take k) := ⟨by unfold nameAt; rw [hidx]⟩
      have HNR : Hidden (nameRest l = l.drop k) := ⟨by unfold nameRest; rw [hidx]⟩
      clear hnot hidx
      have hk8 : decide (k < 8) = true → ∃ h : k < l.length, (((l[k]).toNat : Int) != 0) = false := fun h => by
        have h' : k < 8 := by simpa using h
        refine ⟨by omega, ?_⟩
        have : ¬ nonZero l[k] = true := fun h2 => hgo ⟨by omega, h2⟩
        rw [bv_bne]; simpa using this
      clear hgo
      have hna : Rd w (some ⟨p, off, none⟩) (l.take k) := hr.take k (by omega)
      have hcv := conv_text w (some ⟨p, off, none⟩) k c (l.take k) (by simp; omega) hna
      have hkl : (l.take k).length ≤ 140737488351232 := by simp; omega
      have kk0 : (0 : Int) ≤ (k : Int) := by omega
      have HNM : Hidden (isName (nameAt l) = isName (l.take k)) := ⟨by rw [HNA.out]⟩
      cases hd : decide (k < 8) with
      | true =>
        obtain ⟨hltl, hz⟩ := hk8 hd
        have hcell := hr.at_ k hltl
        have k1 : (k : Int) < 8 := by have : k < 8 := by simpa using hd
                                      omega
        clear hk8 hd
        go_wp2_with fail
        go_loop [5] (fun i => ∃ j : Nat, k ≤ j ∧ j ≤ 8 ∧ i = .int .i64 j ∧ Hidden (∀ q (h : q < l.length), k ≤ q → q < j → nonZero l[q] = false)) (fun i => 8 - (intOf i).toNat)
        case atStart => exact ⟨k, Nat.le_refl _, hk, rfl, ⟨fun q _ h1 h2 => by omega⟩⟩
        case round =>
          obtain ⟨j, hkj, hj, rfl, hall⟩ := hrel
          by_cases hlt : j < 8
          · have hcj := hr.at_ j (by omega)
            have hb := bv_bne (l[j]'(by omega))
            have j0 : (0 : Int) ≤ j := by omega
            have j1 : (j : Int) < 8 := by omega
            cases hz2 : nonZero (l[j]'(by omega)) with
            | true =>
              rw [hz2] at hb
              have hr2 : Hidden (#[sv [], .int .i64 2] = res) := ⟨by
                rw [← HRES.out, if_neg]
                intro hg
                simp only [gotName, Bool.and_eq_true, Bool.not_eq_true', HNR.out] at hg
                have hm : l[j]'(by omega) ∈ l.drop k := by
                  rw [List.mem_iff_getElem]
                  exact ⟨j - k, by simp; omega, by simp [show k + (j - k) = j from by omega]⟩
                have := List.any_eq_true.2 ⟨_, hm, hz2⟩
                rw [hg.2] at this
                cases this⟩
              clear hz2 hall
              go_wp2_with fail
              go_ret2
              exact ⟨congrArg (fun r => Ending.returned (.tuple r)) hr2.out, rfl⟩
            | false =>
              rw [hz2] at hb
              have hnk : Hidden (∀ q (h : q < l.length), k ≤ q → q < j + 1 → nonZero l[q] = false) := ⟨fun q h h1 h2 => by
                rcases Nat.lt_or_ge q j with h3 | h3
                · exact hall.out q h h1 h3
                · obtain rfl : q = j := by omega
                  exact hz2⟩
              clear hz2 hall
              go_wp2_with fail
              go_round
              case rel => exact ⟨j + 1, by omega, by omega, by go_num, hnk⟩
              case measure => simp [intOf]; omega
          · have hrest : Hidden ((nameRest l).any nonZero = false) := ⟨by
              rw [HNR.out, List.any_eq_false]
              intro x hx
              obtain ⟨q, hq, rfl⟩ := List.mem_iff_getElem.1 hx
              simp at hq
              have := hall.out (k + q) (by omega) (by omega) (by omega)
              simpa using this⟩
            clear hall
            go_wp2_with fail
            refine (refName_any (l.take k) _ hkl).mono ?_
            rintro e w2 ⟨rfl, rfl⟩
            cases hnm : isName (l.take k) with
            | false =>
              have hr2 : Hidden (#[sv [], .int .i64 2] = res) := ⟨by rw [← HRES.out]; simp [gotName, HNM.out, hnm]⟩
              clear hnm
              go_wp2_with fail
              go_ret2
              exact ⟨congrArg (fun r => Ending.returned (.tuple r)) hr2.out, rfl⟩
            | true =>
              have hr2 : Hidden (#[sv (l.take k), .int .i64 0] = res) := ⟨by rw [← HRES.out]; simp [gotName, hnm, hrest.out, HNA.out]⟩
              clear hnm
              go_wp2_with fail
              go_ret2
              exact ⟨congrArg (fun r => Ending.returned (.tuple r)) hr2.out, rfl⟩
      | false =>
        have k1 : ¬ (k : Int) < 8 := by have : ¬ k < 8 := by simpa using hd
                                        omega
        clear hk8 hd
        go_wp2_with fail
        go_loop [5] (fun i => ∃ j : Nat, k ≤ j ∧ j ≤ 8 ∧ i = .int .i64 j ∧ Hidden (∀ q (h : q < l.length), k ≤ q → q < j → nonZero l[q] = false)) (fun i => 8 - (intOf i).toNat)
        case atStart => exact ⟨k, Nat.le_refl _, hk, rfl, ⟨fun q _ h1 h2 => by omega⟩⟩
        case round =>
          obtain ⟨j, hkj, hj, rfl, hall⟩ := hrel
          by_cases hlt : j < 8
          · have hcj := hr.at_ j (by omega)
            have hb := bv_bne (l[j]'(by omega))
            have j0 : (0 : Int) ≤ j := by omega
            have j1 : (j : Int) < 8 := by omega
            cases hz2 : nonZero (l[j]'(by omega)) with
            | true =>
              rw [hz2] at hb
              have hr2 : Hidden (#[sv [], .int .i64 2] = res) := ⟨by
                rw [← HRES.out, if_neg]
                intro hg
                simp only [gotName, Bool.and_eq_true, Bool.not_eq_true', HNR.out] at hg
                have hm : l[j]'(by omega) ∈ l.drop k := by
                  rw [List.mem_iff_getElem]
                  exact ⟨j - k, by simp; omega, by simp [show k + (j - k) = j from by omega]⟩
                have := List.any_eq_true.2 ⟨_, hm, hz2⟩
                rw [hg.2] at this
                cases this⟩
              clear hz2 hall
              go_wp2_with fail
              go_ret2
              exact ⟨congrArg (fun r => Ending.returned (.tuple r)) hr2.out, rfl⟩
            | false =>
              rw [hz2] at hb
              have hnk : Hidden (∀ q (h : q < l.length), k ≤ q → q < j + 1 → nonZero l[q] = false) := ⟨fun q h h1 h2 => by
                rcases Nat.lt_or_ge q j with h3 | h3
                · exact hall.out q h h1 h3
                · obtain rfl : q = j := by omega
                  exact hz2⟩
              clear hz2 hall
              go_wp2_with fail
              go_round
              case rel => exact ⟨j + 1, by omega, by omega, by go_num, hnk⟩
              case measure => simp [intOf]; omega
          · have hrest : Hidden ((nameRest l).any nonZero = false) := ⟨by
              rw [HNR.out, List.any_eq_false]
              intro x hx
              obtain ⟨q, hq, rfl⟩ := List.mem_iff_getElem.1 hx
              simp at hq
              have := hall.out (k + q) (by omega) (by omega) (by omega)
              simpa using this⟩
            clear hall
            go_wp2_with fail
            refine (refName_any (l.take k) _ hkl).mono ?_
            rintro e w2 ⟨rfl, rfl⟩
            cases hnm : isName (l.take k) with
            | false =>
              have hr2 : Hidden (#[sv [], .int .i64 2] = res) := ⟨by rw [← HRES.out]; simp [gotName, HNM.out, hnm]⟩
              clear hnm
              go_wp2_with fail
              go_ret2
              exact ⟨congrArg (fun r => Ending.returned (.tuple r)) hr2.out, rfl⟩
            | true =>
              have hr2 : Hidden (#[sv (l.take k), .int .i64 0] = res) := ⟨by rw [← HRES.out]; simp [gotName, hnm, hrest.out, HNA.out]⟩
              clear hnm
              go_wp2_with fail
              go_ret2
              exact ⟨congrArg (fun r => Ending.returned (.tuple r)) hr2.out, rfl⟩
end Go.Proofs.YtbnobjlphmkgeaaGreatDoor
/- The reference on images: Image, Handle, Zero, RootAt, Entry, Wipe. -/
namespace Go.Proofs.YtbnobjlphmkgeaaGreatDoor
open Go.RowKit

theorem ref_right_any (n : Int) (w : World) : Calls Tryz.prog 7 #[.int .i64 n] w fun e w' => e = .returned (.bool (rightB n)) ∧ w = w' := by
  by_cases h1 : 288 ≤ n
  · go_enter Tryz.func7, Tryz.ntmps7
    go_wp2
    go_ret
    exact ⟨ret_bool (by simp [rightB]; intros; omega), rfl⟩
  · go_enter Tryz.func7, Tryz.ntmps7
    go_wp2
    go_ret
    exact ⟨ret_bool (by symm; simp [rightB]; omega), rfl⟩
theorem ref_handle_any (n : Int) (w : World) : Calls Tryz.prog 94 #[.int .i64 n] w fun e w' => e = .returned (.bool (handleB n)) ∧ w = w' := by
  by_cases h1 : 1 ≤ n
  · go_enter Tryz.func94, Tryz.ntmps94
    go_wp2
    go_ret
    exact ⟨ret_bool (by simp [handleB]; intros; omega), rfl⟩
  · go_enter Tryz.func94, Tryz.ntmps94
    go_wp2
    go_ret
    exact ⟨ret_bool (by symm; simp [handleB]; omega), rfl⟩
theorem zeroE_at (l : Bytes) (j : Nat) (hj : j < l.length) (h : nonZero l[j] = true) : zeroE l = false := by
  unfold zeroE
  rw [Bool.not_eq_false', List.any_eq_true]
  exact ⟨l[j], List.getElem_mem hj, h⟩
theorem zeroE_none (l : Bytes) (h : ∀ x ∈ l, nonZero x = false) : zeroE l = true := by
  unfold zeroE
  rw [Bool.not_eq_true', List.any_eq_false]
  intro x hx; rw [h x hx]; simp
theorem refZero_any (A : Option Addr) (n c : Nat) (l : Bytes) (w : World) (hn : l.length = n) (hl : n ≤ 140737488351232) (hr : Rd w A l) :
    Calls Tryz.prog 79 #[.slice A n c] w fun e w' => e = .returned (.bool (zeroE l)) ∧ w = w' := by
  subst hn
  go_enter Tryz.func79, Tryz.ntmps79
  go_wp2
  go_loop [3] (fun i => ∃ j : Nat, j ≤ l.length ∧ i = .int .i64 (j : Int) ∧ Hidden (∀ x ∈ l.take j, nonZero x = false)) (fun i => l.length - (intOf i).toNat)
  case atStart => exact ⟨0, Nat.zero_le _, rfl, ⟨by simp⟩⟩
  case round =>
    obtain ⟨j, hj, rfl, hno⟩ := hrel
    by_cases hlt : j < l.length
    · obtain ⟨b, off, rfl, hc⟩ := hr j (by omega)
      have hz := Hidden.mk (zeroE_at l j hlt)
      have hnext : Hidden (nonZero l[j] = false → ∀ x ∈ l.take (j + 1), nonZero x = false) := ⟨fun h x hx => by
        rw [List.take_succ_eq_append_getElem hlt, List.mem_append, List.mem_singleton] at hx
        rcases hx with hx | rfl
        · exact hno.out x hx
        · exact h⟩
      generalize l[j] = x at *
      have k0 : (0 : Int) ≤ j := by omega
      have k1 : (j : Int) < l.length := by omega
      cases hx : nonZero x with
      | true =>
        have hq : ((x.toNat : Int) != 0) = true := by rw [bv_bne]; exact hx
        go_wp2
        go_ret
        exact ⟨ret_bool (hz.out hx).symm, rfl⟩
      | false =>
        have hq : ((x.toNat : Int) != 0) = false := by rw [bv_bne]; exact hx
        have HN := Hidden.mk (hnext.out hx)
        clear hnext
        go_wp2
        go_round
        case rel => exact ⟨j + 1, by omega, by go_num, HN⟩
        case measure => simp [intOf]; omega
    · obtain rfl : j = l.length := by omega
      have hz := Hidden.mk (zeroE_none l (by have := hno.out; rwa [List.take_of_length_le (Nat.le_refl _)] at this))
      go_wp2
      go_ret
      exact ⟨ret_bool hz.out.symm, rfl⟩
theorem hd_get (r : Bytes) (h : 0 < r.length) : r[0] = rHd r := by
  cases r with
  | nil => simp at h
  | cons x y => rfl
theorem refRootAt_ok (p off n c k : Nat) (w : World) (hk : k < 8) (hn : 288 ≤ n) (hc : n ≤ c) :
    Calls Tryz.prog 80 #[.slice (some ⟨p, off, none⟩) n c, .int .i64 (k : Int)] w fun e w' => e = .returned (.slice (some ⟨p, off + (200 + 11 * k), none⟩) 11 (c - (200 + 11 * k))) ∧ w = w' := by
  have s1 : IntKind.i64.wrap (11 * (k : Int)) = 11 * (k : Int) := IntWalk.i64_in _ (by omega)
  have s2 : IntKind.i64.wrap (200 + 11 * (k : Int)) = ((200 + 11 * k : Nat) : Int) := by rw [IntWalk.i64_in _ (by omega)]; omega
  have s3 : IntKind.i64.wrap (211 + 11 * (k : Int)) = ((211 + 11 * k : Nat) : Int) := by rw [IntWalk.i64_in _ (by omega)]; omega
  have hcut := run_cut p off n c (200 + 11 * k) (211 + 11 * k) (by omega) (by omega) (by omega)
  have e1 : 211 + 11 * k - (200 + 11 * k) = 11 := by omega
  rw [e1] at hcut
  generalize 200 + 11 * k = o1 at *
  generalize 211 + 11 * k = o2 at *
  go_enter Tryz.func80, Tryz.ntmps80
  go_wp2_with fail
  go_ret
  exact ⟨rfl, rfl⟩
theorem fourAt_new (w : World) (f : Obj) (a b c d : Int) (t : TypeId) : FourAt ((w.alloc f).alloc (.cells #[.int .i64 a, .int .i64 b, .int .i64 c, .int .i64 d] t)) (w.heap.size + 1) a b c d := by
  have h := heap_alloc_new (w.alloc f) (.cells #[.int .i64 a, .int .i64 b, .int .i64 c, .int .i64 d] t)
  rw [show (w.alloc f).heap.size = w.heap.size + 1 by simp] at h
  unfold FourAt
  simp only [World.cell?]
  rw [h]
  exact ⟨rfl, rfl, rfl, rfl⟩
set_option maxRecDepth 100000 in
theorem refEntry_ok (A : Option Addr) (n c : Nat) (l : Bytes) (k : Nat) (w : World) (hn : l.length = n) (hl : 200 ≤ n) (hnc : n ≤ c) (hrd : Rd w A l) (hk : k < 40) :
    Calls Tryz.prog 29 #[.slice A n c, .int .i64 ((k : Int) + 1)] w fun e w' => e = .returned (.tuple #[entR ((k : Int) + 1) (rawE l k), .bool (hasE (rawE l k))]) ∧ Below w.heap.size w w' := by
  have hRl := rawE_len l k hk (by omega)
  obtain ⟨p, off, rfl, hpl⟩ := hrd.lt (by omega)
  have s1 : IntKind.i64.wrap ((k : Int) + 1 - 1) = (k : Int) := by rw [IntWalk.i64_in _ (by omega)]; omega
  have s2 : IntKind.i64.wrap (5 * (k : Int)) = ((5 * k : Nat) : Int) := by rw [IntWalk.i64_in _ (by omega)]; omega
  have s3 : IntKind.i64.wrap (((5 * k : Nat) : Int) + 1) = ((5 * k + 1 : Nat) : Int) := by rw [IntWalk.i64_in _ (by omega)]; omega
  have s4 : IntKind.i64.wrap (((5 * k : Nat) : Int) + 3) = ((5 * k + 3 : Nat) : Int) := by rw [IntWalk.i64_in _ (by omega)]; omega
  have s5 : IntKind.i64.wrap (((5 * k : Nat) : Int) + 5) = ((5 * k + 5 : Nat) : Int) := by rw [IntWalk.i64_in _ (by omega)]; omega
  have hcut1 := run_cut p off n c (5 * k + 1) (5 * k + 3) (by omega) (by omega) (by omega)
  have hcut3 := run_cut p off n c (5 * k + 3) (5 * k + 5) (by omega) (by omega) (by omega)
  rw [show 5 * k + 3 - (5 * k + 1) = 2 by omega] at hcut1
  rw [show 5 * k + 5 - (5 * k + 3) = 2 by omega] at hcut3
  have k0 : ((5 * k : Nat) : Int) < n := by omega
  have HB : Hidden (∀ W, Below w.heap.size w W → W.cell? ⟨p, off + 5 * k, none⟩ = some (bv (rHd (rawE l k)))) := ⟨fun W hW => by
    have hq := rawE_rd (hrd.below hW) k hk (by omega)
    rw [Option.map_some, Addr.add_lit] at hq
    have h0 := hq.at_ 0 (by rw [hRl]; omega)
    have hh : (rawE l k)[0]'(by omega) = rHd (rawE l k) := hd_get _ _
    rw [hh] at h0
    exact h0⟩
  have H1 : Hidden (∀ W cap, Below w.heap.size w W → Calls Tryz.prog 95 #[.slice (some ⟨p, off + (5 * k + 1), none⟩) 2 cap] W fun e w' => e = .returned (.int .i64 (rAt (rawE l k) : Int)) ∧ W = w') := ⟨fun W cap hW => by
    have h := ((rawE_rd (hrd.below hW) k hk (by omega)).cut 1 2 (by omega))
    rw [Option.map_some, Addr.add_lit, Option.map_some, Addr.add_lit, Nat.add_assoc] at h
    exact number_any _ 2 cap _ W (by simp; omega) (by omega) h⟩
  have H3 : Hidden (∀ W cap, Below w.heap.size w W → Calls Tryz.prog 95 #[.slice (some ⟨p, off + (5 * k + 3), none⟩) 2 cap] W fun e w' => e = .returned (.int .i64 (rLen (rawE l k) : Int)) ∧ W = w') := ⟨fun W cap hW => by
    have h := ((rawE_rd (hrd.below hW) k hk (by omega)).cut 3 2 (by omega))
    rw [Option.map_some, Addr.add_lit, Option.map_some, Addr.add_lit, Nat.add_assoc] at h
    exact number_any _ 2 cap _ W (by simp; omega) (by omega) h⟩
  have HR : Hidden (entR ((k : Int) + 1) (rawE l k) = .agg #[.int .i64 ((k : Int) + 1), .int .i64 (rAt (rawE l k)), .int .i64 (rLen (rawE l k)), .int .i64 (rTag (rawE l k))] ∧ rTag (rawE l k) = ((rHd (rawE l k)).toNat : Int) - 1 ∧ hasE (rawE l k) = (((rHd (rawE l k)).toNat : Int) != 0)) := ⟨rfl, rfl, (bv_bne _).symm⟩
  have hW : Below w.heap.size w (w.alloc (.cells #[.int .i64 0, .int .i64 0, .int .i64 0, .int .i64 0] 66)) := (Below.refl _ _).alloc (Nat.le_refl _) _
  have c0 := HB.out _ hW
  generalize rawE l k = r at *
  generalize 5 * k + 1 = o1 at *
  generalize 5 * k + 3 = o3 at *
  generalize 5 * k + 5 = o5 at *
  generalize 5 * k = o at *
  clear hrd hW hRl
  generalize rHd r = hd at *
  generalize (rAt r : Int) = b1 at *
  generalize (rLen r : Int) = b2 at *
  have hx := u8_lt hd
  have hw0 : IntKind.i64.wrap (hd.toNat : Int) = (hd.toNat : Int) := IntWalk.i64_in _ (by omega)
  have hw1 : IntKind.i64.wrap ((hd.toNat : Int) - 1) = (hd.toNat : Int) - 1 := IntWalk.i64_in _ (by omega)
  go_enter Tryz.func29, Tryz.ntmps29
  go_wp2_with fail
  generalize (hd.toNat : Int) - 1 = tg at *
  have hB2 : Below w.heap.size w ((w.alloc (.cells #[.int .i64 0, .int .i64 0, .int .i64 0, .int .i64 0] 66)).alloc (.cells #[.int .i64 ((k : Int) + 1), .int .i64 0, .int .i64 0, .int .i64 tg] 66)) := ((Below.refl _ _).alloc (Nat.le_refl _) _).alloc (by simp) _
  refine (H1.out _ _ hB2).mono ?_
  rintro e w1 ⟨rfl, rfl⟩
  go_wp2_with fail
  have hB3 : Below w.heap.size w ((w.alloc (.cells #[.int .i64 0, .int .i64 0, .int .i64 0, .int .i64 0] 66)).alloc (.cells #[.int .i64 ((k : Int) + 1), .int .i64 b1, .int .i64 0, .int .i64 tg] 66)) := ((Below.refl _ _).alloc (Nat.le_refl _) _).alloc (by simp) _
  refine (H3.out _ _ hB3).mono ?_
  rintro e w1 ⟨rfl, rfl⟩
  have hB4 : Below w.heap.size w ((w.alloc (.cells #[.int .i64 0, .int .i64 0, .int .i64 0, .int .i64 0] 66)).alloc (.cells #[.int .i64 ((k : Int) + 1), .int .i64 b1, .int .i64 b2, .int .i64 tg] 66)) := ((Below.refl _ _).alloc (Nat.le_refl _) _).alloc (by simp) _
  have dS : ∀ f, ((w.alloc f).alloc (.cells #[.int .i64 ((k : Int) + 1), .int .i64 b1, .int .i64 b2, .int .i64 tg] 66)).cell? ⟨p, off + o, none⟩ = some (bv hd) ∧ FourAt ((w.alloc f).alloc (.cells #[.int .i64 ((k : Int) + 1), .int .i64 b1, .int .i64 b2, .int .i64 tg] 66)) (w.heap.size + 1) ((k : Int) + 1) b1 b2 tg := fun f => ⟨HB.out _ (((Below.refl _ _).alloc (Nat.le_refl _) _).alloc (by simp) _), fourAt_new w f _ _ _ _ _⟩
  unfold FourAt at dS
  have hwp : w.cell? ⟨p, off + o, none⟩ = some (bv hd) := HB.out _ (Below.refl _ _)
  clear hB2 hB3
  go_wp2_with fail
  go_region_held3 (fun W => W.cell? ⟨p, off + o, none⟩ = some (bv hd) ∧ W.cell? ⟨w.heap.size + 1, 0, none⟩ = some (.int .i64 ((k : Int) + 1)) ∧ W.cell? ⟨w.heap.size + 1, 1, none⟩ = some (.int .i64 b1) ∧ W.cell? ⟨w.heap.size + 1, 2, none⟩ = some (.int .i64 b2) ∧ W.cell? ⟨w.heap.size + 1, 3, none⟩ = some (.int .i64 tg)) (first | exact hwp | exact dS _ | exact (dS _).1 | exact (dS _).2.1 | exact (dS _).2.2.1 | exact (dS _).2.2.2.1 | exact (dS _).2.2.2.2) (fail)
  go_wp2_with fail
  refine bodyPost_ret (v := .tuple #[.agg #[.int .i64 ((k : Int) + 1), .int .i64 b1, .int .i64 b2, .int .i64 tg], .bool ((hd.toNat : Int) != 0)]) ?_ rfl ?_
  · simp [results, Tryz.f29, go_sem]
  · refine ⟨?_, (((Below.refl _ _).alloc (Nat.le_refl _) _).alloc (by simp) _).drew⟩
    obtain ⟨h1, h2, h3⟩ := HR.out
    rw [h1, h3, h2]
end Go.Proofs.YtbnobjlphmkgeaaGreatDoor
/- The reference on images: copied, Wipe. -/
namespace Go.Proofs.YtbnobjlphmkgeaaGreatDoor
open Go.RowKit

set_option maxRecDepth 100000 in
theorem refCopied_ok (p off n c : Nat) (l : Bytes) (w : World) (hn : l.length = n) (h1 : 1 ≤ n) (hl : n ≤ 140737488351232) (hr : Rd w (some ⟨p, off, none⟩) l) :
    Calls Tryz.prog 143 #[.slice (some ⟨p, off, none⟩) n c] w fun e w' => ∃ g cap, e = .returned (.slice (some ⟨g, 0, none⟩) n cap) ∧ w.heap.size ≤ g ∧ n ≤ cap ∧ Row w' 5 g cap l ∧ Below w.heap.size w w' := by
  obtain ⟨i0, hi0, hz0, hz1, hz2⟩ := info_parts byte_info
  go_enter Tryz.func143, Tryz.ntmps143
  go_wp2_with (at_builtin; refine wpList_append_own _ rfl (.tmp 4) (.tmp 5) _ rfl w.heap.size 5 i0 _ 1 1 Tryz.underlying22 hi0 hz0 hz1 hz2 rfl (by decide) (.slice none 0 0) 0 [] rfl (World.ownsRow_nil _ _ _ _) ⟨p, off, none⟩ n c (l.map bv) rfl (by simp; omega) hr.cells one_bv (by simp only [maxLen]; omega) (by omega) (Nat.le_refl _) ?_; intro v1 w1 hown1 hg1 hnn1)
  have hb1 : Below w.heap.size w w1 := (Below.refl _ _).grown hg1 (Nat.le_refl _) (fun k hk => by simp [Value.ownBlock] at hk)
  have hO : Own w1 w.heap.size 5 v1 l := by unfold Own; simpa [hn] using hown1
  have hne : v1 ≠ .slice none 0 0 := fun h => by
    subst h
    rcases hO.2 with ⟨_, h0⟩ | ⟨g, cap, cur, h, _⟩
    · omega
    · cases h
  obtain ⟨g, cap, hv, hbg, hrow⟩ := Row.of_own hO hne
  rw [hn] at hv
  subst hv
  have hcap := hrow.le.1
  clear hO hne hown1 hg1 hnn1
  go_ret
  exact ⟨g, cap, rfl, hbg, by omega, hrow, hb1⟩
set_option maxRecDepth 100000 in
theorem refWipe_ok (p off n c : Nat) (l : Bytes) (a m : Nat) (w : World) (hn : l.length = n) (h1 : 1 ≤ n) (hl : n ≤ 140737488351232) (hm : a + m ≤ n) (hr : Rd w (some ⟨p, off, none⟩) l) :
    Calls Tryz.prog 63 #[.slice (some ⟨p, off, none⟩) n c, .int .i64 (a : Int), .int .i64 (m : Int)] w fun e w' => ∃ g cap, e = .returned (.slice (some ⟨g, 0, none⟩) n cap) ∧ w.heap.size ≤ g ∧ n ≤ cap ∧ Row w' 5 g cap (splice l a (List.replicate m 0)) ∧ Below w.heap.size w w' := by
  go_enter Tryz.func63, Tryz.ntmps63
  go_wp2_with fail
  refine (refCopied_ok p off n c l _ hn h1 hl hr).mono ?_
  rintro e w1 ⟨g, cap, rfl, hg, hcap, hrow, hb1⟩
  have HZ : Hidden (∀ j, j < m → splice l a ((List.replicate m 0).take j) = splice l a ((List.replicate m 0).take j) ∧ (splice l a ((List.replicate m (0 : UInt8)).take j)).set (a + j) 0 = splice l a ((List.replicate m 0).take (j + 1))) := ⟨fun j hj => ⟨rfl, by
    have := splice_take_succ l (List.replicate m 0) a j (by simpa using hj) (by simp; omega)
    simpa using this⟩⟩
  have HL : Hidden (∀ j, j ≤ m → (splice l a ((List.replicate m 0).take j)).length = n) := ⟨fun j hj => by rw [splice_len _ _ _ (by simp; omega)]; exact hn⟩
  have HF : Hidden (splice l a ((List.replicate m 0).take m) = splice l a (List.replicate m 0)) := ⟨by rw [List.take_of_length_le (by simp)]⟩
  have hrow0 : Row w1 5 g cap (splice l a ((List.replicate m 0).take 0)) := by simpa [splice] using hrow
  generalize hS : (fun j => splice l a ((List.replicate m 0).take j)) = S at *
  have hSj : ∀ j, splice l a ((List.replicate m 0).take j) = S j := fun j => by rw [← hS]
  simp only [hSj] at HZ HL HF hrow0
  clear hS hSj hrow hr
  go_wp2_with fail
  go_loopg [8] m (fun q i wr => ∃ j : Nat, j ≤ m ∧ q = m - j ∧ i = .int .i64 (j : Int) ∧ Below w.heap.size w wr ∧ Row wr 5 g cap (S j))
  case atStart => exact ⟨0, by omega, rfl, rfl, hb1, hrow0⟩
  case round =>
    obtain ⟨j, hj, rfl, rfl, hbel, hrw⟩ := hrel
    by_cases hlt : j < m
    · have hsl := HL.out j hj
      have hcell := hrw.cell (a + j) (by omega)
      have hfr := hrw.frozen (a + j)
      have hst := hrw.store (a + j) (by omega) 0
      rw [(HZ.out j hlt).2] at hst
      have hbn := hbel.setCell (p := ⟨g, a + j, none⟩) hg (bv 0)
      have hbv : bv 0 = .int .u8 0 := rfl
      rw [hbv] at hst hbn
      have q1 : IntKind.i64.wrap ((a : Int) + j) = (a : Int) + j := IntWalk.i64_in _ (by omega)
      have k0 : (0 : Int) ≤ (a : Int) + j := by omega
      have k1 : (a : Int) + j < n := by omega
      have k2 : (j : Int) < m := by omega
      generalize (S j)[a + j] = u at hcell
      clear hbv hrw hsl
      go_wp2_with fail
      go_roundg (m - (j + 1))
      case measure => omega
      case rel => exact ⟨j + 1, by omega, rfl, by go_num, hbn, hst⟩
    · obtain rfl : j = m := by omega
      go_wp2_with fail
      go_ret
      exact ⟨g, cap, rfl, hg, hcap, HF.out ▸ hrw, hbel⟩
end Go.Proofs.YtbnobjlphmkgeaaGreatDoor
/- The reference's device in memory: what lies where; step, Fail. -/
namespace Go.Proofs.YtbnobjlphmkgeaaGreatDoor
open Go.RowKit Go.Maps Go.ChangeMaps

/-- where it lies -/
structure RLay where
  gs : Nat
  cs : Nat
  vl : Value
  sb : Nat → Nat
  sc : Nat → Nat
  mb : Nat → Nat
  mc : Nat → Nat
section
variable {w w' : World} {F F' : Nat → Prop} {d : Nat} {D : Dv} {Y : RLay}
end
end Go.Proofs.YtbnobjlphmkgeaaGreatDoor
/- Package view: Write where there are bytes to lay. -/
namespace Go.Proofs.YtbnobjlphmkgeaaGreatDoor
open Go.RowKit Go.Maps Go.ChangeMaps

section
variable {w : World} {G : Nat → Prop} {v p : Nat} {K N : Bytes} {S : Nat → Bool}
end
end Go.Proofs.YtbnobjlphmkgeaaGreatDoor
/- Package view: Write of whatever, in one form. -/
namespace Go.Proofs.YtbnobjlphmkgeaaGreatDoor
open Go.RowKit Go.Maps Go.ChangeMaps

section
variable {w : World} {G : Nat → Prop} {v p : Nat} {K N : Bytes} {S : Nat → Bool}
end
end Go.Proofs.YtbnobjlphmkgeaaGreatDoor
/- Pages: a commit of pages that are right, while the power stays, says nothing. No program in sight. -/
namespace Go.Proofs.YtbnobjlphmkgeaaGreatDoor
open Go.RowKit

end Go.Proofs.YtbnobjlphmkgeaaGreatDoor
/- Package view: Read. -/
namespace Go.Proofs.YtbnobjlphmkgeaaGreatDoor
open Go.RowKit Go.Maps Go.ChangeMaps

section
variable {w : World} {G : Nat → Prop} {v p cnt : Nat} {K N : Bytes} {f : Nat → Option Value}
end
end Go.Proofs.YtbnobjlphmkgeaaGreatDoor
/- ViewParts: the plain law: written in parts is written at once. -/
namespace Go.Proofs.YtbnobjlphmkgeaaGreatDoor
open Go.RowKit Go.Maps Go.ChangeMaps

section
variable {N : Bytes} {x k : Nat} {b : Bytes}
end
end Go.Proofs.YtbnobjlphmkgeaaGreatDoor
/- Slices of the call's own, element by element. -/
namespace Go.Proofs.YtbnobjlphmkgeaaGreatDoor
open Go.RowKit

theorem flat_at {X : Type} (f : X → List Value) (C : Nat) (hC : ∀ x, (f x).length = C) : ∀ (L : List X) (i : Nat) (h : i < L.length) (q : Nat), q < C → (L.flatMap f)[i * C + q]? = (f L[i])[q]?
  | [], i, h, _, _ => absurd h (by simp)
  | x :: r, 0, _, q, hq => by
    rw [List.flatMap_cons, Nat.zero_mul, Nat.zero_add, List.getElem?_append_left (by rw [hC]; exact hq)]; rfl
  | x :: r, i + 1, h, q, hq => by
    have hx := hC x
    rw [List.flatMap_cons, List.getElem?_append_right (by rw [hx, Nat.succ_mul]; omega), hx, show (i + 1) * C + q - C = i * C + q by rw [Nat.succ_mul]; omega]
    exact flat_at f C hC r i (by simpa using h) q hq
section
variable {X : Type} {f : X → List Value} {C : Nat} {w : World} {base : Nat} {e : TypeId} {v : Value} {A : Option Addr} {n c : Nat} {L : List X}
theorem own_at (hC : ∀ x, (f x).length = C) (h : w.ownsRow base e C (.slice A n c) n (L.flatMap f)) (k : Nat) (hk : k < L.length) (h0 : 0 < n) :
    ∃ g off, A = some ⟨g, off, none⟩ ∧ base ≤ g ∧ g < w.heap.size ∧ ∀ q u, (f L[k])[q]? = some u → w.cell? ⟨g, off + k * C + q, none⟩ = some u := by
  rcases h.2 with ⟨he, hn0⟩ | ⟨g, cap, cur, he, hb, hh, _⟩
  · omega
  · injection he with he
    subst he
    refine ⟨g, 0, rfl, hb, (Array.getElem?_eq_some_iff.1 hh).1, fun q u hq => ?_⟩
    have hqC : q < C := by rw [← hC L[k]]; exact (List.getElem?_eq_some_iff.1 hq).1
    have := h.cells (g := g) rfl (k * C + q) u (by rw [flat_at f C hC L k hk q hqC]; exact hq)
    rw [Addr.add_lit] at this
    rw [Nat.add_assoc]
    exact this
theorem own_split (h : w.ownsRow base e C v n (L.flatMap f)) : ∃ A c, v = .slice A n c ∧ n ≤ c ∧ c ≤ maxLen := by
  rcases h.2 with ⟨rfl, rfl⟩ | ⟨g, cap, cur, rfl, _, hh, hc, hm, _⟩
  · exact ⟨none, 0, rfl, Nat.le_refl _, by simp [maxLen]⟩
  · exact ⟨_, cap, rfl, hc, hm⟩
theorem own_rdX3 (hC : ∀ x, (f x).length = C) (hn : L.length = n) (h : w.ownsRow base e C (.slice A n c) n (L.flatMap f)) : RdX f C w A L := fun i hi => by
  obtain ⟨g, off, hA, _, _, hc⟩ := own_at hC h i hi (by omega)
  exact ⟨g, off, hA, hc⟩
end
end Go.Proofs.YtbnobjlphmkgeaaGreatDoor
/- vaultsame.Ints of lists that are the same. -/
namespace Go.Proofs.YtbnobjlphmkgeaaGreatDoor
open Go.RowKit

def ncell (i : Nat) : List Value := [.int .i64 (i : Int)]
end Go.Proofs.YtbnobjlphmkgeaaGreatDoor
/- Package view: Cut. -/
namespace Go.Proofs.YtbnobjlphmkgeaaGreatDoor
open Go.RowKit Go.Maps Go.ChangeMaps

end Go.Proofs.YtbnobjlphmkgeaaGreatDoor
/- Package view: Abort. -/
namespace Go.Proofs.YtbnobjlphmkgeaaGreatDoor
open Go.RowKit Go.Maps Go.ChangeMaps

section
variable {w : World} {G : Nat → Prop} {v p cnt : Nat} {K N : Bytes} {f : Nat → Option Value}
end
end Go.Proofs.YtbnobjlphmkgeaaGreatDoor
/- Package view: Commit. -/
namespace Go.Proofs.YtbnobjlphmkgeaaGreatDoor
open Go.RowKit Go.Maps Go.ChangeMaps

section
variable {w0 w : World} {F G : Nat → Prop} {v p d st n : Nat} {D : Dv} {K N : Bytes} {S : Nat → Bool}
end
end Go.Proofs.YtbnobjlphmkgeaaGreatDoor
/- ViewBack: the plain law: pages of bytes, written, committed, opened. No program in sight. -/
namespace Go.Proofs.YtbnobjlphmkgeaaGreatDoor
open Go.RowKit Go.Maps Go.ChangeMaps

/-- a page of bytes -/
def pgB (N : Bytes) (k : Nat) : Bytes := (N.drop (k * 32)).take 32
end Go.Proofs.YtbnobjlphmkgeaaGreatDoor
/- ViewBack: what the law keeps at hand. -/
namespace Go.Proofs.YtbnobjlphmkgeaaGreatDoor
open Go.RowKit Go.Maps Go.ChangeMaps

section
variable {w0 w w' : World} {F F' G G' : Nat → Prop} {d p v gx cx gy cy nn n st : Nat} {D : Dv} {M R N K : Bytes} {S : Nat → Bool}
end
end Go.Proofs.YtbnobjlphmkgeaaGreatDoor
/- PutRoot at any arguments, and what the difference to the empty image is. -/
namespace Go.Proofs.YtbnobjlphmkgeaaGreatDoor
open Go.RowKit

end Go.Proofs.YtbnobjlphmkgeaaGreatDoor
/- The reference on images: Entries, Roots. -/
namespace Go.Proofs.YtbnobjlphmkgeaaGreatDoor
open Go.RowKit

set_option maxRecDepth 100000 in
theorem refEntries_ok (A : Option Addr) (n c : Nat) (l : Bytes) (w : World) (hn : l.length = n) (hr : rightB n = true) (hnc : n ≤ c) (hrd : Rd w A l) :
    Calls Tryz.prog 85 #[.slice A n c] w fun e w' => ∃ v, e = .returned v ∧ w'.ownsRow w.heap.size 66 4 v (entriesL l).length ((entriesL l).flatMap ecells) ∧ Below w.heap.size w w' := by
  have hnb := rightB_true.1 hr
  obtain ⟨i2, hi2, hx0, hx1, hx2⟩ := info_parts entry_info
  have HF : Hidden (∀ k : Nat, k < 40 → ∀ W, Below w.heap.size w W → Calls Tryz.prog 29 #[.slice A n c, .int .i64 ((k : Int) + 1)] W fun e w' => e = .returned (.tuple #[entV ((k : Int) + 1) (rAt (rawE l k)) (rLen (rawE l k)) (rTag (rawE l k)), .bool (hasE (rawE l k))]) ∧ Below W.heap.size W w') :=
    ⟨fun k hk W hW => refEntry_ok A n c l k W hn (by omega) hnc (hrd.below hW) hk⟩
  have HL : Hidden (entriesL l = entsL (fun k => hasE (rawE l k)) (rawE l) 40) := ⟨rfl⟩
  generalize rawE l = R at *
  clear hrd hn
  go_enter Tryz.func85, Tryz.ntmps85
  go_wp2_with fail
  go_loopg [3, 4] 40 (fun m v h wr => ∃ k : Nat, k ≤ 40 ∧ m = 40 - k ∧ h = .int .i64 ((k : Int) + 1) ∧ Below w.heap.size w wr ∧ wr.ownsRow w.heap.size 66 4 v (entsL (fun k => hasE (R k)) R k).length ((entsL (fun k => hasE (R k)) R k).flatMap ecells))
  case atStart => exact ⟨0, by omega, rfl, rfl, Below.refl _ _, World.ownsRow_nil _ _ _ _⟩
  case round =>
    obtain ⟨k, hk, rfl, rfl, hbel, hown⟩ := hrel
    by_cases hlt : k < 40
    · have k0 : ((k : Int) + 1) ≤ 40 := by omega
      have s1 : IntKind.i64.wrap ((k : Int) + 1 + 1) = (k : Int) + 1 + 1 := IntWalk.i64_in _ (by omega)
      have hll := entsL_len (fun k => hasE (R k)) R k
      have HS := Hidden.mk (entsL_succ (fun k => hasE (R k)) R k)
      have HG := Hidden.mk (HF.out k hlt wr hbel)
      have HC : Hidden (ecells (((k : Int) + 1), R k) = [.int .i64 ((k : Int) + 1), .int .i64 (rAt (R k)), .int .i64 (rLen (R k)), .int .i64 (rTag (R k))]) := ⟨rfl⟩
      generalize entsL (fun k => hasE (R k)) R k = L at *
      go_wp2_with fail
      refine HG.out.mono ?_
      rintro e w1 ⟨rfl, hb1⟩
      generalize (rAt (R k) : Int) = a1 at *
      generalize (rLen (R k) : Int) = a2 at *
      generalize rTag (R k) = a3 at *
      have hB1 := hbel.trans (hb1.mono hbel.size)
      have hown1 := own_below hown hb1
      have hal : Below w1.heap.size w1 (w1.alloc (.cells #[.int .i64 ((k : Int) + 1), .int .i64 a1, .int .i64 a2, .int .i64 a3] 66)) := (Below.refl _ _).alloc (Nat.le_refl _) _
      have hB2 : Below w.heap.size w (w1.alloc (.cells #[.int .i64 ((k : Int) + 1), .int .i64 a1, .int .i64 a2, .int .i64 a3] 66)) := hB1.alloc hB1.size _
      have hown2 := own_below hown1 hal
      have hbx : (w1.alloc (.cells #[.int .i64 ((k : Int) + 1), .int .i64 a1, .int .i64 a2, .int .i64 a3] 66)).heap[w1.heap.size]? = some (.cells #[.int .i64 ((k : Int) + 1), .int .i64 a1, .int .i64 a2, .int .i64 a3] 66 (0, 0)) := heap_alloc_new w1 _
      clear hal hown hown1 hbel hB1 hb1
      cases hE : hasE (R k) with
      | false =>
        rw [hE] at HS
        go_wp2_with fail
        generalize w1.alloc (.cells #[.int .i64 ((k : Int) + 1), .int .i64 a1, .int .i64 a2, .int .i64 a3] 66) = w2 at *
        go_roundg (40 - (k + 1))
        case measure => omega
        case rel => exact ⟨k + 1, by omega, rfl, by go_num, hB2, by rw [HS.out]; simpa using hown2⟩
      | true =>
        rw [hE] at HS
        clear hE hbx
        have hnb : ((w1.alloc (.cells #[.int .i64 ((k : Int) + 1), .int .i64 a1, .int .i64 a2, .int .i64 a3] 66)).alloc (.cells #[.int .i64 ((k : Int) + 1), .int .i64 a1, .int .i64 a2, .int .i64 a3] 66)).heap[w1.heap.size + 1]? = some (.cells #[.int .i64 ((k : Int) + 1), .int .i64 a1, .int .i64 a2, .int .i64 a3] 66) := by
          have := heap_alloc_new (w1.alloc (.cells #[.int .i64 ((k : Int) + 1), .int .i64 a1, .int .i64 a2, .int .i64 a3] 66)) (.cells #[.int .i64 ((k : Int) + 1), .int .i64 a1, .int .i64 a2, .int .i64 a3] 66)
          rwa [World.size_alloc] at this
        have HNB := Hidden.mk hnb
        have HOW := Hidden.mk hown2
        have HBB := Hidden.mk hB2
        clear hnb hown2 hB2
        go_wp2_with (at_builtin; refine wpList_append_lies _ rfl (.tmp 18) (.tmp 20) _ rfl w.heap.size 66 i2 _ 4 32 Tryz.underlying141 hi2 hx0 hx1 hx2 rfl (by decide) u3 L.length (L.flatMap ecells) rfl (own_below HOW.out ((Below.refl _ _).alloc (Nat.le_refl _) _)) ⟨w1.heap.size + 1, 0, none⟩ 1 1 [.int .i64 ((k : Int) + 1), .int .i64 a1, .int .i64 a2, .int .i64 a3] rfl rfl (World.news_of_block (cs := #[.int .i64 ((k : Int) + 1), .int .i64 a1, .int .i64 a2, .int .i64 a3]) (t := 66) (fr := (0, 0)) HNB.out) (by simp [Value.oneCell']) (by omega) (by simp only [maxLen]; omega) (by omega) (by have := HBB.out.size; simp at this ⊢; omega) (w1.heap.size + 2) (by simp) ?_; intro g8 cap8 w8 hown8 hg8 hat8 hlt8)
        have hown2 := HOW.out
        have hB2 := HBB.out
        have hgW := grown_trans' ((Below.refl _ _).alloc (Nat.le_refl _) _) hg8
        have hB8 : Below w.heap.size w w8 := hB2.grown hgW hB2.size (fun q hq => (hown2.lt q hq).1)
        clear hown2 hB2 hg8 hgW hat8 hlt8
        go_roundg (40 - (k + 1))
        case measure => omega
        case rel => exact ⟨k + 1, by omega, rfl, by go_num, hB8, by rw [HS.out]; simpa [HC.out] using hown8⟩
    · obtain rfl : k = 40 := by omega
      go_wp2_with fail
      go_ret
      exact ⟨_, rfl, by rw [HL.out]; exact hown, hbel⟩

set_option maxRecDepth 100000 in
theorem refRoots_ok (pb ob n c : Nat) (l : Bytes) (w : World) (hn : l.length = n) (hr : rightB n = true) (hnc : n ≤ c) (hrd : Rd w (some ⟨pb, ob, none⟩) l) :
    Calls Tryz.prog 71 #[.slice (some ⟨pb, ob, none⟩) n c] w fun e w' => ∃ v, e = .returned v ∧ w'.ownsRow w.heap.size 128 2 v (rootsL l).length ((rootsL l).flatMap rcells) ∧ Below w.heap.size w w' := by
  have hnb := rightB_true.1 hr
  obtain ⟨i2, hi2, hx0, hx1, hx2⟩ := info_parts root_info
  have HRAW : Hidden (∀ k : Nat, k < 8 → ∀ W, Below w.heap.size w W → Rd W (some ⟨pb, ob + (200 + 11 * k), none⟩) (rawR l k)) := ⟨fun k hk W hW => by
    have := rawR_rd (hrd.below hW) k hk (by omega)
    rwa [Option.map_some, Addr.add_lit] at this⟩
  have HLEN : Hidden (∀ k : Nat, k < 8 → (rawR l k).length = 11) := ⟨fun k hk => rawR_len l k hk (by omega)⟩
  have HL : Hidden (rootsL l = rootsF (rawR l) 8) := ⟨rfl⟩
  generalize rawR l = S at *
  clear hrd hn
  go_enter Tryz.func71, Tryz.ntmps71
  go_wp2_with fail
  go_loopg [3, 4] 8 (fun m v i wr => ∃ k : Nat, k ≤ 8 ∧ m = 8 - k ∧ i = .int .i64 (k : Int) ∧ Below w.heap.size w wr ∧ wr.ownsRow w.heap.size 128 2 v (rootsF S k).length ((rootsF S k).flatMap rcells))
  case atStart => exact ⟨0, by omega, rfl, rfl, Below.refl _ _, World.ownsRow_nil _ _ _ _⟩
  case round =>
    obtain ⟨k, hk, rfl, rfl, hbel, hown⟩ := hrel
    by_cases hlt : k < 8
    · have k0 : (k : Int) < 8 := by omega
      have s1 : IntKind.i64.wrap ((k : Int) + 1) = (k : Int) + 1 := IntWalk.i64_in _ (by omega)
      have hll := rootsF_len S k
      have HS := Hidden.mk (rootsF_succ S k)
      have hrw := HRAW.out k hlt wr hbel
      have hlen := HLEN.out k hlt
      obtain ⟨p, off, hA, hpl⟩ := hrw.lt (by omega)
      injection hA with hA
      injection hA with hp1 ho1
      subst hp1
      have HA := Hidden.mk ho1
      rw [ho1] at hrw
      have q10 := hrw.at_ 10 (by omega)
      have g10 : (S k).getD 10 0 = (S k)[10]'(by omega) := by simp [hlen]
      have HP : Hidden (rootP (S k) = (if gotName ((S k).take 8) = true then nmR (S k) else [], ((S k)[10]'(by omega)).toNat)) := ⟨by unfold rootP; rw [g10]⟩
      have HLK := Hidden.mk hlen
      generalize (S k)[10]'(by omega) = x10 at *
      generalize rootsF S k = L at *
      have w10 : IntKind.i64.wrap (x10.toNat : Int) = (x10.toNat : Int) := IntWalk.i64_in _ (by have := u8_lt x10; omega)
      generalize hcc : c - (200 + 11 * k) = cc at *
      have hc8 : 8 ≤ cc := by omega
      have HCC := Hidden.mk hcc
      clear ho1 g10 hcc hlen
      go_wp2_with fail
      refine (refRootAt_ok pb ob n c k _ hlt (by omega) hnc).mono ?_
      rintro e w1 ⟨rfl, rfl⟩
      rw [HA.out, HCC.out]
      go_wp2_with fail
      refine (refZero_any _ 11 _ (S k) _ HLK.out (by omega) hrw).mono ?_
      rintro e w1 ⟨rfl, rfl⟩
      cases hz : zeroE (S k) with
      | true =>
        rw [hz] at HS
        clear hz q10
        go_wp2_with fail
        go_roundg (8 - (k + 1))
        case measure => omega
        case rel => exact ⟨k + 1, by omega, rfl, by go_num, hbel, by rw [HS.out]; simpa using hown⟩
      | false =>
        rw [hz] at HS
        clear hz
        go_wp2_with fail
        refine (refReadName_any (some ⟨pb, off, none⟩) cc ((S k).take 8) _ (by simp [HLK.out]) hc8 (hrw.take 8 (by rw [HLK.out]; omega))).mono ?_
        rintro e w3 ⟨he, rfl⟩
        have hb3 := Below.refl wr.heap.size wr
        have hB3 := hbel.trans (hb3.mono hbel.size)
        have hown3 := own_below hown hb3
        have z10 := (hb3.cell (p := ⟨pb, off + 10, none⟩) hpl).trans q10
        clear hb3 hbel hown q10 hpl hrw
        cases hg : gotName ((S k).take 8)
        all_goals
          rw [hg] at he HP
          first | simp only [Bool.false_eq_true, if_false] at he | simp only [if_true] at he
          subst he
          have HG := Hidden.mk hg
          clear hg
        case false =>
          go_wp2_with (at_builtin; refine wpList_append_lies _ rfl (.tmp 25) (.tmp 32) _ rfl w.heap.size 128 i2 _ 2 24 Tryz.underlying125 hi2 hx0 hx1 hx2 rfl (by decide) u3 L.length (L.flatMap rcells) rfl (own_below hown3 ((Below.refl _ _).alloc (Nat.le_refl _) _)) ⟨wr.heap.size, 0, none⟩ 1 1 [sv [], .int .i64 x10.toNat] rfl rfl (World.news_of_block (cs := #[sv [], .int .i64 x10.toNat]) (t := 128) (fr := (0, 0)) (heap_alloc_new wr _)) (by simp [Value.oneCell']) (by omega) (by simp only [maxLen]; omega) (by omega) (by have := hB3.size; simp; omega) (wr.heap.size + 1) (by simp) ?_; intro g8 cap8 w8 hown8 hg8 hat8 hlt8)
          have hgW := grown_trans' ((Below.refl _ _).alloc (Nat.le_refl _) _) hg8
          have hB8 : Below w.heap.size w w8 := hB3.grown hgW hB3.size (fun q hq => (hown3.lt q hq).1)
          have hpp := HP.out
          simp only [Bool.false_eq_true, if_false] at hpp
          have HPP := Hidden.mk hpp
          clear hown3 hB3 hg8 hgW hat8 hlt8 hpp
          go_roundg (8 - (k + 1))
          case measure => omega
          case rel => exact ⟨k + 1, by omega, rfl, by go_num, hB8, by rw [HS.out, HPP.out]; simpa [rcells] using hown8⟩
        case true =>
          have hpp := HP.out
          simp only [if_true] at hpp
          have HPP := Hidden.mk hpp
          have HNM : Hidden (nmR (S k) = nameAt ((S k).take 8)) := ⟨rfl⟩
          generalize nameAt ((S k).take 8) = nm at *
          clear hpp
          go_wp2_with (at_builtin; refine wpList_append_lies _ rfl (.tmp 25) (.tmp 32) _ rfl w.heap.size 128 i2 _ 2 24 Tryz.underlying125 hi2 hx0 hx1 hx2 rfl (by decide) u3 L.length (L.flatMap rcells) rfl (own_below hown3 ((Below.refl _ _).alloc (Nat.le_refl _) _)) ⟨wr.heap.size, 0, none⟩ 1 1 [sv nm, .int .i64 x10.toNat] rfl rfl (World.news_of_block (cs := #[sv nm, .int .i64 x10.toNat]) (t := 128) (fr := (0, 0)) (heap_alloc_new wr _)) (by simp [Value.oneCell']) (by omega) (by simp only [maxLen]; omega) (by omega) (by have := hB3.size; simp; omega) (wr.heap.size + 1) (by simp) ?_; intro g8 cap8 w8 hown8 hg8 hat8 hlt8)
          have hgW := grown_trans' ((Below.refl _ _).alloc (Nat.le_refl _) _) hg8
          have hB8 : Below w.heap.size w w8 := hB3.grown hgW hB3.size (fun q hq => (hown3.lt q hq).1)
          clear hown3 hB3 hg8 hgW hat8 hlt8
          go_roundg (8 - (k + 1))
          case measure => omega
          case rel => exact ⟨k + 1, by omega, rfl, by go_num, hB8, by rw [HS.out, HPP.out, HNM.out]; simpa [rcells] using hown8⟩
    · obtain rfl : k = 8 := by omega
      go_wp2_with fail
      go_ret
      exact ⟨_, rfl, by rw [HL.out]; exact hown, hbel⟩

end Go.Proofs.YtbnobjlphmkgeaaGreatDoor
/- The reference on images: PutEntry. -/
namespace Go.Proofs.YtbnobjlphmkgeaaGreatDoor
open Go.RowKit

theorem refPut_fit (A : Option Addr) (n c : Nat) (l : Bytes) (a x s : Nat) (w : World) (hn : l.length = n) (hl : n ≤ 140737488351232) (hr : Rd w A l) (h1 : 1 ≤ s) (h4 : s ≤ 4) (hx : (x : Int) ≤ mostN (s : Int)) (ha : a + s ≤ n) :
    Calls Tryz.prog 142 #[.slice A n c, .int .i64 (a : Int), .int .i64 (x : Int), .int .i64 (s : Int)] w fun e w' => ∃ A' c', e = .returned (.tuple #[.slice A' n c', .int .i64 0]) ∧ Rd w' A' (splice l a (numB x s)) ∧ Below w.heap.size w w' := by
  have hE : putE n (a : Int) (x : Int) (s : Int) = 0 := by
    unfold putE; rw [if_pos ⟨by omega, by omega, by omega, hx⟩, if_neg (by omega)]
  have hF : putF l (a : Int) (x : Int) (s : Int) = splice l a (numB x s) := by
    unfold putF; rw [hn, if_pos hE]; rfl
  have hL : (splice l a (numB x s)).length = n := by rw [splice_len _ _ _ (by rw [numB_length]; omega)]; exact hn
  refine (refPut_any A n c l a x s w hn hl hr).mono ?_
  rintro e w' ⟨A', c', rfl, hrd, hb⟩
  rw [hF, hE, hL]
  rw [hF] at hrd
  exact ⟨A', c', rfl, hrd, hb⟩
/-- the fault of an entry that is put -/
def entE (n : Nat) (h a len tag : Int) : Nat := if handleB h = false ∨ tagB tag = false ∨ lenB len = false then 1 else if withinB n a len = false then 3 else 0
def entF (l : Bytes) (h a len tag : Int) : Bytes := if entE l.length h a len tag = 0 then putEnt l h a len tag else []
theorem refPutEntry_e1 (A : Option Addr) (n c : Nat) (h a len tag : Int) (w : World) (hbad : handleB h = false ∨ tagB tag = false ∨ lenB len = false) :
    Calls Tryz.prog 62 #[.slice A n c, entV h a len tag] w fun e w' => e = .returned (.tuple #[.slice none 0 0, .int .i64 1]) ∧ Below w.heap.size w w' := by
  have hB : Below w.heap.size w (w.alloc (.cells #[.int .i64 h, .int .i64 a, .int .i64 len, .int .i64 tag] 66)) := (Below.refl _ _).alloc (Nat.le_refl _) _
  unfold entV
  go_enter Tryz.func62, Tryz.ntmps62
  go_wp2_with fail
  refine (ref_handle_any h _).mono ?_
  rintro e w1 ⟨rfl, rfl⟩
  cases hh : handleB h with
  | false =>
    clear hbad hh
    go_wp2_with fail
    go_ret2
    exact ⟨rfl, hB⟩
  | true =>
    rw [hh] at hbad
    have hb2 : tag < 0 ∨ 15 < tag ∨ len < 1 ∨ 1000 < len := by
      rcases hbad with h1 | h1 | h1
      · cases h1
      · have := tagB_false.1 h1; omega
      · have := lenB_false.1 h1; omega
    clear hbad hh
    by_cases t1 : tag < 0
    · clear hb2
      go_wp2_with fail
      go_ret2
      exact ⟨rfl, hB⟩
    · by_cases t2 : 15 < tag
      · clear hb2
        go_wp2_with fail
        go_ret2
        exact ⟨rfl, hB⟩
      · by_cases t3 : len < 1
        · clear hb2
          go_wp2_with fail
          go_ret2
          exact ⟨rfl, hB⟩
        · have t4 : 1000 < len := by omega
          clear hb2
          go_wp2_with fail
          go_ret2
          exact ⟨rfl, hB⟩
theorem refPutEntry_e3 (A : Option Addr) (n c : Nat) (h a len tag : Int) (w : World) (hn : n ≤ 6400) (hh : handleB h = true) (ht : tagB tag = true) (hl : lenB len = true) (hw : withinB n a len = false) :
    Calls Tryz.prog 62 #[.slice A n c, entV h a len tag] w fun e w' => e = .returned (.tuple #[.slice none 0 0, .int .i64 3]) ∧ Below w.heap.size w w' := by
  have hB : Below w.heap.size w (w.alloc (.cells #[.int .i64 h, .int .i64 a, .int .i64 len, .int .i64 tag] 66)) := (Below.refl _ _).alloc (Nat.le_refl _) _
  have htb := tagB_true.1 ht
  have hlb := lenB_true.1 hl
  have hbad : a < 288 ∨ (n : Int) < len ∨ (n : Int) - len < a := by
    simp only [withinB, Bool.and_eq_false_iff, decide_eq_false_iff_not] at hw; omega
  have t1 : decide (tag < 0) = false := by simp; omega
  have t2 : decide (15 < tag) = false := by simp; omega
  have t3 : decide (len < 1) = false := by simp; omega
  have t4 : decide (1000 < len) = false := by simp; omega
  unfold entV
  go_enter Tryz.func62, Tryz.ntmps62
  go_wp2_with fail
  refine (ref_handle_any h _).mono ?_
  rintro e w1 ⟨rfl, rfl⟩
  rw [hh]
  clear hw ht hl hh
  by_cases q1 : a < 288
  · clear hbad htb hlb
    go_wp2_with fail
    go_ret2
    exact ⟨rfl, hB⟩
  · by_cases q2 : (n : Int) < a
    · clear hbad htb hlb
      go_wp2_with fail
      go_ret2
      exact ⟨rfl, hB⟩
    · have s1 : IntKind.i64.wrap ((n : Int) - a) = (n : Int) - a := IntWalk.i64_in _ (by omega)
      have q3 : (n : Int) - a < len := by omega
      clear hbad htb hlb
      go_wp2_with fail
      go_ret2
      exact ⟨rfl, hB⟩
def PutAt (n : Nat) (o : Nat) (x s : Int) (l l' : Bytes) : Prop := ∀ (A : Option Addr) (c : Nat) (W : World), Rd W A l → Calls Tryz.prog 142 #[.slice A n c, .int .i64 (o : Int), .int .i64 x, .int .i64 s] W fun e w' => ∃ A' c', e = .returned (.tuple #[.slice A' n c', .int .i64 0]) ∧ Rd w' A' l' ∧ Below W.heap.size W w'
theorem putAt (n o x s : Nat) (l : Bytes) (hn : l.length = n) (hl : n ≤ 140737488351232) (h1 : 1 ≤ s) (h4 : s ≤ 4) (hx : (x : Int) ≤ mostN (s : Int)) (ha : o + s ≤ n) : PutAt n o (x : Int) (s : Int) l (splice l o (numB x s)) :=
  fun A c W hW => refPut_fit A n c l o x s W hn hl hW h1 h4 hx ha
set_option maxRecDepth 100000 in
theorem refPutEntry_walk (A : Option Addr) (n c k o o1 o3 t tt b m : Nat) (l l1 l2 l3 : Bytes) (w : World) (hrd : Rd w A l) (hh : handleB ((k : Int) + 1) = true)
    (s0 : IntKind.i64.wrap (k : Int) = (k : Int)) (s1 : IntKind.i64.wrap (5 * (k : Int)) = (o : Int)) (s2 : IntKind.i64.wrap ((t : Int) + 1) = (tt : Int))
    (s3 : IntKind.i64.wrap ((o : Int) + 1) = (o1 : Int)) (s4 : IntKind.i64.wrap ((o : Int) + 3) = (o3 : Int)) (ht : t ≤ 15) (hm1 : 1 ≤ m) (hm : m ≤ 1000) (hb : 288 ≤ b) (hbn : b + m ≤ n) (hn : n ≤ 6400)
    (c1 : PutAt n o tt 1 l l1) (c2 : PutAt n o1 b 2 l1 l2) (c3 : PutAt n o3 m 2 l2 l3) :
    Calls Tryz.prog 62 #[.slice A n c, entV ((k : Int) + 1) b m t] w fun e w' => ∃ A' c', e = .returned (.tuple #[.slice A' n c', .int .i64 0]) ∧ Rd w' A' l3 ∧ Below w.heap.size w w' := by
  have hB : Below w.heap.size w (w.alloc (.cells #[.int .i64 ((k : Int) + 1), .int .i64 b, .int .i64 m, .int .i64 t] 66)) := (Below.refl _ _).alloc (Nat.le_refl _) _
  have hF0 := fourAt_one w ((k : Int) + 1) b m t 66
  have s5 : IntKind.i64.wrap ((n : Int) - b) = (n : Int) - b := IntWalk.i64_in _ (by omega)
  have t1 : decide ((t : Int) < 0) = false := by simp
  have t2 : decide (15 < (t : Int)) = false := by simp; omega
  have t2' : decide (15 < t) = false := by simp; omega
  have t3 : decide ((m : Int) < 1) = false := by simp; omega
  have t3' : decide (m < 1) = false := by simp; omega
  have t4 : decide (1000 < (m : Int)) = false := by simp; omega
  have t4' : decide (1000 < m) = false := by simp; omega
  have t5 : decide ((b : Int) < 288) = false := by simp; omega
  have t5' : decide (b < 288) = false := by simp; omega
  have t6 : decide ((n : Int) < b) = false := by simp; omega
  have t6' : decide (n < b) = false := by simp; omega
  have t7 : decide ((n : Int) - b < m) = false := by simp; omega
  have hr0 := hrd.below hB
  have C1 := Hidden.mk c1
  have C2 := Hidden.mk c2
  have C3 := Hidden.mk c3
  clear ht hm1 hm hb hbn hn c1 c2 c3 hrd
  unfold entV
  go_enter Tryz.func62, Tryz.ntmps62
  go_wp2_with fail
  refine (ref_handle_any _ _).mono ?_
  rintro e w1 ⟨rfl, rfl⟩
  rw [hh]
  clear hh
  go_wp2_with fail
  generalize w.alloc (.cells #[.int .i64 ((k : Int) + 1), .int .i64 (b : Int), .int .i64 (m : Int), .int .i64 (t : Int)] 66) = w0 at *
  refine (C1.out A c _ hr0).mono ?_
  rintro e w1 ⟨A1, c1, rfl, hr1, hb1⟩
  have hF1 := hF0.below hb1
  have hB1 := hB.trans (hb1.mono hB.size)
  have HF1 := Hidden.mk hF1
  obtain ⟨x0, x1, x2, x3⟩ := hF1
  clear hb1 hF0
  go_wp2_with fail
  refine (C2.out A1 c1 _ hr1).mono ?_
  rintro e w2 ⟨A2, c2, rfl, hr2, hb2⟩
  have hF2 := HF1.out.below hb2
  have hB2 := hB1.trans (hb2.mono hB1.size)
  obtain ⟨y0, y1, y2, y3⟩ := hF2
  clear hb2 x0 x1 x2 x3
  go_wp2_with fail
  refine (C3.out A2 c2 _ hr2).mono ?_
  rintro e w3 ⟨A3, c3, rfl, hr3, hb3⟩
  have hB3 := hB2.trans (hb3.mono hB2.size)
  clear hb3 y0 y1 y2 y3
  go_wp2_with fail
  go_ret2
  exact ⟨A3, c3, rfl, hr3, hB3⟩
theorem putEnt_three (l : Bytes) (k t b m : Nat) (h : 5 * k + 5 ≤ l.length) (ht : t ≤ 15) : putEnt l ((k : Int) + 1) (b : Int) (m : Int) (t : Int) = splice (splice (splice l (5 * k) (numB (t + 1) 1)) (5 * k + 1) (numB b 2)) (5 * k + 3) (numB m 2) := by
  have e1 := splice_join l (numB (t + 1) 1) (numB b 2) (5 * k) (by rw [numB_length, numB_length]; omega)
  have e2 := splice_join l (numB (t + 1) 1 ++ numB b 2) (numB m 2) (5 * k) (by rw [List.length_append, numB_length, numB_length, numB_length]; omega)
  rw [List.length_append, numB_length, numB_length] at e2
  rw [numB_length] at e1
  rw [e1, show 5 * k + 3 = 5 * k + (1 + 2) by omega, e2]
  unfold putEnt entB
  rw [entO_k]
  have hm : numB (t + 1) 1 = [UInt8.ofNat (t + 1)] := by
    show [UInt8.ofNat ((t + 1) % 256)] = _
    rw [Nat.mod_eq_of_lt (by omega)]
  rw [hm]
  rfl
theorem refPutEntry_ok (A : Option Addr) (n c : Nat) (l : Bytes) (h a len tag : Int) (w : World) (hln : l.length = n) (hr : rightB n = true) (hrd : Rd w A l) (hh : handleB h = true) (ht : tagB tag = true) (hl : lenB len = true) (hw : withinB n a len = true) :
    Calls Tryz.prog 62 #[.slice A n c, entV h a len tag] w fun e w' => ∃ A' c', e = .returned (.tuple #[.slice A' n c', .int .i64 0]) ∧ Rd w' A' (putEnt l h a len tag) ∧ Below w.heap.size w w' := by
  have htb := tagB_true.1 ht
  have hlb := lenB_true.1 hl
  have hhb := handleB_true.1 hh
  have hwb := withinB_true.1 hw
  have hnb := rightB_true.1 hr
  obtain ⟨k, rfl⟩ : ∃ k : Nat, h = (k : Int) + 1 := ⟨(h - 1).toNat, by omega⟩
  obtain ⟨t, rfl⟩ := Int.eq_ofNat_of_zero_le (show 0 ≤ tag by omega)
  obtain ⟨b, rfl⟩ := Int.eq_ofNat_of_zero_le (show 0 ≤ a by omega)
  obtain ⟨m, rfl⟩ := Int.eq_ofNat_of_zero_le (show 0 ≤ len by omega)
  rw [putEnt_three l k t b m (by omega) (by omega)]
  have hl1 : (splice l (5 * k) (numB (t + 1) 1)).length = n := by rw [splice_len _ _ _ (by rw [numB_length]; omega)]; exact hln
  have hl2 : (splice (splice l (5 * k) (numB (t + 1) 1)) (5 * k + 1) (numB b 2)).length = n := by rw [splice_len _ _ _ (by rw [numB_length, hl1]; omega)]; exact hl1
  have hm1 : mostN ((1 : Nat) : Int) = 255 := rfl
  have hm2 : mostN ((2 : Nat) : Int) = 65535 := rfl
  exact refPutEntry_walk A n c k (5 * k) (5 * k + 1) (5 * k + 3) t (t + 1) b m l _ _ _ w hrd hh (IntWalk.i64_in _ (by omega)) (by rw [IntWalk.i64_in _ (by omega)]; omega) (by rw [IntWalk.i64_in _ (by omega)]; omega) (by rw [IntWalk.i64_in _ (by omega)]; omega) (by rw [IntWalk.i64_in _ (by omega)]; omega)
    (by omega) (by omega) (by omega) (by omega) (by omega) (by omega)
    (putAt n (5 * k) (t + 1) 1 l hln (by omega) (by omega) (by omega) (by rw [hm1]; omega) (by omega))
    (putAt n (5 * k + 1) b 2 _ hl1 (by omega) (by omega) (by omega) (by rw [hm2]; omega) (by omega))
    (putAt n (5 * k + 3) m 2 _ hl2 (by omega) (by omega) (by omega) (by rw [hm2]; omega) (by omega))
theorem refPutEntry_any (A : Option Addr) (n c : Nat) (l : Bytes) (h a len tag : Int) (w : World) (hln : l.length = n) (hr : rightB n = true) (hrd : Rd w A l) :
    Calls Tryz.prog 62 #[.slice A n c, entV h a len tag] w fun e w' => RowAns w w' e (entF l h a len tag) (.int .i64 (entE n h a len tag)) := by
  unfold entF
  rw [hln]
  by_cases hbad : handleB h = false ∨ tagB tag = false ∨ lenB len = false
  · have hE : entE n h a len tag = 1 := by unfold entE; rw [if_pos hbad]
    rw [hE]
    exact (refPutEntry_e1 A n c h a len tag w hbad).mono fun e w' ⟨he, hb⟩ => ⟨none, 0, he, Rd.nil_, hb⟩
  · have h1 : handleB h = true := by cases hx : handleB h <;> simp_all
    have h2 : tagB tag = true := by cases hx : tagB tag <;> simp_all
    have h3 : lenB len = true := by cases hx : lenB len <;> simp_all
    cases hw : withinB n a len with
    | false =>
      have hE : entE n h a len tag = 3 := by unfold entE; rw [if_neg hbad, if_pos hw]
      rw [hE]
      exact (refPutEntry_e3 A n c h a len tag w (by have := rightB_true.1 hr; omega) h1 h2 h3 hw).mono fun e w' ⟨he, hb⟩ => ⟨none, 0, he, Rd.nil_, hb⟩
    | true =>
      have hE : entE n h a len tag = 0 := by unfold entE; rw [if_neg hbad, if_neg (by simp [hw])]
      have hL : (putEnt l h a len tag).length = n := by rw [putEnt_len _ _ _ _ _ (handleB_true.1 h1).1 (handleB_true.1 h1).2 (by have := rightB_true.1 hr; omega)]; exact hln
      rw [hE, if_pos rfl]
      refine (refPutEntry_ok A n c l h a len tag w hln hr hrd h1 h2 h3 hw).mono ?_
      rintro e w' ⟨A', c', rfl, hrd', hb⟩
      exact ⟨A', c', by rw [hL]; rfl, hrd', hb⟩
end Go.Proofs.YtbnobjlphmkgeaaGreatDoor
/- The contract of check.handles: the walk. -/
namespace Go.Proofs.YtbnobjlphmkgeaaGreatDoor
open Go.RowKit

set_option maxRecDepth 100000 in
set_option maxHeartbeats 1000000 in
theorem handles_ok (A : Option Addr) (n c : Nat) (l : Bytes) (w : World) (hn : l.length = n) (hr : rightB n = true) (hnc : n ≤ c) (hrd : Rd w A l) :
    Calls Tryz.prog 115 #[.slice A n c] w fun e w' => ∃ vf vr vw, e = .returned (.tuple #[vf, vr]) ∧ HSt w' w.heap.size vf vr vw (faultsH n (rawE l) 40) (rightL n (rawE l) 40) (wholeL n (rawE l) 40) ∧ Below w.heap.size w w' := by
  have hnb := rightB_true.1 hr
  obtain ⟨i1, hi1, hy0, hy1, hy2⟩ := info_parts fault_info
  obtain ⟨i2, hi2, hx0, hx1, hx2⟩ := info_parts entry_info
  have HGET : Hidden (∀ k : Nat, k < 40 → ∀ W, Below w.heap.size w W → Calls Tryz.prog 66 #[.slice A n c, .int .i64 ((k : Int) + 1)] W fun e w' => (hasE (rawE l k) = true → e = .returned (.tuple #[entR ((k : Int) + 1) (rawE l k), .nilIface])) ∧ (hasE (rawE l k) = false → e = .returned (.tuple #[entV 0 0 0 0, .iface 111 (.int .i64 5)])) ∧ Below W.heap.size W w') :=
    ⟨fun k hk W hW => iget_ok A n c l k W hn hr hnc (hrd.below hW) hk⟩
  have HRAW : Hidden (∀ k : Nat, k < 40 → ∀ W, Below w.heap.size w W → Rd W (A.map (·.add (5 * k))) (rawE l k)) := ⟨fun k hk W hW => rawE_rd (hrd.below hW) k hk (by omega)⟩
  have HLEN : Hidden (∀ k : Nat, k < 40 → (rawE l k).length = 5) := ⟨fun k hk => rawE_len l k hk (by omega)⟩
  generalize rawE l = R at *
  clear hr hrd hn
  go_enter Tryz.func115, Tryz.ntmps115
  go_wp2_with fail
  go_loopw [2, 3, 4, 5] (fun vf vr vw h wr => ∃ k : Nat, k ≤ 40 ∧ h = .int .i64 ((k : Int) + 1) ∧ Below w.heap.size w wr ∧ HSt wr w.heap.size vf vr vw (faultsH n R k) (rightL n R k) (wholeL n R k)) (fun _ _ _ h _ => 41 - (intOf h).toNat)
  case atStart => exact ⟨0, by omega, rfl, Below.refl _ _, World.ownsRow_nil _ _ _ _, World.ownsRow_nil _ _ _ _, World.ownsRow_nil _ _ _ _, fun b hb => by cases hb⟩
  case round =>
    obtain ⟨k, hk, rfl, hbel, hst⟩ := hrel
    by_cases hlt : k < 40
    · have k0 : ((k : Int) + 1) ≤ 40 := by omega
      have s1 : IntKind.i64.wrap ((k : Int) + 1 + 1) = (k : Int) + 1 + 1 := IntWalk.i64_in _ (by omega)
      have hlF := faultsH_len n R k
      have hlR : (rightL n R k).length ≤ k := entsL_len _ R k
      have hlW : (wholeL n R k).length ≤ k := entsL_len _ R k
      have hget := HGET.out k hlt wr hbel
      have HG := Hidden.mk hget
      clear hget
      have HSF := Hidden.mk (faultsH_succ n R k)
      have HSR : Hidden (rightL n R (k + 1) = rightL n R k ++ if (kindH n R k == 6) = true then [(((k : Int) + 1), R k)] else []) := ⟨entsL_succ _ R k⟩
      have HSW : Hidden (wholeL n R (k + 1) = wholeL n R k ++ if wholeE n (R k) = true then [(((k : Int) + 1), R k)] else []) := ⟨entsL_succ _ R k⟩
      cases hE : hasE (R k) with
      | false =>
        have hW0 : wholeE n (R k) = false := by simp [wholeE, hE]
        have hKK : kindH n R k = if zeroE (R k) = true then 0 else 3 := by unfold kindH; rw [hE]; simp
        have HKK := Hidden.mk hKK
        have HW0 := Hidden.mk hW0
        have HEE := Hidden.mk hE
        clear hW0 hKK hE
        go_wp2_with fail
        refine HG.out.mono ?_
        rintro e w1 ⟨_, he, hb1⟩
        have he := he HEE.out
        subst he
        have hB1 := hbel.trans (hb1.mono hbel.size)
        have hst1 := hst.below hb1
        have hB2 : Below w.heap.size w (w1.alloc (.cells #[.int .i64 0, .int .i64 0, .int .i64 0, .int .i64 0] 66)) := hB1.alloc hB1.size _
        have hst2 := hst1.below ((Below.refl _ _).alloc (Nat.le_refl _) (.cells #[.int .i64 0, .int .i64 0, .int .i64 0, .int .i64 0] 66))
        clear hst hst1 hB1 hb1 hbel
        go_wp2_with fail
        generalize w1.alloc (.cells #[.int .i64 0, .int .i64 0, .int .i64 0, .int .i64 0] 66) = w2 at *
        refine (raw_any A n c ((k : Int) + 1) _ (by omega) (by omega) (by omega) hnc).mono ?_
        rintro e w3 ⟨rfl, rfl⟩
        rw [entO_k]
        go_wp2_with fail
        refine (izero_any _ 5 _ (R k) _ (HLEN.out k hlt) (by simp [maxLen]) (HRAW.out k hlt w2 hB2)).mono ?_
        rintro e w3 ⟨rfl, rfl⟩
        cases hz : zeroE (R k) with
        | true =>
          have e1 : faultsH n R (k + 1) = faultsH n R k := by rw [HSF.out, HKK.out, hz]; simp [fltOf]
          have e2 : rightL n R (k + 1) = rightL n R k := by rw [HSR.out, HKK.out, hz]; simp
          have e3 : wholeL n R (k + 1) = wholeL n R k := by rw [HSW.out, HW0.out]; simp
          have hst3 : HSt w2 w.heap.size u2 u3 u4 (faultsH n R (k + 1)) (rightL n R (k + 1)) (wholeL n R (k + 1)) := by rw [e1, e2, e3]; exact hst2
          have HST := Hidden.mk hst3
          clear e1 e2 e3 hst3 hst2 hz
          go_wp2_with fail
          go_roundw
          case rel => exact ⟨k + 1, by omega, by go_num, hB2, HST.out⟩
          case measure => simp [intOf]; omega
        | false =>
          have e1 : faultsH n R (k + 1) = faultsH n R k ++ [⟨3, k + 1⟩] := by rw [HSF.out, HKK.out, hz]; simp [fltOf]
          have e2 : rightL n R (k + 1) = rightL n R k := by rw [HSR.out, HKK.out, hz]; simp
          have e3 : wholeL n R (k + 1) = wholeL n R k := by rw [HSW.out, HW0.out]; simp
          have HE1 := Hidden.mk e1
          have HE2 := Hidden.mk e2
          have HE3 := Hidden.mk e3
          clear e1 e2 e3 hz
          go_wp2_with (at_builtin; refine wpList_append_lies _ rfl (.tmp 30) (.tmp 33) _ rfl w.heap.size 200 i1 _ 2 16 Tryz.underlying90 hi1 hy0 hy1 hy2 rfl (by decide) u2 (faultsH n R k).length ((faultsH n R k).flatMap fcells) rfl (own_below hst2.f ((Below.refl _ _).alloc (Nat.le_refl _) _)) ⟨w2.heap.size, 0, none⟩ 1 1 [.int .i64 3, .int .i64 ((k : Int) + 1)] rfl rfl (World.news_of_block (cs := #[.int .i64 3, .int .i64 ((k : Int) + 1)]) (t := 200) (fr := (0, 0)) (heap_alloc_new w2 _)) (by simp [Value.oneCell']) (by omega) (by simp only [maxLen]; omega) (by omega) (by have := hB2.size; simp; omega) (w2.heap.size + 1) (by simp) ?_; intro gf capf w7 hown7 hg7 hat7 hlt7)
          have hgF := grown_trans' ((Below.refl _ _).alloc (Nat.le_refl _) _) hg7
          have hst7 := hst2.addF (x := ⟨3, k + 1⟩) hgF hown7
          have hB7 : Below w.heap.size w w7 := hB2.grown hgF hB2.size (fun q hq => (hst2.f.lt q hq).1)
          clear hown7 hg7 hat7 hlt7 hgF hst2 hB2
          go_roundw
          case rel => exact ⟨k + 1, by omega, by go_num, hB7, by rw [HE1.out, HE2.out, HE3.out]; exact hst7⟩
          case measure => simp [intOf]; omega
      | true =>
        have HKK : Hidden (kindH n R k = if strayE n (R k) = true then 1 else if (wholeL n R k).any (fun x => overE (R k) x.2) = true then 2 else 6) := ⟨by rw [wholeL_any]; unfold kindH; rw [hE]; simp⟩
        have HWW : Hidden (wholeE n (R k) = !strayE n (R k)) := ⟨by unfold wholeE; rw [hE]; simp⟩
        have HEE := Hidden.mk hE
        have HSTR : Hidden ((!(tagB (rTag (R k)) && lenB (rLen (R k)) && withinB n (rAt (R k)) (rLen (R k)))) = strayE n (R k)) := ⟨rfl⟩
        have HENT : Hidden (∀ h, entR h (R k) = entV h (rAt (R k)) (rLen (R k)) (rTag (R k))) := ⟨fun _ => rfl⟩
        have b1 := rAt_le (R k)
        have b2 := rLen_le (R k)
        have HCELL : Hidden (ecells (((k : Int) + 1), R k) = [.int .i64 ((k : Int) + 1), .int .i64 (rAt (R k)), .int .i64 (rLen (R k)), .int .i64 (rTag (R k))]) := ⟨rfl⟩
        have HOV : Hidden (∀ (Bx : Nat) (x : Int × Bytes) (W : World), W.cell? ⟨Bx, 1, none⟩ = some (.int .i64 (rAt (R k))) → W.cell? ⟨Bx, 2, none⟩ = some (.int .i64 (rLen (R k))) → Calls Tryz.prog 169 #[entR x.1 x.2, .pointer (some ⟨Bx, 0, none⟩)] W fun e w' => e = .returned (.bool (overE (R k) x.2)) ∧ Below W.heap.size W w') := ⟨fun (Bx : Nat) (x : Int × Bytes) (W : World) h1 h2 => over1_any (R k) Bx x W h1 h2⟩
        clear hE
        go_wp2_with fail
        refine HG.out.mono ?_
        rintro e w1 ⟨he, _, hb1⟩
        have he := he HEE.out
        rw [HENT.out] at he
        subst he
        generalize rAt (R k) = a1 at *
        generalize rLen (R k) = a2 at *
        generalize rTag (R k) = a3 at *
        have hB1 := hbel.trans (hb1.mono hbel.size)
        have hst1 := hst.below hb1
        have nf : ∀ q, u2.ownBlock = some q → q < w1.heap.size := fun q hq => Nat.lt_of_lt_of_le (hst.f.lt q hq).2 hb1.size
        have nr : ∀ q, u3.ownBlock = some q → q < w1.heap.size := fun q hq => Nat.lt_of_lt_of_le (hst.r.lt q hq).2 hb1.size
        have NF := Hidden.mk nf
        have NR := Hidden.mk nr
        have hal : Below w1.heap.size w1 (w1.alloc (.cells #[.int .i64 ((k : Int) + 1), .int .i64 a1, .int .i64 a2, .int .i64 a3] 66)) := (Below.refl _ _).alloc (Nat.le_refl _) _
        have hB2 : Below w.heap.size w (w1.alloc (.cells #[.int .i64 ((k : Int) + 1), .int .i64 a1, .int .i64 a2, .int .i64 a3] 66)) := hB1.alloc hB1.size _
        have hst2 := hst1.below hal
        have hbx : (w1.alloc (.cells #[.int .i64 ((k : Int) + 1), .int .i64 a1, .int .i64 a2, .int .i64 a3] 66)).heap[w1.heap.size]? = some (.cells #[.int .i64 ((k : Int) + 1), .int .i64 a1, .int .i64 a2, .int .i64 a3] 66 (0, 0)) := heap_alloc_new w1 _
        clear hst hst1 hB1 hb1 hbel hal nf nr
        go_wp2_with fail
        generalize w1.alloc (.cells #[.int .i64 ((k : Int) + 1), .int .i64 a1, .int .i64 a2, .int .i64 a3] 66) = w2 at *
        generalize w1.heap.size = Bx at *
        refine (stray_any A n c ((k : Int) + 1) a1 a2 a3 _ (by omega) (by omega) (by omega) (by omega)).mono ?_
        rintro e w3 ⟨rfl, hb3⟩
        rw [HSTR.out]
        have hB3 := hB2.trans (hb3.mono hB2.size)
        have hst3 := hst2.below hb3
        have hltx : Bx < w2.heap.size := (Array.getElem?_eq_some_iff.1 hbx).1
        have hbx3 := (hb3.block Bx hltx).trans hbx
        have hltx3 : Bx < w3.heap.size := (Array.getElem?_eq_some_iff.1 hbx3).1
        clear hB2 hst2 hb3 hbx hltx
        cases hs : strayE n (R k) with
        | true =>
          have HE1 : Hidden (faultsH n R (k + 1) = faultsH n R k ++ [⟨1, k + 1⟩]) := ⟨by rw [HSF.out, HKK.out, hs]; simp [fltOf]⟩
          have HE2 : Hidden (rightL n R (k + 1) = rightL n R k) := ⟨by rw [HSR.out, HKK.out, hs]; simp⟩
          have HE3 : Hidden (wholeL n R (k + 1) = wholeL n R k) := ⟨by rw [HSW.out, HWW.out, hs]; simp⟩
          clear hs
          go_wp2_with (at_builtin; refine wpList_append_lies _ rfl (.tmp 39) (.tmp 42) _ rfl w.heap.size 200 i1 _ 2 16 Tryz.underlying90 hi1 hy0 hy1 hy2 rfl (by decide) u2 (faultsH n R k).length ((faultsH n R k).flatMap fcells) rfl (own_below hst3.f ((Below.refl _ _).alloc (Nat.le_refl _) _)) ⟨w3.heap.size, 0, none⟩ 1 1 [.int .i64 1, .int .i64 ((k : Int) + 1)] rfl rfl (World.news_of_block (cs := #[.int .i64 1, .int .i64 ((k : Int) + 1)]) (t := 200) (fr := (0, 0)) (heap_alloc_new w3 _)) (by simp [Value.oneCell']) (by omega) (by simp only [maxLen]; omega) (by omega) (by have := hB3.size; simp; omega) (w3.heap.size + 1) (by simp) ?_; intro gf capf w7 hown7 hg7 hat7 hlt7)
          have hgF := grown_trans' ((Below.refl _ _).alloc (Nat.le_refl _) _) hg7
          have hst7 := hst3.addF (x := ⟨1, k + 1⟩) hgF hown7
          have hB7 : Below w.heap.size w w7 := hB3.grown hgF hB3.size (fun q hq => (hst3.f.lt q hq).1)
          clear hown7 hg7 hat7 hlt7 hgF hst3 hB3
          go_roundw
          case rel => exact ⟨k + 1, by omega, by go_num, hB7, by rw [HE1.out, HE2.out, HE3.out]; exact hst7⟩
          case measure => simp [intOf]; omega
        | false =>
          obtain ⟨A4, c4, hv4, hc4, hrd4⟩ := own_rdEs hst3.o
          subst hv4
          have hcf := cfe_over (fun x => overE (R k) x.2) A4 (wholeL n R k).length c4 (wholeL n R k) (.pointer (some ⟨Bx, 0, none⟩)) w3 rfl (by omega) hrd4 (fun x _ W hW => HOV.out Bx x W (by have := (hW.block Bx hltx3).trans hbx3; simp [World.cell?, this]) (by have := (hW.block Bx hltx3).trans hbx3; simp [World.cell?, this]))
          have HCF := Hidden.mk hcf
          clear hcf
          go_wp2_with fail
          refine HCF.out.mono ?_
          rintro e w4 ⟨rfl, hb4⟩
          have hB4 := hB3.trans (hb4.mono hB3.size)
          have hst4 := hst3.below hb4
          have hbx4 := (hb4.block Bx hltx3).trans hbx3
          have hltx4 : Bx < w4.heap.size := (Array.getElem?_eq_some_iff.1 hbx4).1
          have hrdc4 : ∀ W : World, W.heap[Bx]? = some (.cells #[.int .i64 ((k : Int) + 1), .int .i64 a1, .int .i64 a2, .int .i64 a3] 66 (0, 0)) → W.cell? ⟨Bx, 0, none⟩ = some (.int .i64 ((k : Int) + 1)) ∧ W.cell? ⟨Bx, 1, none⟩ = some (.int .i64 a1) ∧ W.cell? ⟨Bx, 2, none⟩ = some (.int .i64 a2) ∧ W.cell? ⟨Bx, 3, none⟩ = some (.int .i64 a3) := fun W h => by simp [World.cell?, h]
          have HRD := Hidden.mk hrdc4
          obtain ⟨y0, y1, y2, y3⟩ := hrdc4 w4 hbx4
          clear hB3 hst3 hb4 hbx3 hltx3 hrd4 hrdc4
          have HE3 : Hidden (wholeL n R (k + 1) = wholeL n R k ++ [(((k : Int) + 1), R k)]) := ⟨by rw [HSW.out, HWW.out, hs]; simp⟩
          cases hany : (wholeL n R k).any (fun x => overE (R k) x.2) with
          | true =>
            have HE1 : Hidden (faultsH n R (k + 1) = faultsH n R k ++ [⟨2, k + 1⟩]) := ⟨by rw [HSF.out, HKK.out, hs, hany]; simp [fltOf]⟩
            have HE2 : Hidden (rightL n R (k + 1) = rightL n R k) := ⟨by rw [HSR.out, HKK.out, hs, hany]; simp⟩
            clear hs hany
            go_wp2_with (first | (at_builtin; refine wpList_append_lies _ rfl (.tmp 48) (.tmp 51) _ rfl w.heap.size 200 i1 _ 2 16 Tryz.underlying90 hi1 hy0 hy1 hy2 rfl (by decide) u2 (faultsH n R k).length ((faultsH n R k).flatMap fcells) rfl (own_below hst4.f ((Below.refl _ _).alloc (Nat.le_refl _) _)) ⟨w4.heap.size, 0, none⟩ 1 1 [.int .i64 2, .int .i64 ((k : Int) + 1)] rfl rfl (World.news_of_block (cs := #[.int .i64 2, .int .i64 ((k : Int) + 1)]) (t := 200) (fr := (0, 0)) (heap_alloc_new w4 _)) (by simp [Value.oneCell']) (by omega) (by simp only [maxLen]; omega) (by omega) (by have := hB4.size; simp; omega) (w4.heap.size + 1) (by simp) ?_; intro gf capf w7 hown7 hg7 hat7 hlt7; have hgF := grown_trans' ((Below.refl _ _).alloc (Nat.le_refl _) _) hg7; have hst7 := hst4.addF (x := ⟨2, k + 1⟩) hgF hown7; have hB7 : Below w.heap.size w w7 := hB4.grown hgF hB4.size (fun q hq => (hst4.f.lt q hq).1); obtain ⟨z0, z1, z2, z3⟩ := HRD.out w7 ((hgF.block Bx hltx4 (fun e => Nat.lt_irrefl _ (NF.out Bx e.symm))).trans hbx4)) | (at_builtin; refine wpList_append_lies _ rfl (.tmp 53) (.tmp 55) _ rfl w.heap.size 66 i2 _ 4 32 Tryz.underlying141 hi2 hx0 hx1 hx2 rfl (by decide) (.slice A4 (wholeL n R k).length c4) (wholeL n R k).length ((wholeL n R k).flatMap ecells) rfl (own_below hst7.o ((Below.refl _ _).alloc (Nat.le_refl _) _)) ⟨w7.heap.size, 0, none⟩ 1 1 [.int .i64 ((k : Int) + 1), .int .i64 a1, .int .i64 a2, .int .i64 a3] rfl rfl (World.news_of_block (cs := #[.int .i64 ((k : Int) + 1), .int .i64 a1, .int .i64 a2, .int .i64 a3]) (t := 66) (fr := (0, 0)) (heap_alloc_new w7 _)) (by simp [Value.oneCell']) (by omega) (by simp only [maxLen]; omega) (by omega) (by have := hB7.size; simp; omega) (w7.heap.size + 1) (by simp) ?_; intro g8 cap8 w8 hown8 hg8 hat8 hlt8))
            have hgW := grown_trans' ((Below.refl _ _).alloc (Nat.le_refl _) _) hg8
            have hst8 := hst7.addW (x := (((k : Int) + 1), R k)) hgW rfl (by rw [HCELL.out]; exact hown8) (by rcases hat8 with h | h; exact .inl h; exact .inr (by omega))
            have hB8 : Below w.heap.size w w8 := hB7.grown hgW hB7.size (fun q hq => (hst7.o.lt q hq).1)
            go_roundw
            case rel => exact ⟨k + 1, by omega, by go_num, hB8, by rw [HE1.out, HE2.out, HE3.out]; exact hst8⟩
            case measure => simp [intOf]; omega
          | false =>
            have HE1 : Hidden (faultsH n R (k + 1) = faultsH n R k) := ⟨by rw [HSF.out, HKK.out, hs, hany]; simp [fltOf]⟩
            have HE2 : Hidden (rightL n R (k + 1) = rightL n R k ++ [(((k : Int) + 1), R k)]) := ⟨by rw [HSR.out, HKK.out, hs, hany]; simp⟩
            clear hs hany
            go_wp2_with (first | (at_builtin; refine wpList_append_lies _ rfl (.tmp 18) (.tmp 20) _ rfl w.heap.size 66 i2 _ 4 32 Tryz.underlying141 hi2 hx0 hx1 hx2 rfl (by decide) u3 (rightL n R k).length ((rightL n R k).flatMap ecells) rfl (own_below hst4.r ((Below.refl _ _).alloc (Nat.le_refl _) _)) ⟨w4.heap.size, 0, none⟩ 1 1 [.int .i64 ((k : Int) + 1), .int .i64 a1, .int .i64 a2, .int .i64 a3] rfl rfl (World.news_of_block (cs := #[.int .i64 ((k : Int) + 1), .int .i64 a1, .int .i64 a2, .int .i64 a3]) (t := 66) (fr := (0, 0)) (heap_alloc_new w4 _)) (by simp [Value.oneCell']) (by omega) (by simp only [maxLen]; omega) (by omega) (by have := hB4.size; simp; omega) (w4.heap.size + 1) (by simp) ?_; intro g6 cap6 w6 hown6 hg6 hat6 hlt6; have hgR := grown_trans' ((Below.refl _ _).alloc (Nat.le_refl _) _) hg6; have hst6 := hst4.addR (x := (((k : Int) + 1), R k)) hgR rfl (by rw [HCELL.out]; exact hown6) (by rcases hat6 with h | h; exact .inl h; exact .inr (by omega)); have hB6 : Below w.heap.size w w6 := hB4.grown hgR hB4.size (fun q hq => (hst4.r.lt q hq).1); obtain ⟨z0, z1, z2, z3⟩ := HRD.out w6 ((hgR.block Bx hltx4 (fun e => Nat.lt_irrefl _ (NR.out Bx e.symm))).trans hbx4)) | (at_builtin; refine wpList_append_lies _ rfl (.tmp 53) (.tmp 55) _ rfl w.heap.size 66 i2 _ 4 32 Tryz.underlying141 hi2 hx0 hx1 hx2 rfl (by decide) (.slice A4 (wholeL n R k).length c4) (wholeL n R k).length ((wholeL n R k).flatMap ecells) rfl (own_below hst6.o ((Below.refl _ _).alloc (Nat.le_refl _) _)) ⟨w6.heap.size, 0, none⟩ 1 1 [.int .i64 ((k : Int) + 1), .int .i64 a1, .int .i64 a2, .int .i64 a3] rfl rfl (World.news_of_block (cs := #[.int .i64 ((k : Int) + 1), .int .i64 a1, .int .i64 a2, .int .i64 a3]) (t := 66) (fr := (0, 0)) (heap_alloc_new w6 _)) (by simp [Value.oneCell']) (by omega) (by simp only [maxLen]; omega) (by omega) (by have := hB6.size; simp; omega) (w6.heap.size + 1) (by simp) ?_; intro g8 cap8 w8 hown8 hg8 hat8 hlt8))
            have hgW := grown_trans' ((Below.refl _ _).alloc (Nat.le_refl _) _) hg8
            have hst8 := hst6.addW (x := (((k : Int) + 1), R k)) hgW rfl (by rw [HCELL.out]; exact hown8) (by rcases hat8 with h | h; exact .inl h; exact .inr (by omega))
            have hB8 : Below w.heap.size w w8 := hB6.grown hgW hB6.size (fun q hq => (hst6.o.lt q hq).1)
            go_roundw
            case rel => exact ⟨k + 1, by omega, by go_num, hB8, by rw [HE1.out, HE2.out, HE3.out]; exact hst8⟩
            case measure => simp [intOf]; omega
    · obtain rfl : k = 40 := by omega
      go_wp2_with fail
      go_ret2
      exact ⟨u2, u3, u4, rfl, hst, hbel⟩
end Go.Proofs.YtbnobjlphmkgeaaGreatDoor
/- The contract of check.Check. -/
namespace Go.Proofs.YtbnobjlphmkgeaaGreatDoor
open Go.RowKit

theorem flt_one (F : List Flt) : ∀ u ∈ F.flatMap fcells, u.oneCell' = true := by
  intro u hu
  obtain ⟨f, _, h⟩ := List.mem_flatMap.1 hu
  simp only [fcells, List.mem_cons, List.not_mem_nil, or_false] at h
  rcases h with rfl | rfl <;> rfl
theorem right_leads (n : Nat) (R : Nat → Bytes) (x : UInt8) : ((rightL n R 40).any fun e => e.1 == (x.toNat : Int)) = leadsE n R x := by
  unfold rightL entsL leadsE
  rw [List.any_map, List.any_filter]
  congr 1
  funext k
  simp only [Function.comp]
  congr 1
  rw [Bool.eq_iff_iff]; simp; omega
theorem check_no (A : Option Addr) (n c : Nat) (w : World) (hr : rightB n = false) :
    Calls Tryz.prog 44 #[.slice A n c] w fun e w' => e = .returned (.tuple #[.slice none 0 0, .iface 111 (.int .i64 3)]) ∧ w = w' := by
  go_enter Tryz.func44, Tryz.ntmps44
  go_wp2_with fail
  refine (right_any _ _).mono ?_
  rintro e w1 ⟨rfl, rfl⟩
  rw [hr]
  go_wp2_with fail
  go_ret2
  exact ⟨rfl, rfl⟩
set_option maxRecDepth 100000 in
theorem check_yes (A : Option Addr) (n c : Nat) (l : Bytes) (w : World) (hn : l.length = n) (hr : rightB n = true) (hnc : n ≤ c) (hrd : Rd w A l) :
    Calls Tryz.prog 44 #[.slice A n c] w fun e w' => ∃ v, e = .returned (.tuple #[v, .nilIface]) ∧ w'.ownsRow w.heap.size 200 2 v (checkL l).length ((checkL l).flatMap fcells) ∧ Below w.heap.size w w' := by
  obtain ⟨i1, hi1, hy0, hy1, hy2⟩ := info_parts fault_info
  have hlF := faultsH_len n (rawE l) 40
  have hlR : (rightL n (rawE l) 40).length ≤ 40 := entsL_len _ _ 40
  have hlG := faultsR_len (leadsE n (rawE l)) (rawR l) 8
  have HCL : Hidden (checkL l = faultsH n (rawE l) 40 ++ faultsR (leadsE n (rawE l)) (rawR l) 8) := ⟨by unfold checkL; rw [hn]⟩
  go_enter Tryz.func44, Tryz.ntmps44
  go_wp2_with fail
  refine (right_any _ _).mono ?_
  rintro e w1 ⟨rfl, rfl⟩
  rw [hr]
  go_wp2_with fail
  refine (handles_ok A n c l _ hn hr hnc hrd).mono ?_
  rintro e w1 ⟨vf, vr, vw, rfl, hst, hb1⟩
  obtain ⟨Ar, cr, rfl, hcr, hre⟩ := own_rdEs hst.r
  go_wp2_with fail
  refine (roots_ok A Ar n c _ cr l (rightL n (rawE l) 40) (leadsE n (rawE l)) _ hn hr hnc (hrd.below hb1) rfl (by omega) hre (right_leads n (rawE l))).mono ?_
  rintro e w2 ⟨vg, rfl, hg2, hb2⟩
  have hf2 := own_below hst.f hb2
  obtain ⟨Ag, cg, rfl, hcg, hsrc⟩ := Src.of_own hg2
  have hB2 := hb1.trans (hb2.mono hb1.size)
  generalize faultsH n (rawE l) 40 = FH at *
  generalize faultsR (leadsE n (rawE l)) (rawR l) 8 = FR at *
  have HS := Hidden.mk hsrc
  have HF2 := Hidden.mk hf2
  clear hst hre hg2 hsrc hf2 hb1 hb2 hn hr hrd
  go_wp2_with (at_builtin; refine wpList_append_src _ rfl (.tmp 16) (.tmp 19) _ rfl w.heap.size 200 i1 _ 2 16 Tryz.underlying90 hi1 hy0 hy1 hy2 rfl (by decide) vf FH.length (FH.flatMap fcells) rfl HF2.out Ag FR.length cg (FR.flatMap fcells) rfl HS.out (flt_one _) (by simp only [maxLen]; omega) (by omega) hB2.size ?_; intro v7 w7 hown7 hg7 hat7)
  have hB7 : Below w.heap.size w w7 := hB2.grown hg7 hB2.size (fun q hq => (HF2.out.lt q hq).1)
  go_ret2
  refine ⟨_, rfl, ?_, hB7⟩
  rw [HCL.out]
  simpa using hown7
end Go.Proofs.YtbnobjlphmkgeaaGreatDoor
/- The contract of check.Mend. -/
namespace Go.Proofs.YtbnobjlphmkgeaaGreatDoor
open Go.RowKit

/-- the slice at A has the faults L -/
def RdFs (w : World) (A : Option Addr) (L : List Flt) : Prop := ∀ i (h : i < L.length), ∃ g off, A = some ⟨g, off, none⟩ ∧ w.cell? ⟨g, off + i * 2, none⟩ = some (.int .i64 L[i].what) ∧ w.cell? ⟨g, off + i * 2 + 1, none⟩ = some (.int .i64 L[i].which)
theorem RdFs.below {w w' : World} {A : Option Addr} {L : List Flt} (h : RdFs w A L) (hb : Below w.heap.size w w') : RdFs w' A L := fun i hi => by
  obtain ⟨g, off, hA, c0, c1⟩ := h i hi
  exact ⟨g, off, hA, (hb.cell (block_lt_of_cell c0)).trans c0, (hb.cell (block_lt_of_cell c1)).trans c1⟩
theorem fcells_at (L : List Flt) (q : Nat) (hq : q < 2) : ∀ i (h : i < L.length), (L.flatMap fcells)[i * 2 + q]? = (fcells L[i])[q]? := by
  induction L with
  | nil => intro i h; simp at h
  | cons x L ih =>
    intro i h
    rw [List.flatMap_cons]
    have hl : (fcells x).length = 2 := rfl
    cases i with
    | zero => rw [List.getElem?_append_left (by omega)]; simp
    | succ i =>
      rw [List.getElem?_append_right (by omega), hl, show (i + 1) * 2 + q - 2 = i * 2 + q from by omega, ih i (by simpa using h)]
      simp
theorem own_rdFs {w : World} {base : Nat} {v : Value} {L : List Flt} (h : w.ownsRow base 200 2 v L.length (L.flatMap fcells)) : ∃ A c, v = .slice A L.length c ∧ L.length ≤ c ∧ RdFs w A L := by
  rcases h.2 with ⟨rfl, h0⟩ | ⟨g, cap, cur, rfl, _, hh, hc, hm, hz, ht⟩
  · exact ⟨none, 0, by rw [h0], by omega, fun i hi => by omega⟩
  · refine ⟨_, cap, rfl, hc, fun i hi => ?_⟩
    have hcell : ∀ q u, q < 2 → (fcells L[i])[q]? = some u → w.cell? ⟨g, 0 + (i * 2 + q), none⟩ = some u := fun q u hq hu => by
      have := h.cells (g := g) rfl (i * 2 + q) u (by rw [fcells_at L q hq i hi]; exact hu)
      rw [Addr.add_lit] at this
      exact this
    refine ⟨g, 0, rfl, ?_, ?_⟩
    · exact hcell 0 _ (by omega) rfl
    · exact (Nat.add_assoc 0 (i * 2) 1) ▸ hcell 1 _ (by omega) rfl
theorem flt_range {l : Bytes} {f : Flt} (h : f ∈ checkL l) : ((f.what = 4 ∨ f.what = 5) ∧ f.which < 8) ∨ (f.what ≠ 4 ∧ f.what ≠ 5 ∧ 1 ≤ f.which ∧ f.which ≤ 40) := by
  rcases mem_checkL.1 h with ⟨k, hk, hn, rfl⟩ | ⟨i, hi, hn, rfl⟩
  · have := kindH_cases l.length (rawE l) k
    right; simp only; omega
  · have := kindR_cases (leadsE l.length (rawE l)) (rawR l) i
    left; simp only; omega
theorem clearAll_snoc (l : Bytes) (F : List Flt) (j : Nat) (hj : j < F.length) : clearAll l (F.take (j + 1)) = clearF (clearAll l (F.take j)) F[j] := by
  rw [List.take_succ_eq_append_getElem hj]
  unfold clearAll
  rw [List.foldl_append]
  rfl
theorem checkL_len (l : Bytes) : (checkL l).length ≤ 48 := by
  unfold checkL
  have h1 := faultsH_len l.length (rawE l) 40
  have h2 := faultsR_len (leadsE l.length (rawE l)) (rawR l) 8
  rw [List.length_append]; omega
end Go.Proofs.YtbnobjlphmkgeaaGreatDoor
/- The contract of image.Drop; what puts leave of an image, in plain words. -/
namespace Go.Proofs.YtbnobjlphmkgeaaGreatDoor
open Go.RowKit

set_option maxRecDepth 100000 in
theorem idrop_ok (A : Option Addr) (n c : Nat) (l : Bytes) (k : Nat) (w : World) (hn : l.length = n) (hr : rightB n = true) (hnc : n ≤ c) (hrd : Rd w A l) (hk : k < 40) (hE : hasE (rawE l k) = true) :
    Calls Tryz.prog 72 #[.slice A n c, .int .i64 ((k : Int) + 1)] w fun e w' => ∃ g cap, e = .returned (.tuple #[.slice (some ⟨g, 0, none⟩) n cap, .nilIface]) ∧ w.heap.size ≤ g ∧ Row w' 5 g cap (splice l (5 * k) (List.replicate 5 0)) ∧ Below w.heap.size w w' := by
  have hnb := rightB_true.1 hr
  have HG := Hidden.mk ((iget_ok A n c l k w hn hr hnc hrd hk).mono fun _ _ h => (⟨h.1 hE, h.2.2⟩ : _ ∧ _))
  unfold entR entV at HG
  generalize (rAt (rawE l k) : Int) = a1 at *
  generalize (rLen (rawE l k) : Int) = a2 at *
  generalize rTag (rawE l k) = a3 at *
  clear hE
  obtain ⟨p, off, rfl, hpl⟩ := hrd.lt (by omega)
  go_enter Tryz.func72, Tryz.ntmps72
  go_wp2_with fail
  refine HG.out.mono ?_
  rintro e w1 ⟨rfl, hb1⟩
  have hB2 : Below w.heap.size w (w1.alloc (.cells #[.int .i64 ((k : Int) + 1), .int .i64 a1, .int .i64 a2, .int .i64 a3] 66)) := hb1.alloc hb1.size _
  clear hb1
  go_wp2_with fail
  generalize w1.alloc (.cells #[.int .i64 ((k : Int) + 1), .int .i64 a1, .int .i64 a2, .int .i64 a3] 66) = w2 at *
  refine (clone_some _ n c l _ hn (by omega) (hrd.below hB2)).mono ?_
  rintro e w3 ⟨g, cap, rfl, hg, hrow, hb3⟩
  have hB3 := hB2.trans (hb3.mono hB2.size)
  have hgw : w.heap.size ≤ g := Nat.le_trans hB2.size hg
  have hlc := hrow.le.1
  clear hg hb3 hB2
  go_wp2_with fail
  refine (raw_any (some ⟨g, 0, none⟩) n cap ((k : Int) + 1) _ (by omega) (by omega) (by omega) (by omega)).mono ?_
  rintro e w4 ⟨rfl, rfl⟩
  rw [entO_k]
  simp only [Option.map_some, Addr.add_lit, Nat.zero_add]
  obtain ⟨cur, hcur, _, _, hcs, _⟩ := id hrow
  have hclear := fun c' ty => run_clear_row w3 g (5 * k) 5 c' cur _ hcur (by omega) (by omega) ty
  have hrow5 := hrow.set_ (5 * k) (List.replicate 5 0) (by simp; omega) cur hcur
  have hB5 : Below w.heap.size w (w3.setRow g (setB cur (5 * k) ((List.replicate 5 (0 : UInt8)).map bv))) := below_setRow hB3 hgw _
  have H5 := Hidden.mk (And.intro hrow5 hB5)
  clear hrow hrow5 hB5 hB3 hcur hcs hlc
  generalize w3.setRow g (setB cur (5 * k) ((List.replicate 5 (0 : UInt8)).map bv)) = w5 at *
  go_wp2_with (simp only [hclear])
  go_ret2
  exact ⟨g, cap, rfl, hgw, H5.out.1, H5.out.2⟩
theorem rawE_splice (l x : Bytes) (k j : Nat) (hx : x.length = 5) (hk : k < 40) (_hj : j < 40) (hl : 200 ≤ l.length) : rawE (splice l (5 * k) x) j = if j = k then x else rawE l j := by
  apply List.ext_getElem?
  intro q
  unfold rawE
  rw [List.getElem?_take, List.getElem?_drop, splice_at _ _ _ _ (by omega)]
  by_cases hq : q < 5
  · rw [if_pos hq]
    by_cases hjk : j = k
    · subst hjk
      rw [if_pos (by omega), if_pos rfl]
      congr 1; omega
    · rw [if_neg (by omega), if_neg hjk, List.getElem?_take, if_pos hq, List.getElem?_drop]
  · rw [if_neg hq]
    by_cases hjk : j = k
    · rw [if_pos hjk, List.getElem?_eq_none (by omega)]
    · rw [if_neg hjk, List.getElem?_take, if_neg hq]
theorem rawR_splice (l x : Bytes) (i j : Nat) (hx : x.length = 11) (hi : i < 8) (_hj : j < 8) (hl : 288 ≤ l.length) : rawR (splice l (200 + 11 * i) x) j = if j = i then x else rawR l j := by
  apply List.ext_getElem?
  intro q
  unfold rawR
  rw [List.getElem?_take, List.getElem?_drop, splice_at _ _ _ _ (by omega)]
  by_cases hq : q < 11
  · rw [if_pos hq]
    by_cases hji : j = i
    · subst hji
      rw [if_pos (by omega), if_pos rfl]
      congr 1; omega
    · rw [if_neg (by omega), if_neg hji, List.getElem?_take, if_pos hq, List.getElem?_drop]
  · rw [if_neg hq]
    by_cases hji : j = i
    · rw [if_pos hji, List.getElem?_eq_none (by omega)]
    · rw [if_neg hji, List.getElem?_take, if_neg hq]
theorem rawR_head (l x : Bytes) (o j : Nat) (hx : o + x.length ≤ 200) (hl : 200 ≤ l.length) : rawR (splice l o x) j = rawR l j := by
  apply List.ext_getElem?
  intro q
  unfold rawR
  rw [List.getElem?_take, List.getElem?_drop, List.getElem?_take, List.getElem?_drop]
  by_cases hq : q < 11
  · rw [if_pos hq, if_pos hq, splice_at _ _ _ _ (by omega), if_neg (by omega)]
  · rw [if_neg hq, if_neg hq]
theorem ofB_two (n : Nat) (h : n < 65536) : ofB (numB n 2) = n := by
  have h1 := ofNat_mod n
  have h2 := ofNat_mod (n / 256)
  simp only [numB, ofB, h1, h2]
  omega
theorem entB_rd (a b t : Nat) (ha : a < 65536) (hb : b < 65536) (ht : t ≤ 15) : hasE (entB a b t) = true ∧ rAt (entB a b t) = a ∧ rLen (entB a b t) = b ∧ rTag (entB a b t) = t := by
  have hd : (UInt8.ofNat (t + 1)).toNat = t + 1 := by rw [UInt8.toNat_ofNat', Nat.mod_eq_of_lt (by omega)]
  have h2 : (numB a 2).length = 2 := numB_length a 2
  have h3 : (numB b 2).length = 2 := numB_length b 2
  refine ⟨?_, ?_, ?_, ?_⟩
  · unfold hasE rHd entB
    simp only [List.headD_cons]
    rw [bne_iff_ne]
    intro e
    rw [e] at hd
    simp at hd
  · unfold rAt entB
    rw [List.drop_one, List.tail_cons, List.take_append_of_le_length (by omega), List.take_of_length_le (by omega), ofB_two a ha]
  · unfold rLen entB
    rw [List.drop_succ_cons, List.drop_append, List.drop_of_length_le (by omega), h2, List.nil_append, List.drop_zero, List.take_of_length_le (by omega), ofB_two b hb]
  · unfold rTag rHd entB
    simp only [List.headD_cons]
    omega
theorem rootsF_congr (S S' : Nat → Bytes) : ∀ m, (∀ j, j < m → S j = S' j) → rootsF S m = rootsF S' m
  | 0, _ => rfl
  | m + 1, h => by rw [rootsF_succ, rootsF_succ, h m (by omega), rootsF_congr S S' m (fun j hj => h j (by omega))]
theorem idrop_e (A : Option Addr) (n c : Nat) (h k : Int) (w : World) (hget : Calls Tryz.prog 66 #[.slice A n c, .int .i64 h] w fun e w' => e = .returned (.tuple #[entV 0 0 0 0, .iface 111 (.int .i64 k)]) ∧ Below w.heap.size w w') :
    Calls Tryz.prog 72 #[.slice A n c, .int .i64 h] w fun e w' => e = .returned (.tuple #[.slice none 0 0, .iface 111 (.int .i64 k)]) ∧ Below w.heap.size w w' := by
  have HG := Hidden.mk hget
  unfold entV at HG
  clear hget
  go_enter Tryz.func72, Tryz.ntmps72
  go_wp2_with fail
  refine HG.out.mono ?_
  rintro e w1 ⟨rfl, hb1⟩
  have hB2 : Below w.heap.size w (w1.alloc (.cells #[.int .i64 0, .int .i64 0, .int .i64 0, .int .i64 0] 66)) := hb1.alloc hb1.size _
  clear hb1
  go_wp2_with fail
  go_ret2
  exact ⟨rfl, hB2⟩
end Go.Proofs.YtbnobjlphmkgeaaGreatDoor
/- An image that is right, plainly: its handles, its roots; what stays right. No walk here. -/
namespace Go.Proofs.YtbnobjlphmkgeaaGreatDoor
open Go.RowKit

/-- which handles have an object -/
def leadsS (R : Nat → Bytes) (x : UInt8) : Bool := (List.range 40).any fun k => hasE (R k) && x.toNat == k + 1
/-- an image of n bytes that is right: R its handles, S its roots -/
structure GoodS (n : Nat) (R S : Nat → Bytes) : Prop where
  none : ∀ k, k < 40 → hasE (R k) = false → zeroE (R k) = true
  fit : ∀ k, k < 40 → hasE (R k) = true → strayE n (R k) = false
  apart : ∀ k, k < 40 → ∀ j, j < k → hasE (R k) = true → hasE (R j) = true → overE (R k) (R j) = false
  root : ∀ i, i < 8 → zeroE (S i) = false → badR (leadsS R) (S i) = false
  name : ∀ i, i < 8 → ∀ j, j < i → zeroE (S i) = false → zeroE (S j) = false → nmR (S i) ≠ nmR (S j)
structure Good (l : Bytes) : Prop where
  len : rightB l.length = true
  chk : checkL l = []
theorem checkL_nil {l : Bytes} : checkL l = [] ↔ (∀ k, k < 40 → kindH l.length (rawE l) k = 0 ∨ kindH l.length (rawE l) k = 6) ∧ (∀ i, i < 8 → kindR (leadsE l.length (rawE l)) (rawR l) i = 0 ∨ kindR (leadsE l.length (rawE l)) (rawR l) i = 6) := by
  constructor
  · intro h
    have hn : ∀ f, f ∉ checkL l := fun f hf => by rw [h] at hf; cases hf
    refine ⟨fun k hk => ?_, fun i hi => ?_⟩
    · exact Classical.byContradiction fun hc => hn _ (mem_checkL.2 (.inl ⟨k, hk, hc, rfl⟩))
    · exact Classical.byContradiction fun hc => hn _ (mem_checkL.2 (.inr ⟨i, hi, hc, rfl⟩))
  · rintro ⟨h1, h2⟩
    refine List.eq_nil_iff_forall_not_mem.2 fun f hf => ?_
    rcases mem_checkL.1 hf with ⟨k, hk, hn, _⟩ | ⟨i, hi, hn, _⟩
    · exact hn (h1 k hk)
    · exact hn (h2 i hi)
theorem overE_symm (r s : Bytes) : overE r s = overE s r := by unfold overE; rw [Bool.and_comm]
theorem kindH_has {n : Nat} {R : Nat → Bytes} {k : Nat} (h : kindH n R k = 0 ∨ kindH n R k = 6) : (hasE (R k) = true → kindH n R k = 6 ∧ strayE n (R k) = false ∧ (List.range k).any (fun j => wholeE n (R j) && overE (R k) (R j)) = false) ∧ (hasE (R k) = false → kindH n R k = 0 ∧ zeroE (R k) = true) := by
  unfold kindH at h ⊢
  constructor
  · intro hh
    rw [if_pos hh] at h ⊢
    cases hs : strayE n (R k) with
    | true => rw [hs] at h; simp at h
    | false =>
      rw [hs] at h
      cases ha : (List.range k).any (fun j => wholeE n (R j) && overE (R k) (R j)) with
      | true => rw [ha] at h; simp at h
      | false => simp
  · intro hh
    rw [if_neg (by rw [hh]; decide)] at h ⊢
    cases hz : zeroE (R k) with
    | true => simp
    | false => rw [hz] at h; simp at h
theorem leads_eq {n : Nat} {R : Nat → Bytes} (h : ∀ k, k < 40 → (kindH n R k = 6 ↔ hasE (R k) = true)) : leadsE n R = leadsS R := by
  funext x
  unfold leadsE leadsS
  have : ∀ k ∈ List.range 40, (kindH n R k == 6 && x.toNat == k + 1) = (hasE (R k) && x.toNat == k + 1) := fun k hk => by
    have := h k (List.mem_range.1 hk)
    congr 1
    rw [Bool.eq_iff_iff, beq_iff_eq]
    exact this
  rw [Bool.eq_iff_iff, List.any_eq_true, List.any_eq_true]
  constructor
  · rintro ⟨k, hk, h⟩; exact ⟨k, hk, (this k hk) ▸ h⟩
  · rintro ⟨k, hk, h⟩; exact ⟨k, hk, (this k hk).symm ▸ h⟩
theorem kinds_good {n : Nat} {R S : Nat → Bytes} : ((∀ k, k < 40 → kindH n R k = 0 ∨ kindH n R k = 6) ∧ (∀ i, i < 8 → kindR (leadsE n R) S i = 0 ∨ kindR (leadsE n R) S i = 6)) ↔ GoodS n R S := by
  constructor
  · rintro ⟨hH, hR⟩
    have hle : leadsE n R = leadsS R := leads_eq fun k hk => by
      have := kindH_has (hH k hk)
      constructor
      · intro h6
        cases hh : hasE (R k) with
        | true => rfl
        | false => have := (this.2 hh).1; omega
      · intro hh; exact (this.1 hh).1
    rw [hle] at hR
    have hr : ∀ i, i < 8 → zeroE (S i) = false → badR (leadsS R) (S i) = false ∧ (List.range i).any (fun j => okR (leadsS R) (S j) && (nmR (S i) == nmR (S j))) = false := fun i hi hz => by
      have h := hR i hi
      unfold kindR at h
      rw [if_neg (by rw [hz]; decide)] at h
      cases hb : badR (leadsS R) (S i) with
      | true => rw [hb] at h; simp at h
      | false =>
        rw [hb] at h
        cases ha : (List.range i).any (fun j => okR (leadsS R) (S j) && (nmR (S i) == nmR (S j))) with
        | true => rw [ha] at h; simp at h
        | false => simp
    refine ⟨fun k hk hh => ((kindH_has (hH k hk)).2 hh).2, fun k hk hh => ((kindH_has (hH k hk)).1 hh).2.1, fun k hk j hj hh hh' => ?_, fun i hi hz => (hr i hi hz).1, fun i hi j hj hz hz' => ?_⟩
    · have h1 := ((kindH_has (hH k hk)).1 hh).2.2
      have h2 := ((kindH_has (hH j (by omega))).1 hh').2.1
      rw [List.any_eq_false] at h1
      have h3 := h1 j (List.mem_range.2 hj)
      unfold wholeE at h3
      rw [hh', h2] at h3
      simpa using h3
    · have h1 := (hr i hi hz).2
      have h2 := (hr j (by omega) hz').1
      rw [List.any_eq_false] at h1
      have h3 := h1 j (List.mem_range.2 hj)
      unfold okR at h3
      rw [hz', h2] at h3
      simpa using h3
  · intro g
    have hH : ∀ k, k < 40 → (hasE (R k) = true → kindH n R k = 6) ∧ (hasE (R k) = false → kindH n R k = 0) := fun k hk => by
      unfold kindH
      constructor
      · intro hh
        rw [if_pos hh, if_neg (by rw [g.fit k hk hh]; decide), if_neg]
        rw [Bool.not_eq_true, List.any_eq_false]
        intro j hj
        have hj := List.mem_range.1 hj
        cases hh' : hasE (R j) with
        | false => simp [wholeE, hh']
        | true => rw [g.apart k hk j hj hh hh']; simp
      · intro hh
        rw [if_neg (by rw [hh]; decide), if_pos (g.none k hk hh)]
    have hle : leadsE n R = leadsS R := leads_eq fun k hk => by
      constructor
      · intro h6
        cases hh : hasE (R k) with
        | true => rfl
        | false => have := (hH k hk).2 hh; omega
      · intro hh; exact (hH k hk).1 hh
    rw [hle]
    refine ⟨fun k hk => ?_, fun i hi => ?_⟩
    · cases hh : hasE (R k) with
      | true => exact .inr ((hH k hk).1 hh)
      | false => exact .inl ((hH k hk).2 hh)
    · unfold kindR
      cases hz : zeroE (S i) with
      | true => left; simp
      | false =>
        right
        rw [if_neg (by decide), if_neg (by rw [g.root i hi hz]; decide), if_neg]
        rw [Bool.not_eq_true, List.any_eq_false]
        intro j hj
        have hj := List.mem_range.1 hj
        cases hz' : zeroE (S j) with
        | true => simp [okR, hz']
        | false =>
          have := g.name i hi j hj hz hz'
          simp [this]
theorem good_iff {l : Bytes} : Good l ↔ rightB l.length = true ∧ GoodS l.length (rawE l) (rawR l) := by
  constructor
  · rintro ⟨h1, h2⟩; exact ⟨h1, kinds_good.1 (checkL_nil.1 h2)⟩
  · rintro ⟨h1, h2⟩; exact ⟨h1, checkL_nil.2 (kinds_good.2 h2)⟩
theorem Good.s {l : Bytes} (h : Good l) : GoodS l.length (rawE l) (rawR l) := (good_iff.1 h).2
theorem Good.bd {l : Bytes} (h : Good l) : 288 ≤ l.length ∧ l.length ≤ 6400 := by have := rightB_true.1 h.len; omega
section
variable {n : Nat} {R R' S S' : Nat → Bytes}
theorem leadsS_iff {x : UInt8} : leadsS R x = true ↔ ∃ k, k < 40 ∧ hasE (R k) = true ∧ x.toNat = k + 1 := by
  unfold leadsS
  rw [List.any_eq_true]
  simp only [List.mem_range, Bool.and_eq_true, beq_iff_eq]
theorem badR_mono {L L' : UInt8 → Bool} {r : Bytes} (h : badR L r = false) (hm : L (r.getD 10 0) = true → L' (r.getD 10 0) = true) : badR L' r = false := by
  unfold badR at h ⊢
  simp only [Bool.or_eq_false_iff, Bool.not_eq_false'] at h ⊢
  exact ⟨h.1, hm h.2⟩
theorem badR_lead {L : UInt8 → Bool} {r : Bytes} (h : badR L r = false) : L (r.getD 10 0) = true := by
  unfold badR at h
  simp only [Bool.or_eq_false_iff, Bool.not_eq_false'] at h
  exact h.2
/-- an entry that is put -/
theorem GoodS.putE (g : GoodS n R S) (k : Nat) (hk : k < 40) (r : Bytes) (h' : ∀ j, j < 40 → R' j = if j = k then r else R j) (hr : hasE r = true) (hs : strayE n r = false) (ho : ∀ j, j < 40 → j ≠ k → hasE (R j) = true → overE r (R j) = false) : GoodS n R' S where
  none j hj hh := by
    rw [h' j hj] at hh ⊢
    by_cases e : j = k
    · rw [if_pos e, hr] at hh; cases hh
    · rw [if_neg e] at hh ⊢; exact g.none j hj hh
  fit j hj hh := by
    rw [h' j hj] at hh ⊢
    by_cases e : j = k
    · rw [if_pos e]; exact hs
    · rw [if_neg e] at hh ⊢; exact g.fit j hj hh
  apart i hi j hj hh hh' := by
    rw [h' i hi] at hh ⊢
    rw [h' j (by omega)] at hh' ⊢
    by_cases e : i = k
    · rw [if_pos e, if_neg (by omega)]
      rw [if_neg (by omega)] at hh'
      exact ho j (by omega) (by omega) hh'
    · rw [if_neg e] at hh ⊢
      by_cases e' : j = k
      · rw [if_pos e', overE_symm]
        exact ho i hi (by omega) hh
      · rw [if_neg e'] at hh' ⊢
        exact g.apart i hi j hj hh hh'
  root i hi hz := badR_mono (g.root i hi hz) fun hl => by
    obtain ⟨j, hj, hh, hx⟩ := leadsS_iff.1 hl
    refine leadsS_iff.2 ⟨j, hj, ?_, hx⟩
    rw [h' j hj]
    by_cases e : j = k
    · rw [if_pos e]; exact hr
    · rw [if_neg e]; exact hh
  name := g.name
/-- an entry that is dropped: no root leads to it -/
theorem GoodS.dropE (g : GoodS n R S) (k : Nat) (_hk : k < 40) (h' : ∀ j, j < 40 → R' j = if j = k then List.replicate 5 0 else R j) (hno : ∀ i, i < 8 → zeroE (S i) = false → ((S i).getD 10 0).toNat ≠ k + 1) : GoodS n R' S where
  none j hj hh := by
    rw [h' j hj] at hh ⊢
    by_cases e : j = k
    · rw [if_pos e]; exact zeros_zero 5
    · rw [if_neg e] at hh ⊢; exact g.none j hj hh
  fit j hj hh := by
    rw [h' j hj] at hh ⊢
    by_cases e : j = k
    · rw [if_pos e, zeros_has] at hh; cases hh
    · rw [if_neg e] at hh ⊢; exact g.fit j hj hh
  apart i hi j hj hh hh' := by
    rw [h' i hi] at hh ⊢
    rw [h' j (by omega)] at hh' ⊢
    by_cases e : i = k
    · rw [if_pos e, zeros_has] at hh; cases hh
    · by_cases e' : j = k
      · rw [if_pos e', zeros_has] at hh'; cases hh'
      · rw [if_neg e] at hh ⊢
        rw [if_neg e'] at hh' ⊢
        exact g.apart i hi j hj hh hh'
  root i hi hz := badR_mono (g.root i hi hz) fun hl => by
    obtain ⟨j, hj, hh, hx⟩ := leadsS_iff.1 hl
    refine leadsS_iff.2 ⟨j, hj, ?_, hx⟩
    rw [h' j hj]
    by_cases e : j = k
    · exact absurd (by omega) (hno i hi hz)
    · rw [if_neg e]; exact hh
  name := g.name
/-- a root that is put, or nothing in its place -/
theorem GoodS.putR (g : GoodS n R S) (i : Nat) (r : Bytes) (h' : ∀ j, j < 8 → S' j = if j = i then r else S j) (hr : zeroE r = true ∨ (badR (leadsS R) r = false ∧ ∀ j, j < 8 → j ≠ i → zeroE (S j) = false → nmR r ≠ nmR (S j))) : GoodS n R S' where
  none := g.none
  fit := g.fit
  apart := g.apart
  root j hj hz := by
    rw [h' j hj] at hz ⊢
    by_cases e : j = i
    · rw [if_pos e] at hz ⊢
      rcases hr with h | h
      · rw [h] at hz; cases hz
      · exact h.1
    · rw [if_neg e] at hz ⊢; exact g.root j hj hz
  name a ha b hb hz hz' := by
    rw [h' a ha] at hz ⊢
    rw [h' b (by omega)] at hz' ⊢
    by_cases e : a = i
    · rw [if_pos e] at hz ⊢
      rw [if_neg (by omega)] at hz' ⊢
      rcases hr with h | h
      · rw [h] at hz; cases hz
      · exact h.2 b (by omega) (by omega) hz'
    · rw [if_neg e] at hz ⊢
      by_cases e' : b = i
      · rw [if_pos e'] at hz' ⊢
        rcases hr with h | h
        · rw [h] at hz'; cases hz'
        · exact (h.2 a ha e hz).symm
      · rw [if_neg e'] at hz' ⊢; exact g.name a ha b hb hz hz'
end
theorem zeros_cut' (n a m : Nat) (h : a + m ≤ n) : ((List.replicate n (0 : UInt8)).drop a).take m = List.replicate m 0 := by
  rw [List.drop_replicate, List.take_replicate]; congr 1; omega
/-- an image of nothing -/
theorem good_zero' {n : Nat} (h : rightB n = true) : Good (List.replicate n 0) := by
  have hb := rightB_true.1 h
  have hE : ∀ k, k < 40 → rawE (List.replicate n 0) k = List.replicate 5 0 := fun k hk => zeros_cut' n (5 * k) 5 (by omega)
  have hR : ∀ i, i < 8 → rawR (List.replicate n 0) i = List.replicate 11 0 := fun i hi => zeros_cut' n (200 + 11 * i) 11 (by omega)
  refine good_iff.2 ⟨by rw [List.length_replicate]; exact h, ⟨fun k hk _ => by rw [hE k hk]; exact zeros_zero 5, fun k hk hh => ?_, fun k hk j hj hh _ => ?_, fun i hi hz => ?_, fun i hi j hj hz _ => ?_⟩⟩
  · rw [hE k hk, zeros_has] at hh; cases hh
  · rw [hE k hk, zeros_has] at hh; cases hh
  · rw [hR i hi, zeros_zero] at hz; cases hz
  · rw [hR i hi, zeros_zero] at hz; cases hz
end Go.Proofs.YtbnobjlphmkgeaaGreatDoor
/- The reference's Check: a row of numbers in memory; what is wrong with handles. -/
namespace Go.Proofs.YtbnobjlphmkgeaaGreatDoor
open Go.RowKit

def updI (f : Nat → Int) (i : Nat) (v : Int) (j : Nat) : Int := if j = i then v else f j
/-- block g is a row of N numbers -/
structure IRow (w : World) (g N : Nat) (f : Nat → Int) : Prop where
  out : ∃ cur, w.heap[g]? = some (.cells cur 3 (0, 0)) ∧ cur.size = N ∧ ∀ i, i < N → cur[i]? = some (.int .i64 (f i))
section
variable {w w' : World} {g N : Nat} {f : Nat → Int}
theorem IRow.cell (h : IRow w g N f) (i : Nat) (hi : i < N) : w.cell? ⟨g, i, none⟩ = some (.int .i64 (f i)) := by
  obtain ⟨cur, h0, h1, h2⟩ := h.out
  rw [cell_of_row w g i cur _ _ h0]; exact h2 i hi
theorem IRow.frozen (h : IRow w g N f) (i : Nat) : w.frozen? ⟨g, i, none⟩ = false := by
  obtain ⟨cur, h0, _⟩ := h.out
  exact frozen_of_row w g i _ _ h0
theorem IRow.set (h : IRow w g N f) (i : Nat) (v : Int) : IRow (w.setCell ⟨g, i, none⟩ (.int .i64 v)) g N (updI f i v) := by
  obtain ⟨cur, h0, h1, h2⟩ := h.out
  refine ⟨cur.setIfInBounds i (.int .i64 v), heap_setK h0 _, by simpa using h1, fun j hj => ?_⟩
  rw [Array.getElem?_setIfInBounds]
  unfold updI
  by_cases hij : i = j
  · rw [if_pos hij, if_pos (by omega), if_pos hij.symm]
  · rw [if_neg hij, if_neg (fun e => hij e.symm)]; exact h2 j hj
theorem IRow.block (h : IRow w g N f) (hb : w'.heap[g]? = w.heap[g]?) : IRow w' g N f := by
  obtain ⟨cur, h0, h1⟩ := h.out
  exact ⟨cur, hb.trans h0, h1⟩
theorem IRow.lt (h : IRow w g N f) : g < w.heap.size := by
  obtain ⟨cur, h0, _⟩ := h.out
  exact (Array.getElem?_eq_some_iff.1 h0).1
theorem IRow.below (h : IRow w g N f) (hb : Below w.heap.size w w') : IRow w' g N f := h.block (hb.block _ h.lt)
theorem IRow.congr {f' : Nat → Int} (h : IRow w g N f) (he : ∀ i, i < N → f i = f' i) : IRow w g N f' := by
  obtain ⟨cur, h0, h1, h2⟩ := h.out
  exact ⟨cur, h0, h1, fun i hi => by rw [h2 i hi, he i hi]⟩
theorem IRow.ne (h : IRow w g N f) {base : Nat} {e : TypeId} {size n : Nat} {v : Value} {xs : List Value} (h2 : w.ownsRow base e size v n xs) (hne : e ≠ 3) : v.ownBlock ≠ some g := fun he => by
  obtain ⟨cur, h0, _⟩ := h.out
  rcases h2.2 with ⟨rfl, _⟩ | ⟨g', cap', cur', rfl, _, hh', _⟩
  · simp [Value.ownBlock] at he
  · obtain rfl : g' = g := by simpa [Value.ownBlock] using he
    rw [h0] at hh'
    injection hh' with hh'
    injection hh' with _ hh'
    exact hne hh'.symm
theorem IRow.grown (h : IRow w g N f) {v : Value} (hg : w.grownBy w' v.ownBlock) (hne : v.ownBlock ≠ some g) : IRow w' g N f := h.block (hg.block g h.lt (fun e => hne e.symm))
end
theorem int_infoC : (Tryz.prog.info? 3).map (fun i => (i.zero, i.size, i.bytes)) = some (some (.int .i64 0), 1, 8) := by kernel_rfl
/-- make([]int, n) -/
theorem mk_ints (n : Nat) (hn : n ≤ 35184372088832) (w : World) :
    (Instr.makeSlice 54 (.int .i64 n) (.int .i64 n)).run Tryz.prog w = .ok (.slice (some ⟨w.heap.size, 0, none⟩) n n) (w.alloc (.cells (Array.replicate n (.int .i64 0)) 3)) := by
  obtain ⟨i0, hi0, hz0, hz1, hz2⟩ := info_parts int_infoC
  have hr := run_make (P := Tryz.prog) w 54 3 i0 _ Tryz.underlying54 hi0 hz0 .i64 .i64 n n (by omega) (by omega) (by rw [hz2]; omega) (by omega)
  simp only [Int.toNat_natCast, hz1, Nat.mul_one] at hr
  have hcells : madeCells (Value.int IntKind.i64 0).cells n = Array.replicate n (.int .i64 0) := by
    apply Array.ext'
    rw [show (Value.int IntKind.i64 0).cells = #[Value.int IntKind.i64 0] from rfl, toList_madeCells_one]
    simp
  rw [hcells] at hr
  exact hr
theorem IRow.new (w : World) (n : Nat) : IRow (w.alloc (.cells (Array.replicate n (.int .i64 0)) 3)) w.heap.size n (fun _ => 0) :=
  ⟨_, heap_alloc_new w _, by simp, fun i hi => by simp [hi]⟩
/-- what the reference notes of a handle -/
def wvK (k : Nat) : Int := if k = 6 then 1 else if k = 2 then 2 else if k = 1 then 3 else 0
def whatF (n : Nat) (R : Nat → Bytes) (m i : Nat) : Int := if 1 ≤ i ∧ i ≤ m then wvK (kindH n R (i - 1)) else 0
theorem whatF_succ (n : Nat) (R : Nat → Bytes) (k i : Nat) : whatF n R (k + 1) i = updI (whatF n R k) (k + 1) (wvK (kindH n R k)) i := by
  unfold whatF updI
  by_cases h : i = k + 1
  · rw [if_pos (by omega), if_pos h, h]; rfl
  · rw [if_neg h]
    dsimp only
    by_cases h2 : 1 ≤ i ∧ i ≤ k
    · rw [if_pos (by omega), if_pos h2]
    · rw [if_neg (by omega), if_neg h2]
theorem whatF_zero (n : Nat) (R : Nat → Bytes) (k : Nat) (h : wvK (kindH n R k) = 0) (i : Nat) : whatF n R (k + 1) i = whatF n R k i := by
  rw [whatF_succ]
  unfold updI
  by_cases hi : i = k + 1
  · rw [if_pos hi, h, hi]; unfold whatF; rw [if_neg (by omega)]
  · rw [if_neg hi]
theorem whatF_at (n : Nat) (R : Nat → Bytes) (k j : Nat) (h : j < k) : whatF n R k (j + 1) = wvK (kindH n R j) := by
  unfold whatF; rw [if_pos (by omega)]; rfl
theorem wv_whole (n : Nat) (R : Nat → Bytes) (j : Nat) : wholeE n (R j) = (decide (wvK (kindH n R j) = 1) || decide (wvK (kindH n R j) = 2)) := by
  obtain ⟨b, hb⟩ : ∃ b, (List.range j).any (fun i => wholeE n (R i) && overE (R j) (R i)) = b := ⟨_, rfl⟩
  unfold kindH
  rw [hb]
  unfold wholeE wvK
  cases hasE (R j) <;> cases strayE n (R j) <;> cases b <;> cases zeroE (R j) <;> simp
theorem updI_same (f : Nat → Int) (i : Nat) (a b : Int) (j : Nat) : updI (updI f i a) i b j = updI f i b j := by
  unfold updI; split <;> rfl
theorem zero5 (r : Bytes) (h5 : r.length = 5) (h0 : hasE r = false) : zeroE r = (decide (rAt r = 0) && decide (rLen r = 0)) := by
  match r, h5 with
  | [a, b, c, d, e], _ =>
    have hz : ∀ x : UInt8, x = 0 ↔ x.toNat = 0 := fun x => by rw [← UInt8.toNat_inj]; rfl
    have ha : a = 0 := by simpa [hasE, rHd] using h0
    subst ha
    have hA : rAt [0, b, c, d, e] = b.toNat + 256 * c.toNat := by simp [rAt, ofB]
    have hL : rLen [0, b, c, d, e] = d.toNat + 256 * e.toNat := by simp [rLen, ofB]
    rw [hA, hL]
    by_cases h : b = 0 ∧ c = 0 ∧ d = 0 ∧ e = 0
    · obtain ⟨rfl, rfl, rfl, rfl⟩ := h
      decide
    · have h' : ¬ (b.toNat = 0 ∧ c.toNat = 0 ∧ d.toNat = 0 ∧ e.toNat = 0) := fun hh => h ⟨(hz b).2 hh.1, (hz c).2 hh.2.1, (hz d).2 hh.2.2.1, (hz e).2 hh.2.2.2⟩
      have e1 : zeroE [0, b, c, d, e] = false := by
        cases hq : zeroE [0, b, c, d, e] with
        | false => rfl
        | true =>
          exfalso
          apply h
          simpa [zeroE, nonZero] using hq
      rw [e1]
      symm
      rw [Bool.and_eq_false_iff, decide_eq_false_iff_not, decide_eq_false_iff_not]
      omega
theorem stray_entE (n : Nat) (k : Nat) (hk : k < 40) (r : Bytes) : (entE n ((k : Int) + 1) (rAt r) (rLen r) (rTag r) = 0 ↔ strayE n r = false) := by
  have hh : handleB ((k : Int) + 1) = true := handleB_true.2 (by omega)
  unfold entE strayE
  rw [hh]
  cases tagB (rTag r) <;> cases lenB (rLen r) <;> cases withinB n (rAt r) (rLen r) <;> simp
/-- over one of the first j -/
def anyO (n : Nat) (R : Nat → Bytes) (k j : Nat) : Bool := (List.range j).any fun i => wholeE n (R i) && overE (R k) (R i)
theorem anyO_succ (n : Nat) (R : Nat → Bytes) (k j : Nat) : anyO n R k (j + 1) = (anyO n R k j || (wholeE n (R j) && overE (R k) (R j))) := by
  unfold anyO; rw [List.range_succ, List.any_append]; simp
theorem wvK_one {k : Nat} (n : Nat) (R : Nat → Bytes) : wvK (kindH n R k) = 1 ↔ kindH n R k = 6 := by
  rcases kindH_cases n R k with h | h | h | h | h <;> rw [h] <;> decide
theorem leads_what (n : Nat) (R : Nat → Bytes) (x : UInt8) : leadsE n R x = (handleB (x.toNat : Int) && decide (whatF n R 40 x.toNat = 1)) := by
  rw [Bool.eq_iff_iff, Bool.and_eq_true, decide_eq_true_eq, handleB_true]
  unfold leadsE
  rw [List.any_eq_true]
  constructor
  · rintro ⟨k, hk, h⟩
    have hk := List.mem_range.1 hk
    simp only [Bool.and_eq_true, beq_iff_eq] at h
    rw [h.2]
    exact ⟨by omega, by rw [whatF_at n R 40 k hk]; exact (wvK_one n R).2 h.1⟩
  · rintro ⟨hx, h⟩
    refine ⟨x.toNat - 1, List.mem_range.2 (by omega), ?_⟩
    have e : x.toNat = x.toNat - 1 + 1 := by omega
    rw [e, whatF_at n R 40 (x.toNat - 1) (by omega)] at h
    simp only [Bool.and_eq_true, beq_iff_eq]
    exact ⟨(wvK_one n R).1 h, e⟩
set_option maxRecDepth 100000 in
/-- the loop over the overlaps of one handle, told as a step -/
theorem any_next (n : Nat) (R : Nat → Bytes) (k j : Nat) (f : Nat → Int) (i : Nat) :
    updI f (k + 1) (if anyO n R k (j + 1) = true then 2 else 1) i = if (wholeE n (R j) && overE (R k) (R j)) = true then updI (updI f (k + 1) (if anyO n R k j = true then 2 else 1)) (k + 1) 2 i else updI f (k + 1) (if anyO n R k j = true then 2 else 1) i := by
  rw [anyO_succ]
  cases (wholeE n (R j) && overE (R k) (R j)) with
  | true => rw [Bool.or_true, if_pos rfl, if_pos rfl, updI_same]
  | false => rw [Bool.or_false, if_neg (show ¬ false = true by decide)]
end Go.Proofs.YtbnobjlphmkgeaaGreatDoor
